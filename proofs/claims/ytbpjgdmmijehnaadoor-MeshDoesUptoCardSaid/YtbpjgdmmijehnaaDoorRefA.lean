/-
  The document's mesh: named, Len, Clear, Send, Take.
-/
import Derived.Test.YtbpjgdmmijehnaaDoorRef
namespace Go.Proofs.YtbpjgdmmijehnaaDoor
open Go.RowKit Go.X

/-- What a method of the document's mesh leaves. -/
def DidR (v : Value) (w : World) (r : Nat) (n : Int) (R' : Lk → List (List UInt8)) (F : Nat → Prop) (e : Ending) (w' : World) : Prop :=
  e = .returned v ∧ IsRef w' r n R' (Grow F w w') ∧ Ext F w w'

section
variable {w w' : World} {r : Nat} {n : Int} {R : Lk → List (List UInt8)} {F : Nat → Prop} {rb : Nat} {rows : Array Value} {ms : Nat → List Value} {v : Value}
theorem didR_same (h : IsRef w r n R F) : DidR v w r n R F (.returned v) w := ⟨rfl, h.wide (fun _ h => .inl h) fun b hb => hb.elim (h.bound b) fun h => h.2, Ext.refl _ _⟩
theorem RefAt.at (h : RefAt w r n R F rb rows ms) {k : Lk} (hk : thereB n k = true) :
    ∃ ad c, rvR rows (num k) = .slice ad (R k).length c ∧ (R k).length ≤ c ∧ w.cell? ⟨rb, num k, none⟩ = some (.slice ad (R k).length c) := by
  have h1 := h.row (num k)
  rw [h.len k hk] at h1
  obtain ⟨ad, c, e, hc, _⟩ := h1.slice2
  exact ⟨ad, c, e, hc, by rw [h.cellR (num_lt h.few hk), e]⟩
/-- An element of a row. -/
theorem RefAt.elem (h : RefAt w r n R F rb rows ms) {k : Lk} (hk : thereB n k = true) {i : Nat} (hi : i < (R k).length) :
    ∃ b o c m l, rvR rows (num k) = .slice (some ⟨b, o, none⟩) (R k).length c ∧ (R k).length ≤ c ∧ w.cell? ⟨rb, num k, none⟩ = some (.slice (some ⟨b, o, none⟩) (R k).length c) ∧ (ms (num k))[i]? = some m ∧ (R k)[i]? = some l ∧
      w.cell? ⟨b, o + i, none⟩ = some m ∧ (∀ j, w.frozen? ⟨b, j, none⟩ = false) ∧ MsgIs w m l := by
  have h1 := h.row (num k)
  rw [h.len k hk] at h1
  have hl := h.len k hk
  have hm : (ms (num k))[i]? = some ((ms (num k))[i]'(by omega)) := List.getElem?_eq_getElem (by omega)
  obtain ⟨l, hl2, hmsg⟩ := h.msgE hk hm
  rcases h1.shape with ⟨_, h0, _⟩ | ⟨b, o, c, e, hc, _, hcell⟩
  · omega
  · refine ⟨b, o, c, _, l, e, hc, by rw [h.cellR (num_lt h.few hk), e], hm, hl2, hcell i _ hm, fun j => ?_, hmsg⟩
    rw [e] at h1
    exact h1.frozen j

set_option maxHeartbeats 1000000 in
theorem named_ref (M : RefAt w r n R F rb rows ms) (x y i : Int) :
    Calls Tryd.prog 49 #[.pointer (some ⟨r, 0, none⟩), .int .i64 x, .int .i64 y, .int .i64 i] w fun e w' =>
      e = .returned (.tuple #[if askedV n R (x, y) [i] = 0 then .pointer (some ⟨rb, num (x, y), none⟩) else .pointer none, .int .i64 (askedV n R (x, y) [i])]) ∧ w = w' := by
  have hn := M.cellN.1
  have hs := M.cellN.2
  have HM := Lib.hid M
  cases hth : thereB n (x, y) with
  | false =>
    have hth' := Lib.hid hth; clear hth hs M
    have e1 : Hid (askedV n R (x, y) [i] = 1) := by show askedV n R (x, y) [i] = 1; unfold askedV; rw [hth'.out]; rfl
    rw [e1.out]
    go_enter Tryd.func49, Tryd.ntmps49
    go_wp2_with (go_at_call 52; refine (there_ref r n x y _ hn).mono ?_; rintro e w1 ⟨rfl, rfl⟩; rw [hth'.out])
    go_ret2
    exact ⟨rfl, rfl⟩
  | true =>
    have hth' := Lib.hid hth
    obtain ⟨ad, c, hrv, hc, hcell⟩ := M.at hth
    clear hth hrv hc M
    by_cases h1 : 0 ≤ i ∧ i < (R (x, y)).length
    case pos =>
      have e1 : Hid (askedV n R (x, y) [i] = 0) := by
        show askedV n R (x, y) [i] = 0
        unfold askedV; rw [hth'.out, if_pos rfl, if_pos]; simpa using h1
      rw [e1.out]
      obtain ⟨h1, h2⟩ := h1
      have d1 : ¬ i < 0 := by omega
      have d2 : ¬ ((R (x, y)).length : Int) ≤ i := by omega
      clear h1 h2
      go_enter Tryd.func49, Tryd.ntmps49
      go_wp2_with (first | (go_at_call 52; refine (there_ref r n x y _ hn).mono ?_; rintro e w1 ⟨rfl, rfl⟩; rw [hth'.out]) | (go_at_call 53; refine (row_ref HM.out.few hs hth'.out).mono ?_; rintro e w1 ⟨rfl, rfl⟩))
      go_ret2
      exact ⟨rfl, rfl⟩
    case neg =>
      have e1 : Hid (askedV n R (x, y) [i] = 2) := by
        show askedV n R (x, y) [i] = 2
        unfold askedV; rw [hth'.out, if_pos rfl, if_neg]; simpa using h1
      rw [e1.out]
      by_cases h0 : i < 0
      case pos =>
        clear h1
        go_enter Tryd.func49, Tryd.ntmps49
        go_wp2_with (first | (go_at_call 52; refine (there_ref r n x y _ hn).mono ?_; rintro e w1 ⟨rfl, rfl⟩; rw [hth'.out]) | (go_at_call 53; refine (row_ref HM.out.few hs hth'.out).mono ?_; rintro e w1 ⟨rfl, rfl⟩))
        go_ret2
        exact ⟨rfl, rfl⟩
      case neg =>
        have d2 : ((R (x, y)).length : Int) ≤ i := by omega
        clear h1
        go_enter Tryd.func49, Tryd.ntmps49
        go_wp2_with (first | (go_at_call 52; refine (there_ref r n x y _ hn).mono ?_; rintro e w1 ⟨rfl, rfl⟩; rw [hth'.out]) | (go_at_call 53; refine (row_ref HM.out.few hs hth'.out).mono ?_; rintro e w1 ⟨rfl, rfl⟩))
        go_ret2
        exact ⟨rfl, rfl⟩

set_option maxHeartbeats 1000000 in
theorem len_ref (h : IsRef w r n R F) (x y : Int) :
    Calls Tryd.prog 41 #[.pointer (some ⟨r, 0, none⟩), .int .i64 x, .int .i64 y] w fun e w' => e = .returned (.int .i64 (R (x, y)).length) ∧ w = w' := by
  obtain ⟨rb, rows, ms, M⟩ := h
  have hn := M.cellN.1
  have hs := M.cellN.2
  have HM := Lib.hid M
  cases hth : thereB n (x, y) with
  | false =>
    have hth' := Lib.hid hth; clear hth hs M
    rw [HM.out.rest _ hth'.out]
    go_enter Tryd.func41, Tryd.ntmps41
    go_wp2_with (go_at_call 52; refine (there_ref r n x y _ hn).mono ?_; rintro e w1 ⟨rfl, rfl⟩; rw [hth'.out])
    go_ret
    exact ⟨rfl, rfl⟩
  | true =>
    have hth' := Lib.hid hth
    obtain ⟨ad, c, hrv, hc, hcell⟩ := M.at hth
    clear hth hrv hc M
    go_enter Tryd.func41, Tryd.ntmps41
    go_wp2_with (first | (go_at_call 52; refine (there_ref r n x y _ hn).mono ?_; rintro e w1 ⟨rfl, rfl⟩; rw [hth'.out]) | (go_at_call 53; refine (row_ref HM.out.few hs hth'.out).mono ?_; rintro e w1 ⟨rfl, rfl⟩))
    go_ret
    exact ⟨rfl, rfl⟩

set_option maxHeartbeats 1000000 in
theorem clear_ref (h : IsRef w r n R F) (x y : Int) :
    Calls Tryd.prog 39 #[.pointer (some ⟨r, 0, none⟩), .int .i64 x, .int .i64 y] w (DidR (.int .i64 (askedV n R (x, y) [])) w r n (clearR n R (x, y)) F) := by
  obtain ⟨rb, rows, ms, M⟩ := h
  have hn := M.cellN.1
  have hs := M.cellN.2
  have HM := Lib.hid M
  cases hth : thereB n (x, y) with
  | false =>
    have hth' := Lib.hid hth; clear hth hs M
    have e1 : askedV n R (x, y) [] = 1 := by unfold askedV; rw [hth'.out]; rfl
    have e2 : clearR n R (x, y) = R := by unfold clearR; rw [e1]; rfl
    rw [e1, e2]
    clear e1 e2
    go_enter Tryd.func39, Tryd.ntmps39
    go_wp2_with (go_at_call 52; refine (there_ref r n x y _ hn).mono ?_; rintro e w1 ⟨rfl, rfl⟩; rw [hth'.out])
    go_ret
    exact didR_same ⟨_, _, _, HM.out⟩
  | true =>
    have hth' := Lib.hid hth
    obtain ⟨ad, c, hrv, hc, hcell⟩ := M.at hth
    have hfz := M.frozenR (num (x, y))
    have e1 : askedV n R (x, y) [] = 0 := by unfold askedV; rw [hth'.out]; rfl
    have e2 : clearR n R (x, y) = upd R (x, y) [] := by unfold clearR; rw [e1]; rfl
    rw [e1, e2]
    clear e1 e2 hth hrv hc M
    go_enter Tryd.func39, Tryd.ntmps39
    go_wp2_with (first | (go_at_call 52; refine (there_ref r n x y _ hn).mono ?_; rintro e w1 ⟨rfl, rfl⟩; rw [hth'.out]) | (go_at_call 53; refine (row_ref HM.out.few hs hth'.out).mono ?_; rintro e w1 ⟨rfl, rfl⟩))
    go_ret
    have hx : Ext (fun b => b = rb) w (w.setCell ⟨rb, num (x, y), none⟩ nilS) := (Ext.refl (fun b => b = rb) w).setCell (p := ⟨rb, num (x, y), none⟩) (fun _ => rfl) _
    exact ⟨rfl, ⟨_, _, _, HM.out.turn hth'.out (l := []) hx (fun b e => .inl e) (HM.out.setR _ _) (Own.nil _ _ _) rfl (fun i m x hm => by simp at hm) fun b hb => by cases hb⟩, hx.mono fun b _ e => by rw [e]; exact HM.out.fb⟩
end
end Go.Proofs.YtbpjgdmmijehnaaDoor
