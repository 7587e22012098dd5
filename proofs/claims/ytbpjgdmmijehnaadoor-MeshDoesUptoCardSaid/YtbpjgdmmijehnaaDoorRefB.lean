/-
  The document's mesh: Send, Take.
-/
import Derived.Test.YtbpjgdmmijehnaaDoorRefA
namespace Go.Proofs.YtbpjgdmmijehnaaDoor
open Go.RowKit Go.X

section
variable {w w' : World} {r : Nat} {n : Int} {R : Lk → List (List UInt8)} {F : Nat → Prop} {rb : Nat} {rows : Array Value} {ms : Nat → List Value} {v : Value}

/-- A new row, laid in its place. -/
theorem RefAt.stored (h : RefAt w r n R F rb rows ms) {k : Lk} (hk : thereB n k = true) {w7 : World} {v7 : Value} {l : List Value} {L : List (List UInt8)}
    (hx : Ext (fun b => (rvR rows (num k)).ownBlock = some b) w w7) (hrow : Own w7 v7 32 1 l.length l) (hlen : l.length = L.length)
    (hmsg : ∀ (i : Nat) (m : Value) (x : List UInt8), l[i]? = some m → L[i]? = some x → MsgIs w7 m x ∧ ∀ b, m.ownBlock = some b → F b ∨ w.heap.size ≤ b)
    (hrb : ∀ b, v7.ownBlock = some b → (rvR rows (num k)).ownBlock = some b ∨ w.heap.size ≤ b) :
    IsRef (w7.setCell ⟨rb, num k, none⟩ v7) r n (upd R k L) (Grow F w (w7.setCell ⟨rb, num k, none⟩ v7)) ∧ Ext F w (w7.setCell ⟨rb, num k, none⟩ v7) := by
  have h7 : w7.heap[rb]? = some (.cells rows 88 (0, 0)) := hx.heap h.hrows fun e => h.ne_b_row e rfl
  have h8 : (w7.setCell ⟨rb, num k, none⟩ v7).heap[rb]? = some (.cells (rows.setIfInBounds (num k) v7) 88 (0, 0)) := by
    simp [World.setCell, Array.getElem?_modify, h7]
  have hset : Ext (fun b => b = rb) w7 (w7.setCell ⟨rb, num k, none⟩ v7) := (Ext.refl (fun b => b = rb) w7).setCell (p := ⟨rb, num k, none⟩) (fun _ => rfl) _
  have hG : Ext (fun b => b = rb ∨ (rvR rows (num k)).ownBlock = some b) w (w7.setCell ⟨rb, num k, none⟩ v7) :=
    (hx.mono (G := fun b => b = rb ∨ (rvR rows (num k)).ownBlock = some b) fun b _ e => .inr e).trans hset fun _ _ e => .inl e
  refine ⟨⟨_, _, _, h.turn hk hG (fun _ hb => hb) h8 (hrow.ext hset fun b hb e => ?_) hlen (fun i m x hm hx => ?_) hrb⟩, hG.mono fun _ _ e => e.elim (fun e => e ▸ h.fb) (h.frow _ _)⟩
  · obtain ⟨C, hC⟩ := hrow.tag b hb
    rw [e, h7] at hC; cases hC
  · obtain ⟨h1, h2⟩ := hmsg i m x hm hx
    refine ⟨Own.ext h1 hset fun b hb e => ?_, h2⟩
    obtain ⟨C, hC⟩ := Own.tag h1 b hb
    rw [e, h7] at hC; cases hC
theorem RefAt.oldmsg (h : RefAt w r n R F rb rows ms) {k : Lk} (hk : thereB n k = true) {w7 : World} (hx : Ext (fun b => (rvR rows (num k)).ownBlock = some b) w w7) {i : Nat} {m : Value} {x : List UInt8}
    (hm : (ms (num k))[i]? = some m) (hl : (R k)[i]? = some x) : MsgIs w7 m x ∧ ∀ b, m.ownBlock = some b → F b ∨ w.heap.size ≤ b :=
  ⟨Own.ext (h.msg k i m x hk hm hl) hx fun _ hb e => h.ne_row_msg hk hm hb e, fun b hb => .inl (h.fmsg k i m b hk hm hb)⟩
theorem RefAt.ones (h : RefAt w r n R F rb rows ms) {k : Lk} (hk : thereB n k = true) : ∀ u ∈ ms (num k), u.oneCell' = true := fun u hu => by
  obtain ⟨i, hi, rfl⟩ := List.getElem_of_mem hu
  obtain ⟨_, _, h2⟩ := h.msgE hk (List.getElem?_eq_getElem hi)
  exact Own.one h2

/-- A message more behind the others. -/
theorem RefAt.pushed (h : RefAt w r n R F rb rows ms) {k : Lk} (hk : thereB n k = true) {w5 w7 : World} {ad ad3 ad7 : Option Addr} {q c c3 c7 : Nat} {b : List UInt8}
    (hlen : (ms (num k)).length = (R k).length) (hrv : rvR rows (num k) = .slice ad q c) (hx5 : Ext Nil w w5) (hm : MsgIs w5 (.slice ad3 b.length c3) b) (hnew : ∀ z, (Value.slice ad3 b.length c3).ownBlock = some z → w.heap.size ≤ z)
    (hA : Appended w5 w7 (.slice ad q c) (.slice ad7 ((R k).length + 1) c7) 32 1 ((R k).length + 1) (ms (num k) ++ [Value.slice ad3 b.length c3])) :
    IsRef (w7.setCell ⟨rb, num k, none⟩ (.slice ad7 ((R k).length + 1) c7)) r n (upd R k (R k ++ [b])) (Grow F w (w7.setCell ⟨rb, num k, none⟩ (.slice ad7 ((R k).length + 1) c7))) ∧ Ext F w (w7.setCell ⟨rb, num k, none⟩ (.slice ad7 ((R k).length + 1) c7)) := by
  have hx7 : Ext (fun b => (rvR rows (num k)).ownBlock = some b) w w7 := by
    rw [hrv]
    exact hx5.nilMono.trans hA.ext fun _ _ e => e
  have hown : Own w7 (.slice ad7 ((R k).length + 1) c7) 32 1 (ms (num k) ++ [Value.slice ad3 b.length c3]).length (ms (num k) ++ [Value.slice ad3 b.length c3]) := by
    have := hA.own
    rwa [List.length_append, hlen]
  refine h.stored hk (L := R k ++ [b]) hx7 hown (by simp [hlen]) (fun i m' x' hm' hx' => ?_) (fun z hz => ?_)
  · rw [List.getElem?_append] at hm' hx'
    rw [hlen] at hm'
    split at hm'
    · rename_i hi
      rw [if_pos hi] at hx'
      exact h.oldmsg hk hx7 hm' hx'
    · rename_i hi
      rw [if_neg hi] at hx'
      have h0 : i - (R k).length = 0 := by
        have := (List.getElem?_eq_some_iff.1 hm').1
        simp at this; omega
      simp only [h0, List.getElem?_cons_zero, Option.some.injEq] at hm' hx'
      subst hm' hx'
      exact ⟨Own.ext hm hA.ext fun z hz e => by
        have h1 := hnew z hz
        have h2 := h.bound z (h.frow (num k) z (by rw [hrv]; exact e))
        omega, fun z hz => .inr (hnew z hz)⟩
  · rcases hA.lies with h' | ⟨y, h', h1, _⟩
    · exact .inl (by rw [hrv]; exact h'.symm.trans hz)
    · have e2 : y = z := by simpa using h'.symm.trans hz
      have := hx5.size; right; omega
set_option maxRecDepth 100000 in
set_option maxHeartbeats 2000000 in
theorem send_ref (h : IsRef w r n R F) (x y : Int) (v : Value) (b : List UInt8) (hv : BytesAt w v b) :
    Calls Tryd.prog 46 #[.pointer (some ⟨r, 0, none⟩), .int .i64 x, .int .i64 y, v] w (DidR (.int .i64 (sendV n R (x, y) b)) w r n (sendR n R (x, y) b) F) := by
  obtain ⟨ad1, c1, rfl, _⟩ := hv.2.1
  have Hv := Lib.hid hv; clear hv
  obtain ⟨rb, rows, ms, M⟩ := h
  have hn := M.cellN.1
  have hs := M.cellN.2
  have HM := Lib.hid M
  cases hth : thereB n (x, y) with
  | false =>
    have hth' := Lib.hid hth; clear hth hs M
    have e1 : sendV n R (x, y) b = 1 := by unfold sendV; rw [hth'.out]; rfl
    have e2 : sendR n R (x, y) b = R := by unfold sendR; rw [e1]; rfl
    rw [e1, e2]
    clear e1 e2
    go_enter Tryd.func46, Tryd.ntmps46
    go_wp2_with (go_at_call 52; refine (there_ref r n x y _ hn).mono ?_; rintro e w1 ⟨rfl, rfl⟩; rw [hth'.out])
    go_ret
    exact didR_same ⟨_, _, _, HM.out⟩
  | true =>
    have hth' := Lib.hid hth
    by_cases hbig : 2097194 < b.length
    case pos =>
      have e1 : sendV n R (x, y) b = 4 := by unfold sendV; rw [hth'.out, if_pos rfl, if_pos hbig]
      have e2 : sendR n R (x, y) b = R := by unfold sendR; rw [e1]; rfl
      rw [e1, e2]
      clear e1 e2 hth hs M
      go_enter Tryd.func46, Tryd.ntmps46
      go_wp2_with (go_at_call 52; refine (there_ref r n x y _ hn).mono ?_; rintro e w1 ⟨rfl, rfl⟩; rw [hth'.out])
      go_ret
      exact didR_same ⟨_, _, _, HM.out⟩
    case neg =>
      obtain ⟨ad, c, hrv, hc, hcell⟩ := M.at hth
      by_cases hfull : 1024 ≤ (R (x, y)).length
      case pos =>
        have e1 : sendV n R (x, y) b = 3 := by unfold sendV; rw [hth'.out, if_pos rfl, if_neg hbig, if_pos hfull]
        have e2 : sendR n R (x, y) b = R := by unfold sendR; rw [e1]; rfl
        rw [e1, e2]
        clear e1 e2 hth M hrv hc
        go_enter Tryd.func46, Tryd.ntmps46
        go_wp2_with (first | (go_at_call 52; refine (there_ref r n x y _ hn).mono ?_; rintro e w1 ⟨rfl, rfl⟩; rw [hth'.out]) | (go_at_call 53; refine (row_ref HM.out.few hs hth'.out).mono ?_; rintro e w1 ⟨rfl, rfl⟩))
        go_ret
        exact didR_same ⟨_, _, _, HM.out⟩
      case neg =>
        have e1 : sendV n R (x, y) b = 0 := by unfold sendV; rw [hth'.out, if_pos rfl, if_neg hbig, if_neg hfull]
        have e2 : sendR n R (x, y) b = upd R (x, y) (R (x, y) ++ [b]) := by unfold sendR; rw [e1]; rfl
        rw [e1, e2]
        have hrow := M.row (num (x, y))
        rw [M.len _ hth, hrv] at hrow
        have Hrow := Lib.hid hrow
        have Hrv := Lib.hid hrv
        have hrb1 := M.bound rb M.fb
        have hfz := M.frozenR (num (x, y))
        have hnum := num_lt M.few hth
        clear e1 e2 hth hc M hrow hrv
        go_enter Tryd.func46, Tryd.ntmps46
        go_wp2_with (first | (go_at_call 52; refine (there_ref r n x y _ hn).mono ?_; rintro e w1 ⟨rfl, rfl⟩; rw [hth'.out]) | (go_at_call 53; refine (row_ref HM.out.few hs hth'.out).mono ?_; rintro e w1 ⟨rfl, rfl⟩))
        refine X.wp_region_pre 8 [0] [(1, true), (2, true), (3, true), (4, true), (5, true), (6, false), (7, false)] [(8, false), (9, true), (10, true), (11, false)] (by kernel_rfl) (by kernel_rfl) (fun wd hxwd hh => ?_)
        clear hh
        refine X.wpT_pure (o := ⟨_, _, _, _, _, _⟩) rfl rfl ?_
        apply Exists.intro
        refine ⟨fun w' => ?_, ?_⟩
        · go_simp
          rfl
        simp only [Act.put, List.setIfInBounds_toArray, List.set_cons_succ, List.set_cons_zero]
        refine X.wpT_nil ?_
        show X.wpE _ _ _ _ _ _
        repeat
          refine X.wpE_still (o := ⟨_, _, _, _, _, _⟩) rfl rfl ?_
          apply Exists.intro
          refine ⟨fun w' hE => ?_, ?_⟩
          · have hE2 := hxwd.extN hE
            have hc := hE2.cells
            go_simp
            rfl
          simp only [Act.put, List.setIfInBounds_toArray, List.set_cons_succ, List.set_cons_zero]
        refine X.wpE_call (o := ⟨_, _, _, _, _, _⟩) rfl rfl ?_
        apply Exists.intro
        apply Exists.intro
        refine ⟨?_, ?_⟩
        · go_simp
          exact ⟨rfl, rfl⟩
        refine (copied_ref (Hv.out.ext hxwd fun _ _ _ h => h) (by omega)).mono ?_
        rintro e w4 ⟨m, rfl, hm, hx4, hnew⟩
        obtain ⟨ad3, c3, rfl⟩ := Own.slice hm
        refine ⟨_, rfl, hx4, ?_⟩
        simp only [Act.put, List.setIfInBounds_toArray, List.set_cons_succ, List.set_cons_zero]
        refine X.wpE_grow (o := ⟨_, _, _, _, _, _⟩) rfl rfl ?_
        apply Exists.intro
        apply Exists.intro
        refine ⟨?_, ?_, ?_⟩
        · go_simp
          exact ⟨rfl, rfl⟩
        · exact (Ext.refl _ _).alloc _
        simp only [Act.put, List.setIfInBounds_toArray, List.set_cons_succ, List.set_cons_zero]
        refine X.wpE_nil ?_
        have hx15 : Ext Nil w (w4.alloc (Obj.cells #[.slice ad3 b.length c3] 32)) := (hxwd.extN hx4).alloc _
        have hsrc5 : Src (w4.alloc (Obj.cells #[.slice ad3 b.length c3] 32)) (.slice (some ⟨w4.heap.size, 0, none⟩) 1 1) 1 1 [.slice ad3 b.length c3] := src_new w4 [.slice ad3 b.length c3] 32 (by simpa using Own.one hm)
        have hm5 : MsgIs (w4.alloc (Obj.cells #[.slice ad3 b.length c3] 32)) (.slice ad3 b.length c3) b := Own.ext (F := Nil) hm ((Ext.refl _ _).alloc _) fun _ _ h => h
        have hnew2 : ∀ k, (Value.slice ad3 b.length c3).ownBlock = some k → w.heap.size ≤ k := fun b hb => Nat.le_trans hxwd.size (hnew b hb)
        have hnbw : w.heap.size ≤ w4.heap.size := (hxwd.extN hx4).size
        obtain ⟨nb, hnb⟩ : ∃ nb, nb = w4.heap.size := ⟨_, rfl⟩
        rw [← hnb] at hsrc5 hnbw ⊢
        have Hm := Lib.hid hm5
        have Hnew := Lib.hid hnew2
        clear hm hx4 hnew hnb hm5 hnew2
        generalize w4.alloc (Obj.cells #[.slice ad3 b.length c3] 32) = w5 at hx15 hsrc5 Hm ⊢
        have Hrow5 := Lib.hid (Hrow.out.ext hx15 fun _ _ h => h)
        have Hsrc5 := Lib.hid hsrc5
        have Hx15 := Lib.hid hx15
        clear hsrc5 hx15 hxwd
        refine X.wpT_loud (o := ⟨_, _, _, _, _, _⟩) rfl rfl ?_
        refine X.wp_append _ _ 25 rfl elBytes ⟨_, Tryd.underlying25, fun _ h => by cases h⟩ Hrow5.out Hsrc5.out rfl rfl (by omega) (by unfold maxLen; omega) ?_
        intro v7 w7 hA
        obtain ⟨ad7, c7, rfl⟩ := hA.own.slice
        simp only [Act.put, List.setIfInBounds_toArray, List.set_cons_succ, List.set_cons_zero]
        have hx7 : Ext (fun b => (rvR rows (num (x, y))).ownBlock = some b) w w7 := by
          rw [Hrv.out]
          exact Hx15.out.nilMono.trans hA.ext fun _ _ e => e
        have h7 : w7.heap[rb]? = some (.cells rows 88 (0, 0)) := hx7.heap HM.out.hrows fun e => HM.out.ne_b_row e rfl
        have hc7 : w7.cell? ⟨rb, num (x, y), none⟩ = some (.slice ad (R (x, y)).length c) := by
          have := hx7.cell hcell fun e => HM.out.ne_b_row e rfl
          exact this
        have hf7 : w7.frozen? ⟨rb, num (x, y), none⟩ = false := by simp [World.frozen?, h7]
        have HA := Lib.hid hA
        have Hx7 := Lib.hid hx7
        clear hA hx7 h7 hcell hfz
        repeat
          refine X.wpT_pure (o := ⟨_, _, _, _, _, _⟩) rfl rfl ?_
          apply Exists.intro
          refine ⟨fun w' => ?_, ?_⟩
          · go_simp
            rfl
          simp only [Act.put, List.setIfInBounds_toArray, List.set_cons_succ, List.set_cons_zero]
        refine X.wpT_act (o := ⟨_, _, _, _, _, _⟩) rfl rfl ?_
        apply Exists.intro
        refine ⟨?_, ?_⟩
        · go_simp
          rfl
        simp only [Act.put]
        refine X.wpT_nil ?_
        go_wp2
        go_ret
        obtain ⟨H8, hx8⟩ := HM.out.pushed hth'.out (HM.out.len _ hth'.out) Hrv.out Hx15.out Hm.out Hnew.out HA.out
        exact ⟨rfl, H8, hx8⟩
end
end Go.Proofs.YtbpjgdmmijehnaaDoor
