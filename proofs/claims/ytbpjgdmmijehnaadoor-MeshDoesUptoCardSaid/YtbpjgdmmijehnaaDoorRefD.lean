/-
  The document's mesh: Drop.
-/
import Derived.Test.YtbpjgdmmijehnaaDoorRefC
namespace Go.Proofs.YtbpjgdmmijehnaaDoor
open Go.RowKit Go.X

section
variable {w w' : World} {r : Nat} {n : Int} {R : Lk → List (List UInt8)} {F : Nat → Prop} {rb : Nat} {rows : Array Value} {ms : Nat → List Value} {v : Value}

theorem own_any {ad : Option Addr} {a b c : Nat} : (Value.slice ad a c).ownBlock = (Value.slice ad b c).ownBlock := by cases ad <;> rfl
theorem lies_new {w w7 : World} {v : Value} (h : v.ownBlock = (Value.slice (some ⟨w.heap.size, 0, none⟩) 0 0).ownBlock ∨ ∃ k, v.ownBlock = some k ∧ (w.alloc (.cells #[] 32)).heap.size ≤ k ∧ k < w7.heap.size) :
    ∀ k, k < w.heap.size → v.ownBlock = some k → Nil k := fun k hk e => by
  rcases h with h' | ⟨z, h', h1, _⟩
  · have : w.heap.size = k := by simpa [Value.ownBlock] using h'.symm.trans e
    omega
  · have e2 : z = k := by simpa using h'.symm.trans e
    simp at h1; omega

set_option maxRecDepth 100000 in
set_option maxHeartbeats 2000000 in
theorem drop_ref (h : IsRef w r n R F) (x y i : Int) (hcap : (R (x, y)).length ≤ 1024) :
    Calls Tryd.prog 33 #[.pointer (some ⟨r, 0, none⟩), .int .i64 x, .int .i64 y, .int .i64 i] w (DidR (.int .i64 (askedV n R (x, y) [i])) w r n (dropR n R (x, y) i) F) := by
  obtain ⟨rb, rows, ms, M⟩ := h
  have HM := Lib.hid M
  obtain ⟨ev, hev⟩ : ∃ ev, ev = askedV n R (x, y) [i] := ⟨_, rfl⟩
  have Hev := Lib.hid hev
  by_cases hz : ev = 0
  case neg =>
    have hb : (ev != 0) = true := by rw [bne_iff_ne]; exact hz
    have e1 : askedV n R (x, y) [i] = ev := hev.symm
    have e2 : dropR n R (x, y) i = R := by unfold dropR; rw [e1, if_neg hz]
    rw [e1, e2]
    have Hz := Lib.hid hz
    clear e1 e2 M hev hz
    go_enter Tryd.func33, Tryd.ntmps33
    go_wp2_with (go_at_call 49; refine (named_ref HM.out x y i).mono ?_; rintro e w1 ⟨rfl, rfl⟩; rw [← Hev.out])
    go_ret
    exact didR_same ⟨_, _, _, HM.out⟩
  case pos =>
    subst hz
    have hth := (asked_zero hev).1
    have hij := (asked_zero hev).2 i (by simp)
    obtain ⟨j, rfl⟩ := Int.eq_ofNat_of_zero_le hij.1
    have hjn : j < (R (x, y)).length := by omega
    have hth' := Lib.hid hth
    obtain ⟨b, o, c, m, l, hrv, hc, hcell, hm, hl, hmc, hfzm, hmsg⟩ := M.elem hth (i := j) hjn
    obtain ⟨adm, cm, rfl⟩ := Own.slice hmsg
    have hrow := M.row (num (x, y))
    have hlen := M.len _ hth
    rw [hlen, hrv] at hrow
    have hfz := M.frozenR (num (x, y))
    have hrb1 := M.bound rb M.fb
    have hnum := num_lt M.few hth
    have Hmsg := Lib.hid hmsg
    have Hrow := Lib.hid hrow
    have Hlen := Lib.hid hlen
    have Hrv := Lib.hid hrv
    have Hm := Lib.hid hm
    have Hl := Lib.hid hl
    have Hfzm := Lib.hid hfzm
    have ev1 : askedV n R (x, y) [(j : Int)] = 0 := hev.symm
    have Ev := Lib.hid ev1
    have hw : IntKind.i64.wrap ((j : Int) + 1) = (j : Int) + 1 := by rw [IntKind.wrap_i64]; omega
    have e2 : dropR n R (x, y) (j : Int) = upd R (x, y) ((R (x, y)).eraseIdx j) := by unfold dropR; rw [ev1, if_pos rfl]; rfl
    rw [ev1, e2]
    have hones := fun u (hu : u ∈ ms (num (x, y))) => M.ones hth u hu
    have hc1 := hrow.cut (l := 0) (h := j) (by omega) (by omega)
    have hc2 := hrow.cut (l := j + 1) (h := (R (x, y)).length) (by omega) (by omega)
    rw [show ((ms (num (x, y))).drop (0 * 1)).take ((j - 0) * 1) = (ms (num (x, y))).take j by simp] at hc1
    rw [show ((ms (num (x, y))).drop ((j + 1) * 1)).take (((R (x, y)).length - (j + 1)) * 1) = (ms (num (x, y))).drop (j + 1) by
      rw [Nat.mul_one, Nat.mul_one, List.take_of_length_le]; rw [List.length_drop, hlen]; omega] at hc2
    have hs1 := hc1.src fun u hu => hones u (List.mem_of_mem_take hu)
    have hs2 := hc2.src fun u hu => hones u (List.mem_of_mem_drop hu)
    have Hs1 := Lib.hid hs1
    have Hs2 := Lib.hid hs2
    have hsl1 : ∀ w, (Instr.sliceAt 25 (.slice (some ⟨b, o, none⟩) (R (x, y)).length c) none (some (.int .i64 (j : Int))) none).run Tryd.prog w = .ok (cutV (some ⟨b, o, none⟩) 1 0 j c) w :=
      fun w => run_slice elBytes (some ⟨b, o, none⟩) (R (x, y)).length c 0 j none _ (.inl ⟨rfl, rfl⟩) (.inr ⟨_, rfl⟩) (by omega) (by omega) w
    have hsl2 : ∀ w, (Instr.sliceAt 25 (.slice (some ⟨b, o, none⟩) (R (x, y)).length c) (some (.int .i64 ((j : Int) + 1))) none none).run Tryd.prog w = .ok (cutV (some ⟨b, o, none⟩) 1 (j + 1) (R (x, y)).length c) w :=
      fun w => run_slice elBytes (some ⟨b, o, none⟩) (R (x, y)).length c (j + 1) (R (x, y)).length (some (.int .i64 ((j + 1 : Nat) : Int))) none (.inr ⟨_, rfl⟩) (.inl ⟨rfl, rfl⟩) (by omega) (by omega) w
    clear hones hc1 hc2 hs1 hs2 e2
    clear hth M hrv hm hl hfzm hmsg hrow hlen hev ev1 hij
    clear hmc
    go_enter Tryd.func33, Tryd.ntmps33
    go_wp2_with (first | (go_at_call 49; refine (named_ref HM.out x y j).mono ?_; rintro e w1 ⟨rfl, rfl⟩; rw [Ev.out]) | (at_builtin; refine wpList_append rfl _ _ _ rfl elBytes ⟨_, Tryd.underlying25, fun _ h => by cases h⟩ (own_new w #[] 32 1 0 0 [] rfl (Nat.le_refl _) (Nat.zero_le _) (by simp) (by simp)) (Hs1.out.ext (F := Nil) ((Ext.refl _ _).alloc _) fun _ _ h => h) rfl rfl (by omega) (by unfold maxLen; omega) ?_; intro v7 w7 hA; rw [show 0 + (j - 0) = j by omega, List.nil_append] at hA; obtain ⟨ad7, c7, rfl⟩ := hA.own.slice; have hx7 : Ext Nil w w7 := ((Ext.refl Nil w).alloc (.cells #[] 32)).trans hA.ext (new_nil w); have HA := Lib.hid hA; have hc7 := hx7.cell hcell id; have Hx7 := Lib.hid hx7; clear hA hx7) | (at_builtin; refine wpList_append rfl _ _ _ rfl elBytes ⟨_, Tryd.underlying25, fun _ h => by cases h⟩ HA.out.own (Hs2.out.ext (F := Nil) Hx7.out fun _ _ h => h) rfl rfl (by omega) (by unfold maxLen; omega) ?_; intro v8 w8 hB; rw [show j + ((R (x, y)).length - (j + 1)) = (R (x, y)).length - 1 by omega, ← List.eraseIdx_eq_take_drop_succ] at hB; obtain ⟨ad8, c8, rfl⟩ := hB.own.slice; have hx8 : Ext Nil w w8 := Hx7.out.trans hB.ext (lies_new HA.out.lies); have HB := Lib.hid hB; have hc8 := hx8.cell hcell id; have hf8 : w8.frozen? ⟨rb, num (x, y), none⟩ = false := (by rw [World.frozen?_of_block (w := w) (hx8.block rb hrb1 id)]; exact hfz); have Hx8 := Lib.hid hx8; clear hB hx8))
    go_ret
    have hx7 : Ext (fun b => (rvR rows (num (x, y))).ownBlock = some b) w w8 := Hx8.out.nilMono
    have hle : ((ms (num (x, y))).eraseIdx j).length = (R (x, y)).length - 1 := by rw [List.length_eraseIdx_of_lt (by rw [Hlen.out]; exact hjn), Hlen.out]
    obtain ⟨H8, hx8⟩ := HM.out.stored hth'.out (l := (ms (num (x, y))).eraseIdx j) (L := (R (x, y)).eraseIdx j) hx7 (by rw [hle]; exact HB.out.own) (by rw [hle, List.length_eraseIdx_of_lt hjn]) (fun i m' x' hm' hx' => by
      rw [erase_get] at hm' hx'
      exact HM.out.oldmsg hth'.out hx7 hm' hx') (fun k hk => .inr (by
        rcases HB.out.lies with h' | ⟨z, h', h1, _⟩
        · have := lies_new HA.out.lies k
          rcases Nat.lt_or_ge k w.heap.size with h0 | h0
          · exact (this h0 (h'.symm.trans hk)).elim
          · exact h0
        · have e2 : z = k := by simpa using h'.symm.trans hk
          have := Hx7.out.size
          omega))
    exact ⟨rfl, H8, hx8⟩
end
end Go.Proofs.YtbpjgdmmijehnaaDoor
