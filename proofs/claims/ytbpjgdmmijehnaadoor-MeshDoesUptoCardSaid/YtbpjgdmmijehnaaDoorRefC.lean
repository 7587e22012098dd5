/-
  The document's mesh: Take, Drop.
-/
import Derived.Test.YtbpjgdmmijehnaaDoorRefB
namespace Go.Proofs.YtbpjgdmmijehnaaDoor
open Go.RowKit Go.X

section
variable {w w' : World} {r : Nat} {n : Int} {R : Lk → List (List UInt8)} {F : Nat → Prop} {rb : Nat} {rows : Array Value} {ms : Nat → List Value} {v : Value}

theorem new_nil (w : World) : ∀ k, k < w.heap.size → (Value.slice (some ⟨w.heap.size, 0, none⟩) 0 0).ownBlock = some k → Nil k := fun k hk e => by
  have : w.heap.size = k := by simpa [Value.ownBlock] using e
  omega
/-- What Take of the document's mesh leaves. -/
def TookR (w : World) (r : Nat) (n : Int) (R : Lk → List (List UInt8)) (F : Nat → Prop) (k : Lk) (e : Ending) (w' : World) : Prop :=
  if thereB n k then
    match R k with
    | [] => DidR (.tuple #[nilS, .int .i64 (-1)]) w r n R F e w'
    | l :: L => ∃ m, MsgIs w' m l ∧ DidR (.tuple #[m, .int .i64 0]) w r n (upd R k L) F e w'
  else DidR (.tuple #[nilS, .int .i64 1]) w r n R F e w'

set_option maxRecDepth 100000 in
set_option maxHeartbeats 2000000 in
theorem take_ref (h : IsRef w r n R F) (x y : Int) (hcap : (R (x, y)).length ≤ 1024) :
    Calls Tryd.prog 47 #[.pointer (some ⟨r, 0, none⟩), .int .i64 x, .int .i64 y] w (TookR w r n R F (x, y)) := by
  obtain ⟨rb, rows, ms, M⟩ := h
  have hn := M.cellN.1
  have hs := M.cellN.2
  have HM := Lib.hid M
  cases hth : thereB n (x, y) with
  | false =>
    have hth' := Lib.hid hth; clear hth hs M
    go_enter Tryd.func47, Tryd.ntmps47
    go_wp2_with (go_at_call 52; refine (there_ref r n x y _ hn).mono ?_; rintro e w1 ⟨rfl, rfl⟩; rw [hth'.out])
    go_ret2
    unfold TookR
    rw [hth'.out, if_neg (by decide)]
    exact didR_same ⟨_, _, _, HM.out⟩
  | true =>
    have hth' := Lib.hid hth
    obtain ⟨ad, c, hrv, hc, hcell⟩ := M.at hth
    cases hR : R (x, y) with
    | nil =>
      rw [hR] at hcell
      have HR := Lib.hid hR
      clear hth M hrv hc hR hcap
      go_enter Tryd.func47, Tryd.ntmps47
      go_wp2_with (first | (go_at_call 52; refine (there_ref r n x y _ hn).mono ?_; rintro e w1 ⟨rfl, rfl⟩; rw [hth'.out]) | (go_at_call 53; refine (row_ref HM.out.few hs hth'.out).mono ?_; rintro e w1 ⟨rfl, rfl⟩))
      go_ret2
      unfold TookR
      rw [if_pos hth'.out, HR.out]
      exact didR_same ⟨_, _, _, HM.out⟩
    | cons l L =>
      have HR := Lib.hid hR
      have hcl : (R (x, y)).length = L.length + 1 := by rw [hR]; rfl
      obtain ⟨b, o, c', m, l', hrv', hc', hcell', hm, hl', hmc, hfzm, hmsg⟩ := M.elem hth (i := 0) (by omega)
      rw [Nat.add_zero] at hmc
      obtain rfl : l' = l := by rw [hR] at hl'; simpa using hl'.symm
      rw [hcl] at hcell' hrv' hc' hcap
      have hrow := M.row (num (x, y))
      rw [M.len _ hth, hrv', hcl] at hrow
      obtain ⟨adm, cm, rfl⟩ := Own.slice hmsg
      have hcut := hrow.cut (l := 1) (h := L.length + 1) (by omega) (by omega)
      have hlen := M.len _ hth
      have hdrop : ((ms (num (x, y))).drop (1 * 1)).take ((L.length + 1 - 1) * 1) = (ms (num (x, y))).drop 1 := by
        rw [List.take_of_length_le]; rw [List.length_drop, hlen, hcl]; omega
      rw [hdrop] at hcut
      have hsrc : Src w (cutV (some ⟨b, o, none⟩) 1 1 (L.length + 1) c') 1 (L.length + 1 - 1) ((ms (num (x, y))).drop 1) := hcut.src fun u hu => M.ones hth u (List.mem_of_mem_drop hu)
      have hsl : ∀ w, (Instr.sliceAt 25 (.slice (some ⟨b, o, none⟩) (L.length + 1) c') (some (.int .i64 1)) none none).run Tryd.prog w = .ok (cutV (some ⟨b, o, none⟩) 1 1 (L.length + 1) c') w :=
        fun w => run_slice elBytes (some ⟨b, o, none⟩) (L.length + 1) c' 1 (L.length + 1) _ none (.inr ⟨_, rfl⟩) (.inl ⟨rfl, rfl⟩) (by omega) hc' w
      have hfz := M.frozenR (num (x, y))
      have hrb1 := M.bound rb M.fb
      have Hmsg := Lib.hid hmsg
      have Hlen := Lib.hid (hlen.trans hcl)
      have Hsrc := Lib.hid hsrc
      have Hrv := Lib.hid hrv'
      have Hm := Lib.hid hm
      have hL0 : ((L.length : Int) + 1 == 0) = false := by rw [beq_eq_false_iff_ne]; omega
      have hL1 : (0 : Int) < (L.length : Int) + 1 := by omega
      have hnum := num_lt M.few hth
      clear hth M hrv hc hR hcell hl' hm hfzm hmsg hrow hcut hlen hdrop hsrc hrv' hc' hcl
      go_enter Tryd.func47, Tryd.ntmps47
      go_wp2_with (first | (go_at_call 52; refine (there_ref r n x y _ hn).mono ?_; rintro e w1 ⟨rfl, rfl⟩; rw [hth'.out]) | (go_at_call 53; refine (row_ref HM.out.few hs hth'.out).mono ?_; rintro e w1 ⟨rfl, rfl⟩) | (at_builtin; refine wpList_append rfl _ _ _ rfl elBytes ⟨_, Tryd.underlying25, fun _ h => by cases h⟩ (own_new w #[] 32 1 0 0 [] rfl (Nat.le_refl _) (Nat.zero_le _) (by simp) (by simp)) (Hsrc.out.ext (F := Nil) ((Ext.refl _ _).alloc _) fun _ _ h => h) rfl rfl (by omega) (by unfold maxLen; omega) ?_; intro v7 w7 hA; obtain ⟨ad7, c7, rfl⟩ := hA.own.slice; have hx7 : Ext Nil w w7 := ((Ext.refl Nil w).alloc (.cells #[] 32)).trans hA.ext (new_nil w); have HA := Lib.hid hA; have hc7 := hx7.cell hcell' id; have hf7 : w7.frozen? ⟨rb, num (x, y), none⟩ = false := (by rw [World.frozen?_of_block (w := w) (hx7.block rb hrb1 id)]; exact hfz); have Hx7 := Lib.hid hx7; clear hA hx7))
      go_ret2
      unfold TookR
      rw [if_pos hth'.out, HR.out]
      have hx7 : Ext (fun b => (rvR rows (num (x, y))).ownBlock = some b) w w7 := Hx7.out.nilMono
      have hlen := Hlen.out
      have hown : Own w7 (.slice ad7 L.length c7) 32 1 ((ms (num (x, y))).drop 1).length ((ms (num (x, y))).drop 1) := by
        have := HA.out.own
        rw [List.nil_append] at this
        rw [List.length_drop, hlen]
        rwa [Nat.zero_add] at this
      obtain ⟨H8, hx8⟩ := HM.out.stored hth'.out (L := L) hx7 hown (by rw [List.length_drop, hlen]; rfl) (fun i m' x' hm' hx' => by
        rw [List.getElem?_drop] at hm'
        exact HM.out.oldmsg hth'.out hx7 hm' (by rw [HR.out, Nat.add_comm]; exact hx')) (fun k hk0 => .inr (by
          have hk : (Value.slice ad7 (0 + (L.length + 1 - 1)) c7).ownBlock = some k := by rw [← hk0]; cases ad7 <;> rfl
          rcases HA.out.lies with h' | ⟨z, h', h1, _⟩
          · have : w.heap.size = k := by simpa [Value.ownBlock] using h'.symm.trans hk
            omega
          · have e2 : z = k := by simpa using h'.symm.trans hk
            simp at h1; omega))
      refine ⟨.slice adm l'.length cm, ?_, rfl, H8, hx8⟩
      exact Own.ext (Own.ext Hmsg.out Hx7.out fun _ _ h => h) ((Ext.refl (fun b => b = rb) w7).setCell (p := ⟨rb, num (x, y), none⟩) (fun _ => rfl) _) fun k hk e => HM.out.ne_b_msg hth'.out Hm.out hk e
end
end Go.Proofs.YtbpjgdmmijehnaaDoor
