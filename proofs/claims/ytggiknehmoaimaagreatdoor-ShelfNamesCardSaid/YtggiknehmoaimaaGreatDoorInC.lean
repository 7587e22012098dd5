/-
  pack.In of the program: Hash, Raw, Bytes.
-/
import Derived.Test.YtggiknehmoaimaaGreatDoorRead
import Derived.Laws.Cover3
namespace Go.X
open Go.RowKit
section
variable {P : Program} {w : World} {b o : Nat} {t : TypeId} {n : Nat}
theorem run_load_bytes (A : AggT P t n) {l : Bytes} (hl : l.length = n) (hc : ∀ i x, l[i]? = some x → w.cell? ⟨b, o + i, none⟩ = some (bval x)) : (loadVar t ⟨b, o, none⟩).run P w = .ok (av l) w := by
  have h : (loadCells ⟨b, o, none⟩ (bv l).length).run P w = .ok (bv l).toArray w :=
    run_loadCells_list (P := P) w ⟨b, o, none⟩ _ (fun j v hv => by
      rw [add_lit]
      simp only [bv, List.getElem?_map] at hv
      cases hx : l[j]? with
      | none => rw [hx] at hv; cases hv
      | some x => rw [hx] at hv; cases hv; exact hc j x hx)
  rw [bv_length, hl] at h
  unfold loadVar
  simp only [Sem.run_bind, A.run_isAgg, Result.andThen_ok, if_true, A.run_sizeOf, h, Sem.run_pure]
  rfl
/-- A load of an array of bytes, wherever they lie. -/
theorem wpList_load_bytes {ops : Array Oper} {rest : List Oper} {op : Oper} {a : Act} {Q : Exit → Act → World → Prop} (hgd : op.guard = none) (x : Operand) (ho : op.op = .load t x) (hx : a.eval x = .pointer (some ⟨b, o, none⟩)) (A : AggT P t n) {l : Bytes} (hl : l.length = n)
    (hc : ∀ i x, l[i]? = some x → w.cell? ⟨b, o + i, none⟩ = some (bval x)) (hk : wpList P ops Q rest (a.put op.dst (av l)) w) : wpList P ops Q (op :: rest) a w :=
  wpList_plain hgd fun _ hK => by
    unfold Oper.wp execOp
    simp only [ho, hx, Instr.loadAt, Instr.sureAddr, Sem.run_bind, Sem.run_pure, Result.andThen_ok, run_load_bytes A hl hc]
    exact hK _ _ hk
/-- Two results: one lies in a block. -/
theorem results_row_tmp {C : List Value} {e : TypeId} {fn : Func} {p s : Tmp} {tmps : Array Value} {u : Value} (hr : fn.results = #[.cell p t, .tmp s]) (hp : tmps.getD p undef = .pointer (some ⟨b, 0, none⟩)) (hs : tmps.getD s undef = u) (A : AggT P t n) (h : Row w b e C) (hc : C.length = n) :
    (results fn tmps).run P w = .ok (.tuple #[.agg C.toArray, u]) w := by
  have hp' : tmps[p]?.getD undef = .pointer (some ⟨b, 0, none⟩) := by simpa using hp
  have hs' : tmps[s]?.getD undef = u := by simpa using hs
  have hl := run_loadVar_at (P := P) (off := 0) A h (by omega)
  rw [List.drop_zero, ← hc, List.take_length] at hl
  simp [results, hr, hp', hs', asAddr, hl]
end
end Go.X
namespace Go.Proofs.YtggiknehmoaimaaGreatDoor
open Go Go.RowKit Go.X

theorem take_as (c : Nat) (w : World) (b o n : Nat) (hn : 32 ≤ n) : (Instr.arrayAt 27 (.slice (some ⟨b, o, none⟩) n c)).run Tryz.prog w = .ok (.pointer (some ⟨b, o, none⟩)) w := run_arrayAt _ _ _ _ _ _ _ Tryz.underlying27 hn

section
variable {w w' : World} {q r : Nat} {ad : Option Addr} {c : Nat} {L : Bytes} {p p' : Nat}
set_option maxRecDepth 100000 in
set_option maxHeartbeats 4000000 in
theorem in_hash_ok (h : InIs w r ad c L p) (hp : p + 32 ≤ L.length) :
    Calls Tryz.prog 87 #[.pointer (some ⟨r, 0, none⟩)] w fun e w' => e = .returned (.tuple #[av ((L.drop p).take 32), .nilIface]) ∧ InIs w' r ad c L (p + 32) ∧ Ext (fun b => b = r) w w' := by
  have hz : w.heap.size ≠ r := by have := h.row.lt; omega
  have hza : ∀ x, ad = some x → x.block ≠ w.heap.size := fun x hx e => by have := h.far x hx; omega
  have h0 := h.ext0' ((Ext.refl Nil w).alloc (.cells (bv (List.replicate 32 0)).toArray 27))
  have H := Lib.hid h0
  clear h h0
  go_enter Tryz.func87, Tryz.ntmps87
  go_wp2_with fail
  refine (next_ok H.out 32 32 rfl hp).mono ?_
  rintro e w1 ⟨rfl, h1, hx1⟩
  have hb := Go.X.bytesIn_sub h1.bytes (Nat.le_add_right p 32) hp
  have hrow := (row_alloc w (bv (List.replicate 32 0)).toArray 27).ext hx1 hz
  have hx01 := ((Ext.refl (fun b => b = r) w).alloc (.cells (bv (List.replicate 32 0)).toArray 27)).trans' hx1
  have hlen : ((L.drop p).take (p + 32 - p)).length = 32 := by rw [List.length_take, List.length_drop]; omega
  rw [Nat.add_sub_cancel_left] at hb hlen
  obtain ⟨ad1, c1, e1, hc1, hb1⟩ := hb
  obtain ⟨b, o, rfl, h00⟩ := hb1 0 (((L.drop p).take 32)[0]'(by omega)) (by simp)
  clear h00
  have hcell : ∀ i x, ((L.drop p).take 32)[i]? = some x → w1.cell? ⟨b, o + i, none⟩ = some (bval x) := fun i x hi => by
    obtain ⟨b', o', e', h'⟩ := hb1 i x hi
    cases e'
    exact h'
  rw [e1]
  rw [hlen]
  have hta := fun w => take_as c1 w b o 32 (Nat.le_refl _)
  have H1 := Lib.hid h1
  have Hrow := Lib.hid hrow
  have Hx1 := Lib.hid hx01
  have Hlen := Lib.hid hlen
  have Hcell := Lib.hid hcell
  clear h1 hrow hx01 hlen hcell hb1 hc1 e1 hx1
  go_wp2_with (first
    | (refine wpList_load_bytes (op := ⟨some 17, _, _, _, _, _⟩) rfl (.tmp 16) rfl rfl aHash Hlen.out Hcell.out ?_)
    | (refine wpList_store_all (o := ⟨none, _, _, _, _, _⟩) rfl (.tmp 2) (.tmp 17) rfl rfl (vs := bv ((L.drop p).take 32)) rfl aHash Hrow.out rfl (by rw [bv_length, Hlen.out]) (bv_one _) ?_))
  refine bodyPost_ret (results_row_tmp (b := w.heap.size) (C := bv ((L.drop p).take 32)) rfl rfl rfl aHash (Hrow.out.setRow _) (by rw [bv_length, Hlen.out])) rfl ⟨rfl, ?_, Hx1.out.setRow (fun h => by omega) _⟩
  exact H1.out.ext ((Ext.refl (fun b => b = w.heap.size) w1).setRow (fun _ => rfl) _) (fun e => hz e.symm) fun x hx => hza x hx
set_option maxRecDepth 100000 in
set_option maxHeartbeats 4000000 in
theorem in_hash_short (h : InIs w r ad c L p) (hp : L.length < p + 32) :
    Calls Tryz.prog 87 #[.pointer (some ⟨r, 0, none⟩)] w (Failed w (fun b => b = r) 20 p fun x => .tuple #[av (List.replicate 32 0), x]) := by
  have hz : w.heap.size ≠ r := by have := h.row.lt; omega
  have h0 := h.ext0' ((Ext.refl Nil w).alloc (.cells (bv (List.replicate 32 0)).toArray 27))
  have H := Lib.hid h0
  have hbn := bad_neq
  clear h h0
  go_enter Tryz.func87, Tryz.ntmps87
  go_wp2_with fail
  refine (next_short H.out 32 32 rfl hp).mono ?_
  rintro e w1 ⟨a, rfl, h1, h2, hx1⟩
  have hrow := (row_alloc w (bv (List.replicate 32 0)).toArray 27).ext hx1 hz
  have hx01 := ((Ext.refl (fun b => b = r) w).alloc (.cells (bv (List.replicate 32 0)).toArray 27)).trans' hx1
  have Hrow := Lib.hid hrow
  have Hx1 := Lib.hid hx01
  have H2 := Lib.hid h2
  have hal : w.heap.size < a := by simp at h1; omega
  clear h1 hrow hx01 hx1 h2
  unfold badV
  go_wp2_with (refine wpList_store_all (o := ⟨none, _, _, _, _, _⟩) rfl (.tmp 2) (.tmp 13) rfl rfl (vs := bv (List.replicate 32 0)) rfl aHash Hrow.out rfl rfl (bv_one _) ?_)
  refine bodyPost_ret (results_row_tmp (b := w.heap.size) (C := bv (List.replicate 32 0)) rfl rfl rfl aHash (Hrow.out.setRow _) rfl) rfl ⟨a, rfl, by omega, ?_, Hx1.out.setRow (fun h => by omega) _⟩
  exact Go.X.Row.ext H2.out ((Ext.refl (fun b => b = w.heap.size) w1).setRow (fun _ => rfl) _) (by omega)

/-- Bytes that were made. -/
def Made (w : World) (l : Bytes) (w' : World) (v : Value) : Prop := Own w' v 5 1 l.length (bv l) ∧ ∀ b, v.ownBlock = some b → w.heap.size ≤ b
theorem made_of {w0 w1 w' : World} {l : Bytes} {v : Value} (hx : w0.heap.size ≤ w1.heap.size) (hA : Appended w1 w' (.slice none 0 0) v 5 1 (0 + l.length) ([] ++ bv l)) : Made w0 l w' v ∧ Ext Nil w1 w' ∧ ∀ b, v.ownBlock = some b → w1.heap.size ≤ b := by
  have hb : ∀ b, v.ownBlock = some b → w1.heap.size ≤ b := fun b hb => by
    rcases hA.lies with e | ⟨k, e, h1, h2⟩
    · rw [e] at hb; simp [Value.ownBlock] at hb
    · rw [hb] at e; cases e; exact h1
  exact ⟨⟨by simpa using hA.own, fun b h => Nat.le_trans hx (hb b h)⟩, hA.ext.mono fun k _ h => by simp [Value.ownBlock] at h, hb⟩
end
end Go.Proofs.YtggiknehmoaimaaGreatDoor
