/-
  The graph of the program: what it holds; Has, Waits, Len.
-/
import Derived.Test.YtggiknehmoaimaaGreatDoorClone
namespace Go.X
open Go.RowKit
section
variable {P : Program} {w : World} {o : Oper} {ρ : Operand → Value}
theorem exec_load_all {b n : Nat} {t e : TypeId} {C : List Value} {x : Operand} (ho : o.op = .load t x) (hx : ρ x = .pointer (some ⟨b, 0, none⟩)) (A : AggT P t n) (h : Row w b e C) (hc : C.length = n) : (execOp ρ o).run P w = .ok (.value (.agg C.toArray)) w := by
  have := exec_load (off := 0) ho hx A h (by omega)
  rwa [List.drop_zero, ← hc, List.take_length] at this
theorem exec_alloc {t : TypeId} {z : Array Value} (ho : o.op = .alloc t) (hz : ∀ w, (Instr.alloc t true (.tuple #[])).run P w = .ok (.pointer (some ⟨w.heap.size, 0, none⟩)) (w.alloc (.cells z t))) : (execOp ρ o).run P w = .ok (.value (.pointer (some ⟨w.heap.size, 0, none⟩))) (w.alloc (.cells z t)) := by
  unfold execOp
  simp only [ho, Sem.run_bind, hz w, Result.andThen_ok, Sem.run_pure]
variable {κ : Type} [DecidableEq κ] {kt mt et : TypeId} {kd : κ → Value} {b : Nat} {L : List (Ent κ)}
theorem exec_lookup_ok {x y : Operand} (ho : o.op = .lookup mt x y true) (hx : ρ x = .map (some b)) (k : κ) (hy : ρ y = kd k) (K : KeyT P kt kd) (hm : P.underlying mt = some (.map kt et)) {z v : Value} {is : Bool} (hz : ∀ w, (zeroValue et).run P w = .ok z w) (H : HasMap w b kd L) (hv : (get L k).getD z = v) (hi : is = (get L k).isSome) :
    (execOp ρ o).run P w = .ok (.value (.tuple #[v, .bool is])) w := by
  subst hv hi
  unfold execOp
  simp only [ho, Sem.run_bind, hx, hy, run_lookup K hm hz H k true, if_true, Result.andThen_ok, Sem.run_pure]
theorem exec_lookup {x y : Operand} (ho : o.op = .lookup mt x y false) (hx : ρ x = .map (some b)) (k : κ) (hy : ρ y = kd k) (K : KeyT P kt kd) (hm : P.underlying mt = some (.map kt et)) {z v : Value} (hz : ∀ w, (zeroValue et).run P w = .ok z w) (H : HasMap w b kd L) (hv : (get L k).getD z = v) :
    (execOp ρ o).run P w = .ok (.value v) w := by
  subst hv
  unfold execOp
  simp only [ho, Sem.run_bind, hx, hy, run_lookup K hm hz H k false, Result.andThen_ok, Sem.run_pure, Bool.false_eq_true, if_false]
end
end Go.X
namespace Go.Proofs.YtggiknehmoaimaaGreatDoor
open Go Go.RowKit Go.X
theorem kHash : KeyT Tryz.prog 27 hv := by
  obtain ⟨i, hi⟩ := Option.isSome_iff_exists.1 (show (Tryz.prog.info? 5).isSome = true by kernel_rfl)
  exact hashKey Tryz.underlying27 hi (by kernel_rfl) (by kernel_rfl) Tryz.underlying5
theorem nMapV : (∀ w, (isAgg 135).run Tryz.prog w = .ok false w) := fun w => by
  unfold isAgg
  rw [Sem.run_bind, run_underlying Tryz.underlying135 w]
  rfl
theorem nMapI : (∀ w, (isAgg 136).run Tryz.prog w = .ok false w) := fun w => by
  unfold isAgg
  rw [Sem.run_bind, run_underlying Tryz.underlying136 w]
  rfl
def zeroA : Array Value := (vertexC (List.replicate 32 0) 0 nilS).toArray
def zeroV : Value := .agg zeroA
theorem zVertex (w : World) : (zeroValue 94).run Tryz.prog w = .ok zeroV w := by kernel_rfl
theorem zVertexA (w : World) : (Instr.alloc 94 true (.tuple #[])).run Tryz.prog w = .ok (.pointer (some ⟨w.heap.size, 0, none⟩)) (w.alloc (.cells zeroA 94)) := by kernel_rfl
/-- What a graph holds: its room, the blocks of its maps, what these hold, those that wait in their order. -/
structure DagS where
  room : Nat
  held : Nat
  heads : Nat
  waits : Nat
  LH : List (Ent Hash)
  LM : List (Ent Hash)
  LW : List (Ent Hash)
  old : Value
/-- Vertices alone. -/
structure Good (L : List (Ent Hash)) : Prop where
  some : ∀ k, ∃ C : List Value, (X.get L k).getD zeroV = .agg C.toArray ∧ C.length = 34 ∧ ∀ u ∈ C, u.oneCell' = true
structure DagAt (w : World) (d : Nat) (D : DagS) : Prop where
  row : Row w d 138 [.int .i64 D.room, .map (some D.held), .map (some D.heads), .map (some D.waits), D.old]
  LHm : HasMap w D.held hv D.LH
  LMm : HasMap w D.heads hv D.LM
  LWm : HasMap w D.waits hv D.LW
  heldgood : Good D.LH
  waitsgood : Good D.LW
  ne : D.held ≠ D.heads ∧ D.held ≠ D.waits ∧ D.heads ≠ D.waits ∧ D.held ≠ d ∧ D.heads ≠ d ∧ D.waits ≠ d
theorem DagAt.ext {F : Nat → Prop} {w w' : World} {d : Nat} {D : DagS} (h : DagAt w d D) (hx : Ext F w w') (h0 : ¬ F d) (h1 : ¬ F D.held) (h2 : ¬ F D.heads) (h3 : ¬ F D.waits) : DagAt w' d D :=
  ⟨h.row.ext hx h0, h.LHm.ext hx h1, h.LMm.ext hx h2, h.LWm.ext hx h3, h.heldgood, h.waitsgood, h.ne⟩
theorem DagAt.ext0 {w w' : World} {d : Nat} {D : DagS} (h : DagAt w d D) (hx : Ext Nil w w') : DagAt w' d D := h.ext hx id id id id

set_option maxRecDepth 100000 in
set_option maxHeartbeats 4000000 in
theorem has_any {w : World} {d : Nat} {D : DagS} (h : DagAt w d D) (k : Hash) :
    Calls Tryz.prog 68 #[.pointer (some ⟨d, 0, none⟩), hv k] w fun e w' => e = .returned (.bool (X.get D.LH k).isSome) ∧ Ext Nil w w' := by
  have c1 := h.row.cell (i := 1) rfl
  have H := Lib.hid h
  have hlt := h.row.lt
  have hg : ∃ C : List Value, (X.get D.LH k).getD zeroV = .agg C.toArray ∧ C.length = 34 ∧ ∀ u ∈ C, u.oneCell' = true := h.heldgood.some k
  obtain ⟨C, hC, hCl, hC1⟩ := hg
  have HC := Lib.hid hC
  have HCl := Lib.hid hCl
  have HC1 := Lib.hid hC1
  obtain ⟨is, his⟩ : ∃ is, is = (X.get D.LH k).isSome := ⟨_, rfl⟩
  have His := Lib.hid his
  rw [← his]
  clear h hC hCl hC1 his
  unfold hv av
  go_enter Tryz.func68, Tryz.ntmps68
  go_wp2_with fail
  have hk := row_alloc w (bv k.1).toArray 27
  have hal := (Ext.refl Nil w).alloc (.cells (bv k.1).toArray 27)
  refine X.wp_region_planG (X.New (w.alloc (.cells (bv k.1).toArray 27))) 11 [(0, true), (1, true), (2, true), (3, true), (4, true), (5, true), (6, true), (7, true), (8, true), (9, false), (10, false)] [(11, true)] (by kernel_rfl) (by kernel_rfl) (fun wd hxwd hh => ?_)
  clear hh
  have hsz : (w.alloc (.cells (bv k.1).toArray 27)).heap.size ≤ wd.heap.size := hxwd.size
  have hkd := Lib.hid (hk.ext0 hxwd)
  have hxd := Lib.hid (hal.extN hxwd)
  have Hd := Lib.hid (H.out.ext0 (hal.extN hxwd))
  have hnd : ¬ X.New (w.alloc (.cells (bv k.1).toArray 27)) d := by unfold X.New; simp; omega
  have hnm : ¬ X.New (w.alloc (.cells (bv k.1).toArray 27)) D.held := by have := H.out.LHm.lt; unfold X.New; simp; omega
  have hnk : ¬ X.New (w.alloc (.cells (bv k.1).toArray 27)) w.heap.size := by unfold X.New; simp
  clear hk hal hxwd c1
  iterate 3
    refine X.wpE_still (o := ⟨_, _, _, _, _, _⟩) rfl rfl ?_
    apply Exists.intro
    refine ⟨fun w' hE => ?_, ?_⟩
    · skip
      go_simp
      rfl
    simp only [Act.put, List.setIfInBounds_toArray, List.set_cons_succ, List.set_cons_zero]
  refine X.wpE_still (o := ⟨_, _, _, _, _, _⟩) rfl rfl ?_
  refine ⟨.map (some D.held), fun w' hE => X.exec_load1 rfl rfl nMapV ((Hd.out.row.ext hE hnd).cell (i := 1) rfl), ?_⟩
  simp only [Act.put, List.setIfInBounds_toArray, List.set_cons_succ, List.set_cons_zero]
  refine X.wpE_still (o := ⟨_, _, _, _, _, _⟩) rfl rfl ?_
  refine ⟨.agg (bv k.1).toArray, fun w' hE => X.exec_load_all rfl rfl aHash (hkd.out.ext hE hnk) (by show (bv k.1).length = 32; rw [bv_length, k.2]), ?_⟩
  simp only [Act.put, List.setIfInBounds_toArray, List.set_cons_succ, List.set_cons_zero]
  refine X.wpE_still (o := ⟨_, _, _, _, _, _⟩) rfl rfl ?_
  refine ⟨.tuple #[.agg C.toArray, .bool is], fun w' hE => X.exec_lookup_ok (kd := hv) rfl rfl k rfl kHash Tryz.underlying135 zVertex (Hd.out.LHm.ext hE hnm) HC.out His.out, ?_⟩
  simp only [Act.put, List.setIfInBounds_toArray, List.set_cons_succ, List.set_cons_zero]
  iterate 3
    refine X.wpE_still (o := ⟨_, _, _, _, _, _⟩) rfl rfl ?_
    apply Exists.intro
    refine ⟨fun w' hE => ?_, ?_⟩
    · skip
      go_simp
      rfl
    simp only [Act.put, List.setIfInBounds_toArray, List.set_cons_succ, List.set_cons_zero]
  refine X.wpE_grow (o := ⟨_, _, _, _, _, _⟩) rfl rfl ?_
  refine ⟨_, _, X.exec_alloc rfl zVertexA, (Ext.refl _ _).alloc _, ?_⟩
  simp only [Act.put, List.setIfInBounds_toArray, List.set_cons_succ, List.set_cons_zero]
  have hz := row_alloc wd zeroA 94
  refine X.wpE_act (o := ⟨_, _, _, _, _, _⟩) rfl rfl ⟨_, X.exec_store_all rfl rfl rfl aVertex hz rfl HCl.out HC1.out, (Ext.refl _ _).setRow (fun _ => by unfold X.New; exact hsz) _, ?_⟩
  simp only [Act.put]
  refine X.wpE_nil ?_
  have hx4 := (hxd.out.alloc (.cells zeroA 94)).setRow (b := wd.heap.size) (fun h => by have := hxd.out.size; omega) C.toArray
  have Hx4 := Lib.hid hx4
  generalize (wd.alloc (.cells zeroA 94)).setRow wd.heap.size C.toArray = w4 at Hx4 ⊢
  clear hx4 hz
  refine X.wpT_pure (o := ⟨_, _, _, _, _, _⟩) rfl rfl ?_
  apply Exists.intro
  refine ⟨fun w' => ?_, ?_⟩
  · go_simp
    rfl
  simp only [Act.put, List.setIfInBounds_toArray, List.set_cons_succ, List.set_cons_zero]
  refine X.wpT_nil ?_
  go_wp2
  go_ret
  exact ⟨rfl, Hx4.out⟩

set_option maxRecDepth 100000 in
set_option maxHeartbeats 4000000 in
theorem waits_any {w : World} {d : Nat} {D : DagS} (h : DagAt w d D) (k : Hash) :
    Calls Tryz.prog 69 #[.pointer (some ⟨d, 0, none⟩), hv k] w fun e w' => e = .returned (.bool (X.get D.LW k).isSome) ∧ Ext Nil w w' := by
  have c1 := h.row.cell (i := 3) rfl
  have H := Lib.hid h
  have hlt := h.row.lt
  have hg : ∃ C : List Value, (X.get D.LW k).getD zeroV = .agg C.toArray ∧ C.length = 34 ∧ ∀ u ∈ C, u.oneCell' = true := h.waitsgood.some k
  obtain ⟨C, hC, hCl, hC1⟩ := hg
  have HC := Lib.hid hC
  have HCl := Lib.hid hCl
  have HC1 := Lib.hid hC1
  obtain ⟨is, his⟩ : ∃ is, is = (X.get D.LW k).isSome := ⟨_, rfl⟩
  have His := Lib.hid his
  rw [← his]
  clear h hC hCl hC1 his
  unfold hv av
  go_enter Tryz.func69, Tryz.ntmps69
  go_wp2_with fail
  have hk := row_alloc w (bv k.1).toArray 27
  have hal := (Ext.refl Nil w).alloc (.cells (bv k.1).toArray 27)
  refine X.wp_region_planG (X.New (w.alloc (.cells (bv k.1).toArray 27))) 11 [(0, true), (1, true), (2, true), (3, true), (4, true), (5, true), (6, true), (7, true), (8, true), (9, false), (10, false)] [(11, true)] (by kernel_rfl) (by kernel_rfl) (fun wd hxwd hh => ?_)
  clear hh
  have hsz : (w.alloc (.cells (bv k.1).toArray 27)).heap.size ≤ wd.heap.size := hxwd.size
  have hkd := Lib.hid (hk.ext0 hxwd)
  have hxd := Lib.hid (hal.extN hxwd)
  have Hd := Lib.hid (H.out.ext0 (hal.extN hxwd))
  have hnd : ¬ X.New (w.alloc (.cells (bv k.1).toArray 27)) d := by unfold X.New; simp; omega
  have hnm : ¬ X.New (w.alloc (.cells (bv k.1).toArray 27)) D.waits := by have := H.out.LWm.lt; unfold X.New; simp; omega
  have hnk : ¬ X.New (w.alloc (.cells (bv k.1).toArray 27)) w.heap.size := by unfold X.New; simp
  clear hk hal hxwd c1
  iterate 3
    refine X.wpE_still (o := ⟨_, _, _, _, _, _⟩) rfl rfl ?_
    apply Exists.intro
    refine ⟨fun w' hE => ?_, ?_⟩
    · skip
      go_simp
      rfl
    simp only [Act.put, List.setIfInBounds_toArray, List.set_cons_succ, List.set_cons_zero]
  refine X.wpE_still (o := ⟨_, _, _, _, _, _⟩) rfl rfl ?_
  refine ⟨.map (some D.waits), fun w' hE => X.exec_load1 rfl rfl nMapV ((Hd.out.row.ext hE hnd).cell (i := 3) rfl), ?_⟩
  simp only [Act.put, List.setIfInBounds_toArray, List.set_cons_succ, List.set_cons_zero]
  refine X.wpE_still (o := ⟨_, _, _, _, _, _⟩) rfl rfl ?_
  refine ⟨.agg (bv k.1).toArray, fun w' hE => X.exec_load_all rfl rfl aHash (hkd.out.ext hE hnk) (by show (bv k.1).length = 32; rw [bv_length, k.2]), ?_⟩
  simp only [Act.put, List.setIfInBounds_toArray, List.set_cons_succ, List.set_cons_zero]
  refine X.wpE_still (o := ⟨_, _, _, _, _, _⟩) rfl rfl ?_
  refine ⟨.tuple #[.agg C.toArray, .bool is], fun w' hE => X.exec_lookup_ok (kd := hv) rfl rfl k rfl kHash Tryz.underlying135 zVertex (Hd.out.LWm.ext hE hnm) HC.out His.out, ?_⟩
  simp only [Act.put, List.setIfInBounds_toArray, List.set_cons_succ, List.set_cons_zero]
  iterate 3
    refine X.wpE_still (o := ⟨_, _, _, _, _, _⟩) rfl rfl ?_
    apply Exists.intro
    refine ⟨fun w' hE => ?_, ?_⟩
    · skip
      go_simp
      rfl
    simp only [Act.put, List.setIfInBounds_toArray, List.set_cons_succ, List.set_cons_zero]
  refine X.wpE_grow (o := ⟨_, _, _, _, _, _⟩) rfl rfl ?_
  refine ⟨_, _, X.exec_alloc rfl zVertexA, (Ext.refl _ _).alloc _, ?_⟩
  simp only [Act.put, List.setIfInBounds_toArray, List.set_cons_succ, List.set_cons_zero]
  have hz := row_alloc wd zeroA 94
  refine X.wpE_act (o := ⟨_, _, _, _, _, _⟩) rfl rfl ⟨_, X.exec_store_all rfl rfl rfl aVertex hz rfl HCl.out HC1.out, (Ext.refl _ _).setRow (fun _ => by unfold X.New; exact hsz) _, ?_⟩
  simp only [Act.put]
  refine X.wpE_nil ?_
  have hx4 := (hxd.out.alloc (.cells zeroA 94)).setRow (b := wd.heap.size) (fun h => by have := hxd.out.size; omega) C.toArray
  have Hx4 := Lib.hid hx4
  generalize (wd.alloc (.cells zeroA 94)).setRow wd.heap.size C.toArray = w4 at Hx4 ⊢
  clear hx4 hz
  refine X.wpT_pure (o := ⟨_, _, _, _, _, _⟩) rfl rfl ?_
  apply Exists.intro
  refine ⟨fun w' => ?_, ?_⟩
  · go_simp
    rfl
  simp only [Act.put, List.setIfInBounds_toArray, List.set_cons_succ, List.set_cons_zero]
  refine X.wpT_nil ?_
  go_wp2
  go_ret
  exact ⟨rfl, Hx4.out⟩
end Go.Proofs.YtggiknehmoaimaaGreatDoor
