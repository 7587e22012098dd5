/-
  node of the program: Vertex.
-/
import Derived.Test.YtggiknehmoaimaaGreatDoorEnt
namespace Go.X
open Go.RowKit
section
variable {P : Program} {ops : Array Oper} {T : Act → World → Prop} {rest : List (Nat × Bool)} {a : Act} {w : World} {i : Nat} {o : Oper} {G : Nat → Prop}
/-- A store in the head. -/
theorem wpE_act (ho : ops[i]? = some o) (hw : Region.wanted o (yielded ops a.tmps) = true)
    (h : ∃ w', (execOp a.eval o).run P w = .ok .skip w' ∧ Ext G w w' ∧ wpEg G P ops T rest (a.put o.dst undef) w') : wpEg G P ops T ((i, false) :: rest) a w := by
  obtain ⟨w', hr, hx, h⟩ := h
  exact wpE_loud ho hw (by unfold Oper.wp; rw [hr]; exact ⟨hx, h⟩)
end
/-- A load of one cell. -/
theorem exec_load1 {P : Program} {w : World} {o : Oper} {ρ : Operand → Value} {x : Operand} {t : TypeId} {ad : Addr} {v : Value} (ho : o.op = .load t x) (hx : ρ x = .pointer (some ad)) (ht : ∀ w, (isAgg t).run P w = .ok false w) (hc : w.cell? ad = some v) : (execOp ρ o).run P w = .ok (.value v) w := by
  unfold execOp
  simp [ho, hx, Instr.loadAt, Instr.sureAddr, loadVar, ht, hc]
theorem exec_append {P : Program} {w w' : World} {o : Oper} {ρ : Operand → Value} {s x : Operand} {t u : TypeId} {a b v : Value} (ho : o.op = .call { callee := .builtin .append, args := #[s, x], argTypes := #[t, u] }) (hs : ρ s = a) (hx : ρ x = b) (h : (Builtin.append_ #[t, u] o.type #[a, b]).run P w = .ok v w') : (execOp ρ o).run P w = .ok (.value v) w' := by
  unfold execOp
  simp only [ho, resolve, invoke, builtin, Sem.run_bind, Sem.run_pure, Result.andThen_ok, List.map_toArray, List.map_cons, List.map_nil, hs, hx, h]
/-- A store over a whole block. -/
theorem exec_store_all {P : Program} {w : World} {b n : Nat} {e t : TypeId} {C vs : List Value} {o : Oper} {ρ : Operand → Value} {x y : Operand} (ho : o.op = .store t x y) (hx : ρ x = .pointer (some ⟨b, 0, none⟩)) (hy : ρ y = .agg vs.toArray) (A : AggT P t n) (h : Row w b e C) (hc : C.length = n) (hv : vs.length = n) (h1 : ∀ v ∈ vs, v.oneCell' = true) :
    (execOp ρ o).run P w = .ok .skip (w.setRow b vs.toArray) := by
  have := exec_store (off := 0) ho hx hy A h (by omega) hv h1
  rw [List.take_zero, List.nil_append, Nat.zero_add, ← hc, List.drop_length, List.append_nil] at this
  exact this
/-- All new blocks. -/
def New (w : World) : Nat → Prop := fun b => w.heap.size ≤ b
theorem Ext.new {w w1 w2 : World} (h : Ext Nil w w1) (hx : Ext (New w) w1 w2) : Ext Nil w w2 := h.trans hx fun k hk (e : w.heap.size ≤ k) => absurd hk (by omega)
theorem Row.new {w w1 : World} {b : Nat} {e : TypeId} {C : List Value} (h : Row w b e C) (hx : Ext (New w) w w1) : Row w1 b e C := h.ext hx fun (e : w.heap.size ≤ b) => by have := h.lt; omega
end Go.X
namespace Go.Proofs.YtggiknehmoaimaaGreatDoor
open Go Go.RowKit Go.X
theorem nInt : (∀ w, (isAgg 3).run Tryz.prog w = .ok false w) := fun w => by
  unfold isAgg
  rw [Sem.run_bind, run_underlying Tryz.underlying3 w]
  rfl
theorem nHashes : (∀ w, (isAgg 25).run Tryz.prog w = .ok false w) := fun w => by
  unfold isAgg
  rw [Sem.run_bind, run_underlying Tryz.underlying25 w]
  rfl
theorem app_nil (w : World) : (Builtin.append_ #[25, 25] 25 #[nilS, nilS]).run Tryz.prog w = .ok nilS w := by kernel_rfl
set_option maxRecDepth 100000 in
set_option maxHeartbeats 4000000 in
theorem vertex_plain {w : World} {hs : Hash} {x c : Int} {ov : Value} :
    Calls Tryz.prog 35 #[.agg (entryC hs.1 x c nilS ov).toArray] w fun e w' => e = .returned (.agg (vertexC hs.1 c nilS).toArray) ∧ Ext Nil w w' := by
  have hlz : (entryC hs.1 x c nilS ov).length = 36 := entryC_length _ hs.2 _ _ _ _
  obtain ⟨E, hE⟩ : ∃ E, E = entryC hs.1 x c nilS ov := ⟨_, rfl⟩
  rw [← hE] at hlz ⊢
  have g32 : E[32]? = some (.int .i64 x) := by rw [hE]; unfold entryC; rw [List.getElem?_append_right (by simp [bv, hs.2])]; simp [bv, hs.2]
  have g33 : E[33]? = some (.int .i64 c) := by rw [hE]; unfold entryC; rw [List.getElem?_append_right (by simp [bv, hs.2])]; simp [bv, hs.2]
  have g34 : E[34]? = some nilS := by rw [hE]; unfold entryC; rw [List.getElem?_append_right (by simp [bv, hs.2])]; simp [bv, hs.2]
  have e32 : (E.drop 0).take 32 = bv hs.1 := by rw [hE]; unfold entryC; rw [List.drop_zero, List.take_append_of_le_length (by rw [bv_length, hs.2]; exact Nat.le_refl _), List.take_of_length_le (by rw [bv_length, hs.2]; exact Nat.le_refl _)]
  have Hlz := Lib.hid hlz
  have He32 := Lib.hid e32
  have G33 := Lib.hid g33
  have G34 := Lib.hid g34
  clear hE hlz g32 g33 g34 e32
  go_enter Tryz.func35, Tryz.ntmps35
  go_wp2_with fail
  have hE := row_alloc w E.toArray 87
  have hV := row_alloc1 w E.toArray (vertexC (List.replicate 32 0) 0 nilS).toArray 87 94
  have hE1 := hE.ext0 ((Ext.refl Nil _).alloc (.cells (vertexC (List.replicate 32 0) 0 nilS).toArray 94))
  have hal := ((Ext.refl Nil w).alloc (.cells E.toArray 87)).alloc (.cells (vertexC (List.replicate 32 0) 0 nilS).toArray 94)
  refine X.wp_region_plan 10 [(0, true), (1, true), (2, true), (3, true), (4, true), (5, true), (6, true), (7, true), (8, true), (9, true)] [(10, false)] (by kernel_rfl) (by kernel_rfl) (fun wd hxwd hh => ?_)
  clear hh
  have hEd := hE1.ext0 hxwd
  have hVd := hV.ext0 hxwd
  have hxd := hal.extN hxwd
  have HEd := Lib.hid hEd
  clear hEd hE hE1 hV hal hxwd
  iterate 1
    refine X.wpE_still (o := ⟨_, _, _, _, _, _⟩) rfl rfl ?_
    apply Exists.intro
    refine ⟨fun w' hE => ?_, ?_⟩
    · skip
      go_simp
      rfl
    simp only [Act.put, List.setIfInBounds_toArray, List.set_cons_succ, List.set_cons_zero]
  refine X.wpE_still (o := ⟨_, _, _, _, _, _⟩) rfl rfl ?_
  refine ⟨.agg (bv hs.1).toArray, fun w' hE => by rw [← He32.out]; exact X.exec_load (off := 0) rfl rfl aHash (HEd.out.ext0 hE) (by show 0 + 32 ≤ E.length; rw [Hlz.out]; decide), ?_⟩
  simp only [Act.put, List.setIfInBounds_toArray, List.set_cons_succ, List.set_cons_zero]
  iterate 2
    refine X.wpE_still (o := ⟨_, _, _, _, _, _⟩) rfl rfl ?_
    apply Exists.intro
    refine ⟨fun w' hE => ?_, ?_⟩
    · skip
      go_simp
      rfl
    simp only [Act.put, List.setIfInBounds_toArray, List.set_cons_succ, List.set_cons_zero]
  refine X.wpE_still (o := ⟨_, _, _, _, _, _⟩) rfl rfl ?_
  refine ⟨.int .i64 c, fun w' hE => X.exec_load1 rfl rfl nInt ((HEd.out.ext0 hE).cell (i := 33) G33.out), ?_⟩
  simp only [Act.put, List.setIfInBounds_toArray, List.set_cons_succ, List.set_cons_zero]
  iterate 2
    refine X.wpE_still (o := ⟨_, _, _, _, _, _⟩) rfl rfl ?_
    apply Exists.intro
    refine ⟨fun w' hE => ?_, ?_⟩
    · skip
      go_simp
      rfl
    simp only [Act.put, List.setIfInBounds_toArray, List.set_cons_succ, List.set_cons_zero]
  refine X.wpE_still (o := ⟨_, _, _, _, _, _⟩) rfl rfl ?_
  refine ⟨nilS, fun w' hE => X.exec_load1 rfl rfl nHashes ((HEd.out.ext0 hE).cell (i := 34) G34.out), ?_⟩
  simp only [Act.put, List.setIfInBounds_toArray, List.set_cons_succ, List.set_cons_zero]
  refine X.wpE_still (o := ⟨_, _, _, _, _, _⟩) rfl rfl ?_
  refine ⟨nilS, fun w' hE => X.exec_append rfl rfl rfl (app_nil w'), ?_⟩
  simp only [Act.put, List.setIfInBounds_toArray, List.set_cons_succ, List.set_cons_zero]
  refine X.wpE_still (o := ⟨_, _, _, _, _, _⟩) rfl rfl ?_
  refine ⟨.agg (vertexC hs.1 c nilS).toArray, fun w' hE => X.exec_build3 (u := av hs.1) (v := .int .i64 c) (q := nilS) (z := .agg (vertexC hs.1 c nilS).toArray) rfl rfl rfl rfl (run_vertex c none 0 0 hs.1 hs.2) w', ?_⟩
  simp only [Act.put, List.setIfInBounds_toArray, List.set_cons_succ, List.set_cons_zero]
  refine X.wpE_nil ?_
  have hlen := vertexC_length hs.1 hs.2 c nilS
  refine X.wpT_act (o := ⟨_, _, _, _, _, _⟩) rfl rfl ⟨_, X.exec_store_all rfl rfl rfl aVertex hVd rfl hlen (vertexC_one _ _ _ rfl), ?_⟩
  simp only [Act.put]
  refine X.wpT_nil ?_
  have hV4 := hVd.setRow (vertexC hs.1 c nilS)
  have hx4 := hxd.setRow (b := w.heap.size + 1) (fun h => by omega) (vertexC hs.1 c nilS).toArray
  have HV4 := Lib.hid hV4
  have Hx4 := Lib.hid hx4
  have Hlen := Lib.hid hlen
  generalize wd.setRow (w.heap.size + 1) (vertexC hs.1 c nilS).toArray = w4 at HV4 Hx4 ⊢
  clear hV4 hx4 hlen hxd hVd
  go_wp2
  exact bodyPost_ret (results_row (b := w.heap.size + 1) (C := vertexC hs.1 c nilS) rfl rfl aVertex HV4.out Hlen.out) rfl ⟨rfl, Hx4.out⟩
end Go.Proofs.YtggiknehmoaimaaGreatDoor
