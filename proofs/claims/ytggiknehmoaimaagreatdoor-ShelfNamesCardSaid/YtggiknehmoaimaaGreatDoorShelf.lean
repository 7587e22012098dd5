/-
  The shelf of the program: what it holds; New, Len, keep without a keeper, follow where nothing waits.
-/
import Derived.Test.YtggiknehmoaimaaGreatDoorDagE
namespace Go.Proofs.YtggiknehmoaimaaGreatDoor
open Go Go.RowKit Go.X

/-- What a shelf without a keeper holds. -/
structure ShelfS where
  d : Nat
  D : DagS
  entry : Nat
  block : Nat
  LE : List (Ent Hash)
  LB : List (Ent Hash)
structure ShelfAt (w : World) (s : Nat) (S : ShelfS) : Prop where
  row : Row w s 71 [.nilIface, .pointer (some ⟨S.d, 0, none⟩), .map (some S.entry), .map (some S.block), .bool false]
  dag : DagAt w S.d S.D
  LEm : HasMap w S.entry hv S.LE
  LBm : HasMap w S.block hv S.LB
  ne : S.entry ≠ S.block ∧ S.entry ≠ s ∧ S.block ≠ s ∧ S.d ≠ s
  ne2 : S.D.held ≠ s ∧ S.D.heads ≠ s ∧ S.D.waits ≠ s
  ne3 : S.entry ≠ S.d ∧ S.entry ≠ S.D.held ∧ S.entry ≠ S.D.heads ∧ S.entry ≠ S.D.waits
  ne4 : S.block ≠ S.d ∧ S.block ≠ S.D.held ∧ S.block ≠ S.D.heads ∧ S.block ≠ S.D.waits
theorem ShelfAt.ext0 {w w' : World} {s : Nat} {S : ShelfS} (h : ShelfAt w s S) (hx : Ext Nil w w') : ShelfAt w' s S :=
  ⟨h.row.ext0 hx, h.dag.ext0 hx, h.LEm.ext hx id, h.LBm.ext hx id, h.ne, h.ne2, h.ne3, h.ne4⟩
/-- The blocks that a shelf turns. -/
def ShelfS.own (S : ShelfS) : Nat → Prop := fun b => b = S.D.held ∨ b = S.D.heads ∨ b = S.entry ∨ b = S.block

set_option maxHeartbeats 1000000 in
theorem shelf_new (w : World) : Calls Tryz.prog 9 #[.nilIface] w fun e w' => ∃ s S, e = .returned (.pointer (some ⟨s, 0, none⟩)) ∧ ShelfAt w' s S ∧ S.D.LH = [] ∧ S.D.LW = [] ∧ S.D.old = nilS ∧ S.LE = [] ∧ S.LB = [] ∧ w.heap.size ≤ s ∧ (∀ b, S.own b → w.heap.size ≤ b) ∧ Ext Nil w w' := by
  have hmm := @run_makeMap Tryz.prog
  go_enter Tryz.func9, Tryz.ntmps9
  go_wp2_with fail
  refine (dag_new w).mono ?_
  rintro e w1 ⟨d, D, rfl, hD, e1, e2, e3, e4, e5, h1, h2, h3, h4, hx1⟩
  have hl1 := hD.row.lt
  have hl2 := hD.LHm.lt
  have hl3 := hD.LMm.lt
  have hl4 := hD.LWm.lt
  have x1 := (Ext.refl Nil w1).alloc (.map #[] 0)
  have x2 := (Ext.refl Nil (w1.alloc (.map #[] 0))).alloc (.map #[] 0)
  have x3 := (Ext.refl Nil ((w1.alloc (.map #[] 0)).alloc (.map #[] 0))).alloc (.cells #[.nilIface, .pointer (some ⟨d, 0, none⟩), .map (some w1.heap.size), .map (some (w1.heap.size + 1)), .bool false] 71)
  have g1 := ((hasMap_new w1 hv).ext x2 id).ext x3 id
  have g2 := (hasMap_new (w1.alloc (.map #[] 0)) hv).ext x3 id
  have g3 := row_alloc ((w1.alloc (.map #[] 0)).alloc (.map #[] 0)) #[.nilIface, .pointer (some ⟨d, 0, none⟩), .map (some w1.heap.size), .map (some (w1.heap.size + 1)), .bool false] 71
  simp only [World.size_alloc] at g2 g3
  have hs1 := hx1.size
  have hfin : ShelfAt (((w1.alloc (.map #[] 0)).alloc (.map #[] 0)).alloc (.cells #[.nilIface, .pointer (some ⟨d, 0, none⟩), .map (some w1.heap.size), .map (some (w1.heap.size + 1)), .bool false] 71)) (w1.heap.size + 1 + 1) ⟨d, D, w1.heap.size, w1.heap.size + 1, [], []⟩ :=
    ⟨g3, hD.ext0 ((x1.extN x2).extN x3), g1, g2, by simp only []; omega, by simp only []; omega, by simp only []; omega, by simp only []; omega⟩
  have Hfin := Lib.hid hfin
  have E1 := Lib.hid e1
  have E3 := Lib.hid e3
  have E4 := Lib.hid e4
  have Hx := Lib.hid (hx1.extN ((x1.extN x2).extN x3))
  have Hown : Hid (∀ b, (⟨d, D, w1.heap.size, w1.heap.size + 1, [], []⟩ : ShelfS).own b → w.heap.size ≤ b) := fun b hb => by
    unfold ShelfS.own at hb
    simp only [] at hb
    rcases hb with rfl | rfl | rfl | rfl <;> omega
  clear hD e1 e2 e3 e4 e5 h1 h2 h3 h4 hx1 x1 x2 x3 g1 g2 g3 hfin hl1 hl2 hl3 hl4
  go_wp2
  go_ret
  exact ⟨_, _, rfl, Hfin.out, E1.out, E3.out, E4.out, rfl, rfl, by omega, Hown.out, Hx.out⟩
set_option maxHeartbeats 1000000 in
theorem shelf_len {w : World} {s : Nat} {S : ShelfS} (h : ShelfAt w s S) : Calls Tryz.prog 15 #[.pointer (some ⟨s, 0, none⟩)] w fun e w' => e = .returned (.int .i64 S.D.LH.length) ∧ w = w' := by
  have c1 := h.row.cell (i := 1) rfl
  have Hc := Lib.hid (len_any h.dag)
  clear h
  go_enter Tryz.func15, Tryz.ntmps15
  go_wp2_with fail
  refine Hc.out.mono ?_
  rintro e w1 ⟨rfl, rfl⟩
  go_wp2
  go_ret
  exact ⟨rfl, rfl⟩
set_option maxHeartbeats 1000000 in
theorem keep_none {w : World} {s : Nat} {S : ShelfS} (v : Value) (h : ShelfAt w s S) : Calls Tryz.prog 37 #[.pointer (some ⟨s, 0, none⟩), v] w fun e w' => e = .returned (.int .i64 0) ∧ w = w' := by
  have c1 := h.row.cell (i := 0) rfl
  clear h
  go_enter Tryz.func37, Tryz.ntmps37
  go_wp2
  go_ret
  exact ⟨rfl, rfl⟩
set_option maxRecDepth 100000 in
set_option maxHeartbeats 2000000 in
theorem follow_none {w : World} {s : Nat} {S : ShelfS} (v : Value) (h : ShelfAt w s S) (ho : S.D.old = nilS) : Calls Tryz.prog 41 #[.pointer (some ⟨s, 0, none⟩), v] w fun e w' => e = .returned (.tuple #[]) ∧ Ext Nil w w' := by
  have c1 := h.row.cell (i := 1) rfl
  have Hc := Lib.hid (next_none h.dag ho)
  clear h ho
  go_enter Tryz.func41, Tryz.ntmps41
  go_wp2_with fail
  refine wp_loop_rounds 1 ?_
  rw [rounds_succ]
  go_wp2_with fail
  refine Hc.out.mono ?_
  rintro e w1 ⟨rfl, hx1⟩
  have Hx1 := Lib.hid hx1
  clear hx1
  unfold zeroV zeroA
  go_wp2_with (refine wpList_store_all (o := ⟨none, _, _, _, _, _⟩) rfl (.tmp 4) (.tmp 12) rfl rfl (vs := vertexC (List.replicate 32 0) 0 nilS) rfl aVertex (row_alloc w1 _ _) rfl rfl (vertexC_one _ _ _ rfl) ?_)
  exact bodyPost_ret (v := .tuple #[]) (results_none rfl _ _ _) rfl ⟨rfl, (Hx1.out.alloc _).setRow (fun h => by have := Hx1.out.size; omega) _⟩
end Go.Proofs.YtggiknehmoaimaaGreatDoor
