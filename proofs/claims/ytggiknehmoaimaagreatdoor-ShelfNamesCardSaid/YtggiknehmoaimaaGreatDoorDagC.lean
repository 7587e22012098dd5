/-
  The graph of the program, where a vertex has no parents: Fit.
-/
import Derived.Test.YtggiknehmoaimaaGreatDoorDagB
namespace Go.X
open Go.RowKit
section
variable {P : Program} {w : World} {b : Nat} {e t : TypeId} {C vs : List Value} {n off : Nat}
/-- A load of a part of a block, where a guard lets it by. -/
theorem wpList_load_part' {ops : Array Oper} {rest : List Oper} {o : Oper} {a : Act} {Q : Exit → Act → World → Prop} (hgd : Region.wanted o (yielded ops a.tmps) = true) (x : Operand) (ho : o.op = .load t x) (hx : a.eval x = .pointer (some ⟨b, off, none⟩)) (A : AggT P t n) (h : Row w b e C) (hf : off + n ≤ C.length) (hvs : (C.drop off).take n = vs)
    (hk : wpList P ops Q rest (a.put o.dst (.agg vs.toArray)) w) : wpList P ops Q (o :: rest) a w := by
  subst hvs
  unfold wpList
  rw [if_pos hgd]
  exact .inl (wp_load_at x ho hx A h hf hk)
end
end Go.X
namespace Go.Proofs.YtggiknehmoaimaaGreatDoor
open Go Go.RowKit Go.X
section
variable {d : Nat} {D : DagS} {w : World}
set_option maxRecDepth 100000 in
set_option maxHeartbeats 2000000 in
theorem fit_held (k : Hash) (h : DagAt w d D) (hk : (X.get D.LH k).isSome = true) : Calls Tryz.prog 36 #[.pointer (some ⟨d, 0, none⟩), VX k 1] w fun e w' => e = .returned (.tuple #[.int .i64 1, .int .i64 0]) ∧ Ext Nil w w' := by
  have hlen := vertexC_length k.1 k.2 1 nilS
  have hid := vxid k 1
  unfold VX
  generalize vertexC k.1 1 nilS = E at hlen hid ⊢
  have hr := row_alloc w E.toArray 94
  have hal := (Ext.refl Nil w).alloc (.cells E.toArray 94)
  have Hd := Lib.hid (h.ext0 hal)
  have Hal := Lib.hid hal
  have Hr := Lib.hid hr
  have Hle : Hid (0 + 32 ≤ E.toArray.toList.length) := by show 0 + 32 ≤ E.length; omega
  have Hid' := Lib.hid hid
  have Hk := Lib.hid hk
  clear h hal hr hlen hid hk
  go_enter Tryz.func36, Tryz.ntmps36
  go_wp2_with (refine wpList_load_part (o := ⟨some 10, _, _, _, _, _⟩) rfl (.tmp 9) rfl rfl aHash Hr.out Hle.out Hid'.out ?_)
  have hc := has_any Hd.out k
  rw [Hk.out] at hc
  unfold hv av at hc
  refine hc.mono ?_
  rintro e w1 ⟨rfl, hx1⟩
  have Hx := Lib.hid (Hal.out.extN hx1)
  clear hx1 hc
  go_wp2
  go_ret2
  exact ⟨rfl, Hx.out⟩
set_option maxRecDepth 100000 in
set_option maxHeartbeats 4000000 in
theorem fit_took (k : Hash) (h : DagAt w d D) (hk : (X.get D.LH k).isSome = false) (hk2 : (X.get D.LW k).isSome = false) (hn : D.LH.length < 4096) : Calls Tryz.prog 36 #[.pointer (some ⟨d, 0, none⟩), VX k 1] w fun e w' => e = .returned (.tuple #[.int .i64 2, .int .i64 0]) ∧ Ext Nil w w' := by
  have hlen := vertexC_length k.1 k.2 1 nilS
  have hid := vxid k 1
  obtain ⟨g32, g33⟩ := vx32 k 1
  have hrd := ready_none d k 1
  have htk := fun (w : World) (h : DagAt w d D) => takes_none k 1 h
  have hT : takesV 1 D.LH.length = 0 := by unfold takesV; rw [if_pos rfl, if_neg (by omega)]
  rw [hT] at htk
  unfold VX at hrd htk ⊢
  generalize vertexC k.1 1 nilS = E at hlen hid g32 g33 hrd htk ⊢
  have hr := row_alloc w E.toArray 94
  have hal := (Ext.refl Nil w).alloc (.cells E.toArray 94)
  have Hd := Lib.hid (h.ext0 hal)
  have Hal := Lib.hid hal
  have Hr := Lib.hid hr
  have Hle : Hid (0 + 32 ≤ E.toArray.toList.length) := by show 0 + 32 ≤ E.length; omega
  have Hid' := Lib.hid hid
  have Hk := Lib.hid hk
  have Hk2 := Lib.hid hk2
  have Hrd := Lib.hid hrd
  have Htk := Lib.hid htk
  have Hlen := Lib.hid hlen
  have G32 := Lib.hid g32
  have G33 := Lib.hid g33
  clear h hal hr hlen hid hk hk2 hrd htk hT g32 g33 hn
  go_enter Tryz.func36, Tryz.ntmps36
  go_wp2_with (refine wpList_load_part (o := ⟨some 10, _, _, _, _, _⟩) rfl (.tmp 9) rfl rfl aHash Hr.out Hle.out Hid'.out ?_)
  have hc := has_any Hd.out k
  rw [Hk.out] at hc
  unfold hv av at hc
  refine hc.mono ?_
  rintro e w1 ⟨rfl, hx1⟩
  have Hx1 := Lib.hid (Hal.out.extN hx1)
  have Hd1 := Lib.hid (Hd.out.ext0 hx1)
  have Hr1 := Lib.hid (Hr.out.ext0 hx1)
  clear hx1 hc
  go_wp2_with (refine Go.X.wpList_load_part' (o := ⟨some 15, _, _, _, _, _⟩) rfl (.tmp 14) rfl rfl aHash Hr1.out Hle.out Hid'.out ?_)
  have hc := waits_any Hd1.out k
  rw [Hk2.out] at hc
  unfold hv av at hc
  refine hc.mono ?_
  rintro e w2 ⟨rfl, hx2⟩
  have Hx2 := Lib.hid (Hx1.out.extN hx2)
  have Hd2 := Lib.hid (Hd1.out.ext0 hx2)
  have Hr2 := Lib.hid (Hr1.out.ext0 hx2)
  have c2 := Hr2.out.cell (i := 32) G32.out
  have c3 := Hr2.out.cell (i := 33) G33.out
  clear hx2 hc
  go_wp2_with fail
  refine (rising_nil _).mono ?_
  rintro e wb ⟨rfl, rfl⟩
  go_wp2_with (refine wpList_load_all (o := ⟨some 50, _, _, _, _, _⟩) rfl (.tmp 3) rfl rfl aVertex Hr2.out Hlen.out ?_)
  refine (Hrd.out w2).mono ?_
  rintro e w3 ⟨rfl, hx3⟩
  have Hx3 := Lib.hid (Hx2.out.extN hx3)
  have Hd3 := Lib.hid (Hd2.out.ext0 hx3)
  have Hr3 := Lib.hid (Hr2.out.ext0 hx3)
  clear hx3 c2 c3
  go_wp2_with (refine wpList_load_all (o := ⟨some 54, _, _, _, _, _⟩) rfl (.tmp 3) rfl rfl aVertex Hr3.out Hlen.out ?_)
  refine (Htk.out _ Hd3.out).mono ?_
  rintro e w4 ⟨rfl, hx4⟩
  have Hx4 := Lib.hid (Hx3.out.extN hx4)
  clear hx4
  go_wp2
  go_ret2
  exact ⟨rfl, Hx4.out⟩
end
end Go.Proofs.YtggiknehmoaimaaGreatDoor
