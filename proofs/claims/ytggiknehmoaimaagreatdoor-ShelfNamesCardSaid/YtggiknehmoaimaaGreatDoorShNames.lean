/-
  The calls whose answers the document fixes, of a shelf; ShelfNames.
-/
import Derived.Test.YtggiknehmoaimaaGreatDoorTold
namespace Go.Proofs.YtggiknehmoaimaaGreatDoor
open Go Go.RowKit Go.X
/-- The block that the laws name. -/
def blockOne : Bytes := [1, 1, 1, 0, 0]
theorem plain_one : PlainB blockOne 1 := ⟨rfl, ⟨1, rfl, rfl⟩, by decide, 3, 4, rfl, rfl, rfl⟩
theorem barg_one {w w' : World} {b : Nat} (h : Row w b 5 [.int .u8 1, .int .u8 1, .int .u8 1, .int .u8 0, .int .u8 0]) (hx : Ext Nil w w') : BArg w' (.slice (some ⟨b, 0, none⟩) 5 5) blockOne := by
  refine ⟨⟨_, 5, rfl, Nat.le_refl _, fun i x hi => ⟨b, 0, rfl, ?_⟩⟩, fun n c e => by cases e⟩
  refine (h.ext0 hx).cell ?_
  rw [Nat.zero_add]
  have hlt := (List.getElem?_eq_some_iff.1 hi).1
  match i, hlt with
  | 0, _ => cases hi; rfl
  | 1, _ => cases hi; rfl
  | 2, _ => cases hi; rfl
  | 3, _ => cases hi; rfl
  | 4, _ => cases hi; rfl
theorem barg_nil (w : World) : BArg w nilS [] := ⟨⟨none, 0, rfl, Nat.le_refl _, fun i x hi => by simp at hi⟩, fun n c e => by injection e with _ _ e; exact e.symm⟩
set_option maxRecDepth 100000 in
set_option maxHeartbeats 4000000 in
theorem shelf_fixed {w : World} (hg : HandleAt w) : Calls Tryz.prog 8 #[] w fun e w' => e = .returned (.bool true) ∧ Ext Nil w w' := by
  have hp := hg.pos
  have Hg := Lib.hid hg
  clear hg
  go_enter Tryz.func8, Tryz.ntmps8
  go_wp2_with fail
  refine (shelf_new w).mono ?_
  rintro e w1 ⟨s, S, rfl, hS, e1, e2, e3, e4, e5, hs, hown, hx1⟩
  have hsz := hx1.size
  have hb := row_alloc w1 #[.int .u8 1, .int .u8 1, .int .u8 1, .int .u8 0, .int .u8 0] 5
  have hal := (Ext.refl Nil w1).alloc (.cells #[.int .u8 1, .int .u8 1, .int .u8 1, .int .u8 0, .int .u8 0] 5)
  have Hc := Lib.hid (take_took (hS.ext0 hal) (barg_one hb (Ext.refl _ _)) (by decide) plain_one e3 (by rw [e1, e2]; exact ⟨rfl, rfl, by decide⟩))
  have Hx1 := Lib.hid (hx1.extN hal)
  have Hown := Lib.hid hown
  have E1 := Lib.hid e1
  clear hS e1 e2 e3 e4 e5 hown hx1 hb hal
  go_wp2_with fail
  refine Hc.out.mono ?_
  rintro e w2 ⟨i, S2, rfl, hi, hI, hS2, hT2, hx2⟩
  have hx02 : Ext Nil w w2 := Hx1.out.trans hx2 fun k hk h => by have := Hown.out k h; omega
  have hk : (X.get S2.D.LH (shaF blockOne)).isSome = true := by rw [hT2.dag.get, if_pos rfl]; rfl
  have hlen : S2.D.LH.length = 1 := by rw [hT2.dag.len, E1.out]; rfl
  have HS2 := Lib.hid hS2
  have Hx2 := Lib.hid hx02
  have Hk := Lib.hid hk
  have Hlen := Lib.hid hlen
  clear hi hI hS2 hT2 hx2 hx02 hk hlen Hc
  unfold takenV
  go_wp2_with fail
  have hal2 := (Ext.refl Nil w2).alloc (.cells #[.int .i64 2, .slice (some ⟨i, 0, none⟩) 1 1, nilS] 39)
  have hA2 := row_alloc w2 #[.int .i64 2, .slice (some ⟨i, 0, none⟩) 1 1, nilS] 39
  refine (take_empty (HS2.out.ext0 hal2) (barg_nil _)).mono ?_
  rintro e w3 ⟨a, rfl, ha, hb3, hx3⟩
  have HS3 := Lib.hid ((HS2.out.ext0 hal2).ext0 hx3)
  have Hx3 := Lib.hid ((Hx2.out.extN hal2).extN hx3)
  have HA3 := Lib.hid (hA2.ext0 hx3)
  have Hb3 := Lib.hid hb3
  clear hal2 hA2 ha hb3 hx3
  unfold takenV badV
  go_wp2_with fail
  have hx3a := ((Ext.refl Nil w3).alloc (.cells #[.int .i64 0, nilS, nilS] 39)).alloc (.cells #[.int .u8 1, .int .u8 1, .int .u8 1, .int .u8 0, .int .u8 0] 5)
  have hb5 := row_alloc1 w3 #[.int .i64 0, nilS, nilS] #[.int .u8 1, .int .u8 1, .int .u8 1, .int .u8 0, .int .u8 0] 39 5
  refine (take_known (HS3.out.ext0 hx3a) (barg_one hb5 (Ext.refl _ _)) (by decide) plain_one Hk.out).mono ?_
  rintro e w4 ⟨rfl, hx4⟩
  have hx4a := (Ext.refl Nil w4).alloc (.cells #[.int .i64 1, nilS, nilS] 39)
  have HS4 := Lib.hid ((HS3.out.ext0 (hx3a.extN hx4)).ext0 hx4a)
  have Hx4 := Lib.hid ((Hx3.out.extN (hx3a.extN hx4)).extN hx4a)
  have HA4 := Lib.hid ((HA3.out.ext0 (hx3a.extN hx4)).ext0 hx4a)
  have Hb4 := Lib.hid (Go.X.Row.ext0 (Go.X.Row.ext0 Hb3.out (hx3a.extN hx4)) hx4a)
  have hC4 := row_alloc w4 #[.int .i64 1, nilS, nilS] 39
  have HC4 := Lib.hid hC4
  clear hx3a hb5 hx4 hx4a hC4
  unfold takenV
  go_wp2_with fail
  have htd := told_bad (Hg.out.ext Hx4.out id) Hb4.out (by decide)
  unfold badV at htd
  refine htd.mono ?_
  rintro e w5 ⟨rfl, hx5⟩
  have hx5a := (Ext.refl Nil w5).alloc (.cells #[.int .i64 20, .int .i64 0] 51)
  have HS5 := Lib.hid ((HS4.out.ext0 hx5).ext0 hx5a)
  have Hx5 := Lib.hid ((Hx4.out.extN hx5).extN hx5a)
  have hA5 := (HA4.out.ext0 hx5).ext0 hx5a
  have hC5 := (HC4.out.ext0 hx5).ext0 hx5a
  have a0 := hA5.cell (i := 0) rfl
  have a1 := hA5.cell (i := 1) rfl
  have c0 := hC5.cell (i := 0) rfl
  have hll := shelf_len HS5.out
  rw [Hlen.out] at hll
  have Hll := Lib.hid hll
  clear htd hx5 hx5a hA5 hC5 hll
  go_wp2_with fail
  refine Hll.out.mono ?_
  rintro e w6 ⟨rfl, rfl⟩
  go_wp2
  go_ret
  exact ⟨rfl, Hx5.out⟩
set_option maxHeartbeats 400000 in
theorem shelf_names {w : World} (hg : HandleAt w) : Calls Tryz.prog 3 #[] w fun e w' => e = .returned (.bool true) ∧ Ext Nil w w' := by
  have Hc := Lib.hid (shelf_fixed hg)
  clear hg
  go_enter Tryz.func3, Tryz.ntmps3
  go_wp2_with fail
  refine Hc.out.mono ?_
  rintro e w1 ⟨rfl, hx1⟩
  have Hx1 := Lib.hid hx1
  clear hx1
  go_wp2
  go_ret
  exact ⟨rfl, Hx1.out⟩
end Go.Proofs.YtggiknehmoaimaaGreatDoor
