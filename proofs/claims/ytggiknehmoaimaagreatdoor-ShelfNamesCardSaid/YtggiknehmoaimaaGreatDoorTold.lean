/-
  told02 of the law: an error with its place is told.
-/
import Derived.Test.YtggiknehmoaimaaGreatDoorAs
import Derived.Test.YtggiknehmoaimaaGreatDoorTakeC
namespace Go.Proofs.YtggiknehmoaimaaGreatDoor
open Go Go.RowKit Go.X
/-- The global variable errors.errorType, as it is laid. -/
def HandleAt (w : World) : Prop := w.cell? ⟨0, 0, none⟩ = some (.iface 239 (.agg #[.pointer (some ⟨2, 41, none⟩)]))
theorem HandleAt.ext {F : Nat → Prop} {w w' : World} (h : HandleAt w) (hx : Ext F w w') (h0 : ¬ F 0) : HandleAt w' := hx.cell h h0
theorem HandleAt.pos {w : World} (h : HandleAt w) : 0 < w.heap.size := World.block_lt_of_cell? w _ h
theorem as_any {w : World} {e T : Nat} (hg : HandleAt w) (hT : Row w T 130 [.pointer none]) :
    Calls Tryz.prog 60 #[.iface 130 (.pointer (some ⟨e, 0, none⟩)), .iface 132 (.pointer (some ⟨T, 0, none⟩))] w fun ev w' => ev = .returned (.bool true) ∧ Row w' T 130 [.pointer (some ⟨e, 0, none⟩)] ∧ Ext (fun b => b = T) w w' :=
  (as_hit ⟨e, 0, none⟩ ⟨T, 0, none⟩ (.pointer none) w hg (hT.cell (i := 0) rfl) (hT.frozen 0)).mono fun ev w' ⟨h1, h2⟩ => by
    subst h2
    have x := (((((Ext.refl Nil w).alloc (.cells #[.pointer (some ⟨T, 0, none⟩)] 132)).alloc (.cells #[.pointer (some ⟨2, 132, none⟩), .pointer (some ⟨w.heap.size, 0, none⟩), .int .u64 150] 201)).alloc (.cells #[.pointer (some ⟨2, 132, none⟩), .pointer (some ⟨w.heap.size, 0, none⟩), .int .u64 150] 201)).alloc (.cells #[.pointer (some ⟨e, 0, none⟩)] 130))
    exact ⟨h1, (hT.ext0 x).set 0 _, (x.nilMono (F := fun b => b = T)).setCell (fun _ => rfl) _⟩
theorem nBadP : (∀ w, (isAgg 130).run Tryz.prog w = .ok false w) := fun w => by
  unfold isAgg
  rw [Sem.run_bind, run_underlying Tryz.underlying130 w]
  rfl
theorem nErrno : (∀ w, (isAgg 31).run Tryz.prog w = .ok false w) := fun w => by
  unfold isAgg
  rw [Sem.run_bind, run_underlying Tryz.underlying31 w]
  rfl
theorem err_build (y z : Int) (w : World) : (Instr.build 51 #[(0, .int .i64 y), (1, .int .i64 z)]).run Tryz.prog w = .ok (.agg #[.int .i64 y, .int .i64 z]) w := by kernel_rfl
theorem aErr : AggT Tryz.prog 51 2 := ⟨⟨_, Tryz.underlying51, rfl⟩, by kernel_rfl⟩
set_option maxRecDepth 100000 in
set_option maxHeartbeats 4000000 in
theorem told_bad {w : World} {a y z : Nat} (hg : HandleAt w) (hb : BadAt w a y z) (hy : y ≠ 0) :
    Calls Tryz.prog 24 #[badV a] w fun e w' => e = .returned (.tuple #[.agg #[.int .i64 y, .int .i64 z], .bool true]) ∧ Ext Nil w w' := by
  have hbe := bad_eql
  have hy' : ((y : Int) == 0) = false := by simp; omega
  unfold badV
  go_enter Tryz.func24, Tryz.ntmps24
  go_upto_region 4 with (fail)
  refine Go.X.two_start (Φ := fun W => Code.wp _ _ _ _ W) ?_
  intro W hA hT hx
  have hz := hx.size
  have hp := hg.pos
  have hal := Go.X.Row.lt hb
  have HA := Lib.hid hA
  have Hx := Lib.hid hx
  have Hb := Lib.hid (Go.X.Row.ext0 hb hx)
  have Hc := Lib.hid (as_any (e := a) (hg.ext hx id) hT)
  clear hA hT hx hg hb
  go_wp2_with fail
  refine Hc.out.mono ?_
  rintro e w2 ⟨rfl, hT2, hx2⟩
  have HA2 := Lib.hid (HA.out.ext hx2 (by omega))
  have hb2 := Go.X.Row.ext Hb.out hx2 (by omega)
  have Hx2 := Lib.hid (Hx.out.trans hx2 fun k hk (e : k = w.heap.size + 1) => absurd hk (by omega))
  have t0 := hT2.cell (i := 0) rfl
  have b0 := hb2.cell (i := 0) rfl
  have b1 := hb2.cell (i := 1) rfl
  clear hx2
  go_wp2_with fail
  have HT2 := Lib.hid hT2
  have Hb2 := Lib.hid hb2
  clear t0 b0 b1 hT2 hb2
  refine X.wp_region_plan 9 [(0, true), (1, true), (2, true), (3, true), (4, true), (5, true), (6, true), (7, true), (8, true)] [(9, false), (10, true)] (by kernel_rfl) (by kernel_rfl) (fun wd hxwd hh => ?_)
  clear hh
  have HTd := Lib.hid (HT2.out.ext0 hxwd)
  have Hbd := Lib.hid (Hb2.out.ext0 hxwd)
  have HAd := Lib.hid (HA2.out.ext0 hxwd)
  have Hxd := Lib.hid (Hx2.out.extN hxwd)
  clear hxwd
  refine X.wpE_still (o := ⟨_, _, _, _, _, _⟩) rfl rfl ?_
  refine ⟨.pointer (some ⟨a, 0, none⟩), fun w' hE => X.exec_load1 rfl rfl nBadP ((HTd.out.ext0 hE).cell (i := 0) rfl), ?_⟩
  simp only [Act.put, List.setIfInBounds_toArray, List.set_cons_succ, List.set_cons_zero]
  iterate 2
    refine X.wpE_still (o := ⟨_, _, _, _, _, _⟩) rfl rfl ?_
    apply Exists.intro
    refine ⟨fun w' hE => ?_, ?_⟩
    · skip
      go_simp
      rfl
    simp only [Act.put, List.setIfInBounds_toArray, List.set_cons_succ, List.set_cons_zero]
  refine X.wpE_still (o := ⟨_, _, _, _, _, _⟩) rfl rfl ?_
  refine ⟨.int .i64 y, fun w' hE => X.exec_load1 rfl rfl nErrno ((Hbd.out.ext0 hE).cell (i := 0) rfl), ?_⟩
  simp only [Act.put, List.setIfInBounds_toArray, List.set_cons_succ, List.set_cons_zero]
  refine X.wpE_still (o := ⟨_, _, _, _, _, _⟩) rfl rfl ?_
  refine ⟨.pointer (some ⟨a, 0, none⟩), fun w' hE => X.exec_load1 rfl rfl nBadP ((HTd.out.ext0 hE).cell (i := 0) rfl), ?_⟩
  simp only [Act.put, List.setIfInBounds_toArray, List.set_cons_succ, List.set_cons_zero]
  iterate 2
    refine X.wpE_still (o := ⟨_, _, _, _, _, _⟩) rfl rfl ?_
    apply Exists.intro
    refine ⟨fun w' hE => ?_, ?_⟩
    · skip
      go_simp
      rfl
    simp only [Act.put, List.setIfInBounds_toArray, List.set_cons_succ, List.set_cons_zero]
  refine X.wpE_still (o := ⟨_, _, _, _, _, _⟩) rfl rfl ?_
  refine ⟨.int .i64 z, fun w' hE => X.exec_load1 rfl rfl nInt ((Hbd.out.ext0 hE).cell (i := 1) rfl), ?_⟩
  simp only [Act.put, List.setIfInBounds_toArray, List.set_cons_succ, List.set_cons_zero]
  refine X.wpE_still (o := ⟨_, _, _, _, _, _⟩) rfl rfl ?_
  refine ⟨.agg #[.int .i64 y, .int .i64 z], fun w' hE => X.exec_build2 (u := .int .i64 y) (v := .int .i64 z) (z := .agg #[.int .i64 y, .int .i64 z]) rfl rfl rfl (fun w => err_build y z w) w', ?_⟩
  simp only [Act.put, List.setIfInBounds_toArray, List.set_cons_succ, List.set_cons_zero]
  refine X.wpE_nil ?_
  refine X.wpT_act (o := ⟨_, _, _, _, _, _⟩) rfl rfl ⟨_, X.exec_store_all (vs := [.int .i64 y, .int .i64 z]) rfl rfl rfl aErr HAd.out rfl rfl (by intro u hu; simp at hu; rcases hu with rfl | rfl <;> rfl), ?_⟩
  simp only [Act.put]
  refine X.wpT_pure (o := ⟨_, _, _, _, _, _⟩) rfl rfl ?_
  apply Exists.intro
  refine ⟨fun w' => ?_, ?_⟩
  · go_simp
    rfl
  simp only [Act.put, List.setIfInBounds_toArray, List.set_cons_succ, List.set_cons_zero]
  refine X.wpT_nil ?_
  have hA4 := HAd.out.setRow [.int .i64 y, .int .i64 z]
  have hx4 := Hxd.out.setRow (b := w.heap.size) (fun h => by omega) [Value.int .i64 y, .int .i64 z].toArray
  have HA4 := Lib.hid hA4
  have Hx4 := Lib.hid hx4
  generalize wd.setRow w.heap.size [Value.int .i64 y, .int .i64 z].toArray = w4 at HA4 Hx4 ⊢
  clear hA4 hx4
  go_wp2
  exact bodyPost_ret (results_row_tmp (b := w.heap.size) (C := [.int .i64 y, .int .i64 z]) rfl rfl rfl aErr HA4.out rfl) rfl ⟨rfl, Hx4.out⟩
end Go.Proofs.YtggiknehmoaimaaGreatDoor
