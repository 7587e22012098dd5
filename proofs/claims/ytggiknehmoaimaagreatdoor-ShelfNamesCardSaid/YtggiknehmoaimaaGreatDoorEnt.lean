/-
  node of the program: Entry.
-/
import Derived.Test.YtggiknehmoaimaaGreatDoorDec
import Derived.Test.YtggiknehmoaimaaGreatDoorBuild
namespace Go.X
open Go.RowKit
theorem exec_build2 {P : Program} {o : Oper} {ρ : Operand → Value} {t : TypeId} {i j : Nat} {x y : Operand} {u v z : Value} (ho : o.op = .build t #[(i, x), (j, y)]) (hx : ρ x = u) (hy : ρ y = v) (h : ∀ w, (Instr.build t #[(i, u), (j, v)]).run P w = .ok z w) (w : World) :
    (execOp ρ o).run P w = .ok (.value z) w := by
  unfold execOp
  rw [ho]
  simp [hx, hy, h w]
theorem exec_build3 {P : Program} {o : Oper} {ρ : Operand → Value} {t : TypeId} {i j k : Nat} {x y s : Operand} {u v q z : Value} (ho : o.op = .build t #[(i, x), (j, y), (k, s)]) (hx : ρ x = u) (hy : ρ y = v) (hs : ρ s = q) (h : ∀ w, (Instr.build t #[(i, u), (j, v), (k, q)]).run P w = .ok z w) (w : World) :
    (execOp ρ o).run P w = .ok (.value z) w := by
  unfold execOp
  rw [ho]
  simp [hx, hy, hs, h w]
end Go.X
namespace Go.Proofs.YtggiknehmoaimaaGreatDoor
open Go Go.RowKit Go.X
theorem node_one (a c : Int) : ∀ u ∈ [Value.int .i64 a, .int .i64 c, nilS, nilS], u.oneCell' = true := by
  intro u hu
  simp at hu
  rcases hu with rfl | rfl | rfl <;> rfl
set_option maxRecDepth 100000 in
set_option maxHeartbeats 4000000 in
theorem entry_plain {w : World} {v : Value} {L : Bytes} {x : Nat} (hb : BArg w v L) (hl : L.length ≤ 1048576) (hP : PlainB L x) :
    Calls Tryz.prog 33 #[v] w fun e w' => e = .returned (.tuple #[.agg (entryC (shaF L).1 x 1 nilS nilS).toArray, .nilIface]) ∧ Ext Nil w w' := by
  have Hb := Lib.hid hb
  have hof : ∀ W, BytesIn W v L → Calls Tryz.prog 58 #[v] W fun e w' => e = .returned (Go.X.hv (shaF L)) ∧ Ext Nil W w' := fun W h => of_any h (by omega)
  generalize shaF L = hs at hof ⊢
  have Hof := Lib.hid hof
  clear hof
  have hal := (Ext.refl Nil w).alloc (.cells (entryC (List.replicate 32 0) 0 0 nilS nilS).toArray 87)
  have Hal := Lib.hid hal
  have Hc := Lib.hid (decode_plain (hb.ext0 hal) hl hP)
  clear hb hP hal
  go_enter Tryz.func33, Tryz.ntmps33
  go_wp2_with fail
  refine Hc.out.mono ?_
  rintro e w1 ⟨rfl, hx1⟩
  have hA := (row_alloc w (entryC (List.replicate 32 0) 0 0 nilS nilS).toArray 87).ext0 hx1
  have HA := Lib.hid hA
  have Hx1 := Lib.hid (Hal.out.extN hx1)
  clear hx1 hA
  unfold nodeV
  go_wp2_with fail
  have hB := row_alloc w1 #[.int .i64 x, .int .i64 1, nilS, nilS] 36
  have halB := (Ext.refl Nil w1).alloc (.cells #[.int .i64 x, .int .i64 1, nilS, nilS] 36)
  refine X.wp_region_plan 4 [(0, true), (2, true), (1, false), (3, true)] [(4, false), (5, true)] (by kernel_rfl) (by kernel_rfl) (fun wd hxwd hh => ?_)
  clear hh
  have hBd := hB.ext0 hxwd
  have hxd := Hx1.out.extN (halB.extN hxwd)
  have hAd := HA.out.ext0 (halB.extN hxwd)
  refine X.wpE_still (o := ⟨_, _, _, _, _, _⟩) rfl rfl ?_
  apply Exists.intro
  refine ⟨fun w' hE => ?_, ?_⟩
  · go_simp
    rfl
  simp only [Act.put, List.setIfInBounds_toArray, List.set_cons_succ, List.set_cons_zero]
  refine X.wpE_still (o := ⟨_, _, _, _, _, _⟩) rfl rfl ?_
  refine ⟨_, fun w' hE => X.exec_load (off := 0) rfl rfl aNode (hBd.ext0 hE) (Nat.le_refl _), ?_⟩
  simp only [Act.put, List.setIfInBounds_toArray, List.set_cons_succ, List.set_cons_zero]
  refine X.wpE_call (o := ⟨_, _, _, _, _, _⟩) rfl rfl ?_
  apply Exists.intro
  apply Exists.intro
  refine ⟨?_, ?_⟩
  · go_simp
    exact ⟨rfl, rfl⟩
  refine (Hof.out _ (Hb.out.1.ext0 hxd)).mono ?_
  rintro e w3 ⟨rfl, hx3⟩
  refine ⟨_, rfl, hx3, ?_⟩
  simp only [Act.put, List.setIfInBounds_toArray, List.set_cons_succ, List.set_cons_zero]
  refine X.wpE_still (o := ⟨_, _, _, _, _, _⟩) rfl rfl ?_
  refine ⟨.agg (entryC hs.1 x 1 nilS nilS).toArray, fun w' hE => X.exec_build2 (u := av hs.1) (v := .agg #[.int .i64 x, .int .i64 1, nilS, nilS]) (z := .agg (entryC hs.1 x 1 nilS nilS).toArray) rfl rfl rfl (run_entry x 1 nilS nilS hs.1 hs.2) w', ?_⟩
  simp only [Act.put, List.setIfInBounds_toArray, List.set_cons_succ, List.set_cons_zero]
  refine X.wpE_nil ?_
  have hA3 := hAd.ext0 hx3
  have hlen := entryC_length hs.1 hs.2 x 1 nilS nilS
  refine X.wpT_act (o := ⟨_, _, _, _, _, _⟩) rfl rfl ⟨_, X.exec_store (off := 0) rfl rfl rfl aEntry hA3 (Nat.le_of_eq (entryC_length _ rfl _ _ _ _).symm) hlen (entryC_one _ _ _ _ _ rfl rfl), ?_⟩
  simp only [Act.put]
  refine X.wpT_pure (o := ⟨_, _, _, _, _, _⟩) rfl rfl ?_
  apply Exists.intro
  refine ⟨fun w' => ?_, ?_⟩
  · go_simp
    rfl
  simp only [Act.put, List.setIfInBounds_toArray, List.set_cons_succ, List.set_cons_zero]
  refine X.wpT_nil ?_
  have hA4 := hA3.setRow ((entryC (List.replicate 32 0) 0 0 nilS nilS).toArray.toList.take 0 ++ entryC hs.1 x 1 nilS nilS ++ (entryC (List.replicate 32 0) 0 0 nilS nilS).toArray.toList.drop (0 + 36))
  have e1 : (entryC (List.replicate 32 0) 0 0 nilS nilS).toArray.toList.take 0 ++ entryC hs.1 x 1 nilS nilS ++ (entryC (List.replicate 32 0) 0 0 nilS nilS).toArray.toList.drop (0 + 36) = entryC hs.1 x 1 nilS nilS := by
    rw [List.take_zero, List.nil_append, List.drop_eq_nil_of_le (Nat.le_of_eq (entryC_length _ rfl _ _ _ _)), List.append_nil]
  rw [e1] at hA4 ⊢
  have hx4 := (hxd.extN hx3).setRow (b := w.heap.size) (fun h => by omega) (entryC hs.1 x 1 nilS nilS).toArray
  have HA4 := Lib.hid hA4
  have Hx4 := Lib.hid hx4
  have Hlen := Lib.hid hlen
  generalize w3.setRow w.heap.size (entryC hs.1 x 1 nilS nilS).toArray = w4 at HA4 Hx4 ⊢
  clear hA4 hx4 hlen e1 hA3 hAd hBd hB halB hxwd hxd hx3
  go_wp2
  exact bodyPost_ret (results_row_tmp (b := w.heap.size) (C := entryC hs.1 x 1 nilS nilS) rfl rfl rfl aEntry HA4.out Hlen.out) rfl ⟨rfl, Hx4.out⟩

set_option maxRecDepth 100000 in
set_option maxHeartbeats 4000000 in
theorem entry_empty {w : World} {v : Value} (hb : BArg w v []) :
    Calls Tryz.prog 33 #[v] w (Failed w Nil 20 0 fun u => .tuple #[.agg (entryC (List.replicate 32 0) 0 0 nilS nilS).toArray, u]) := by
  have hal := (Ext.refl Nil w).alloc (.cells (entryC (List.replicate 32 0) 0 0 nilS nilS).toArray 87)
  have Hal := Lib.hid hal
  have Hc := Lib.hid (decode_empty (hb.ext0 hal))
  have hbn := bad_neq
  clear hb hal
  go_enter Tryz.func33, Tryz.ntmps33
  go_wp2_with fail
  refine Hc.out.mono ?_
  rintro e w1 ⟨a, rfl, h1, h2, hx1⟩
  simp only [World.size_alloc] at h1
  have hA := ((row_alloc w (entryC (List.replicate 32 0) 0 0 nilS nilS).toArray 87).ext0 hx1).ext0 ((Ext.refl Nil w1).alloc (.cells #[.int .i64 0, .int .i64 0, nilS, nilS] 36))
  have hx2 := (Hal.out.extN hx1).alloc (.cells #[.int .i64 0, .int .i64 0, nilS, nilS] 36)
  have hb2 := Go.X.Row.ext0 h2 ((Ext.refl Nil w1).alloc (.cells #[.int .i64 0, .int .i64 0, nilS, nilS] 36))
  have HA := Lib.hid hA
  have Hx2 := Lib.hid hx2
  have Hb2 := Lib.hid hb2
  clear hx1 hA h2 hx2 hb2
  unfold badV nodeV
  go_wp2_with (refine wpList_store_all (o := ⟨none, _, _, _, _, _⟩) rfl (.tmp 2) (.tmp 13) rfl rfl (vs := entryC (List.replicate 32 0) 0 0 nilS nilS) rfl aEntry HA.out rfl rfl (entryC_one _ _ _ _ _ rfl rfl) ?_)
  exact bodyPost_ret (results_row_tmp (b := w.heap.size) (C := entryC (List.replicate 32 0) 0 0 nilS nilS) rfl rfl rfl aEntry (HA.out.setRow _) rfl) rfl ⟨a, rfl, by omega, Go.X.Row.ext Hb2.out ((Ext.refl (fun b => b = w.heap.size) _).setRow (fun _ => rfl) _) (by omega), Hx2.out.setRow (fun h => by omega) _⟩
end Go.Proofs.YtggiknehmoaimaaGreatDoor
