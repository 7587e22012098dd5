/-
  The shelf of the program: Take of a transaction without parents that is known.
-/
import Derived.Test.YtggiknehmoaimaaGreatDoorTakeA
namespace Go.Proofs.YtggiknehmoaimaaGreatDoor
open Go Go.RowKit Go.X
/-- All blocks of a shelf. -/
def ShelfS.all (S : ShelfS) (s : Nat) : Nat → Prop := fun b => b = s ∨ b = S.d ∨ b = S.D.held ∨ b = S.D.heads ∨ b = S.D.waits ∨ b = S.entry ∨ b = S.block
theorem ShelfAt.far {F : Nat → Prop} {w w' : World} {s : Nat} {S : ShelfS} (h : ShelfAt w s S) (hx : Ext F w w') (hF : ∀ b, S.all s b → F b → False) : ShelfAt w' s S := by
  have g : ∀ b, S.all s b → ¬ F b := fun b hb hf => hF b hb hf
  unfold ShelfS.all at g
  exact ⟨h.row.ext hx (g _ (by simp)), h.dag.ext hx (g _ (by simp)) (g _ (by simp)) (g _ (by simp)) (g _ (by simp)), h.LEm.ext hx (g _ (by simp)), h.LBm.ext hx (g _ (by simp)), h.ne, h.ne2, h.ne3, h.ne4⟩
theorem ShelfAt.lt {w : World} {s : Nat} {S : ShelfS} (h : ShelfAt w s S) : ∀ b, S.all s b → b < w.heap.size := by
  intro b hb
  unfold ShelfS.all at hb
  rcases hb with rfl | rfl | rfl | rfl | rfl | rfl | rfl
  · exact h.row.lt
  · exact h.dag.row.lt
  · exact h.dag.LHm.lt
  · exact h.dag.LMm.lt
  · exact h.dag.LWm.lt
  · exact h.LEm.lt
  · exact h.LBm.lt
theorem BArg.lt {w : World} {v : Value} {l : Bytes} (h : BArg w v l) : l ≠ [] → ∀ k, v.ownBlock = some k → k < w.heap.size := fun h0 k hk => by
  obtain ⟨⟨ad, c, rfl, hc, hby⟩, _⟩ := h
  obtain ⟨b', o, rfl, hc'⟩ := hby 0 (l[0]'(by cases l; exact absurd rfl h0; simp)) (by simp)
  simp [Value.ownBlock] at hk
  subst hk
  exact World.block_lt_of_cell? w _ hc'
theorem nShelf : (∀ w, (isAgg 23).run Tryz.prog w = .ok false w) := fun w => by
  unfold isAgg
  rw [Sem.run_bind, run_underlying Tryz.underlying23 w]
  rfl
theorem nDag : (∀ w, (isAgg 65).run Tryz.prog w = .ok false w) := fun w => by
  unfold isAgg
  rw [Sem.run_bind, run_underlying Tryz.underlying65 w]
  rfl
set_option maxRecDepth 100000 in
set_option maxHeartbeats 4000000 in
theorem take_known {w : World} {s : Nat} {S : ShelfS} {v : Value} {L : Bytes} {x : Nat} (h : ShelfAt w s S) (hb : BArg w v L) (hl : L.length ≤ 1048576) (hP : PlainB L x) (hk : (X.get S.D.LH (shaF L)).isSome = true) :
    Calls Tryz.prog 14 #[.pointer (some ⟨s, 0, none⟩), v] w fun e w' => e = .returned (.tuple #[takenV 1 nilS nilS, .nilIface]) ∧ Ext Nil w w' := by
  have Hold := Lib.hid h.lt
  have Hvl := Lib.hid (BArg.lt hb)
  have hcl : v.oneCell' = true := by obtain ⟨⟨ad, c, rfl, _⟩, _⟩ := hb; rfl
  have hen := fun (W : World) (h : BArg W v L) => entry_plain h hl hP
  generalize shaF L = hs at hk hen ⊢
  go_enter_defers Tryz.func14, Tryz.ntmps14
  go_upto_region 1 with (fail)
  refine Go.X.three_start (Φ := fun W => Code.wp _ _ _ _ W) ?_
  intro W hPb hT hE hx
  have hmf : ∀ (fn : Fn) (first cap : Array Value) (w : World), (Instr.makeFunc fn first cap).run Tryz.prog w = .ok (.func fn first cap) w := fun _ _ _ _ => rfl
  have p0 := hPb.cell (i := 0) rfl
  have s4 := (h.ext0 hx).row.cell (i := 4) rfl
  have hsz := hx.size
  have hEl := hE.lt
  have HPb := Lib.hid hPb
  have HT := Lib.hid hT
  have HE := Lib.hid hE
  have Hx := Lib.hid hx
  have HS := Lib.hid (h.ext0 hx)
  have Hc := Lib.hid (hen _ (hb.ext0 hx))
  have Hb := Lib.hid (hb.ext0 hx)
  have Hk := Lib.hid hk
  have hsl := h.row.lt
  clear h hb hPb hT hE hx hen hk hP
  go_wp2_with fail
  refine Hc.out.mono ?_
  rintro e w1 ⟨rfl, hx1⟩
  have hs1 := hx1.size
  have HP1 := Lib.hid (HPb.out.ext0 hx1)
  have HT1 := Lib.hid (HT.out.ext0 hx1)
  have HE1 := Lib.hid (HE.out.ext0 hx1)
  have HS1 := Lib.hid (HS.out.ext0 hx1)
  have Hb1 := Lib.hid (Hb.out.ext0 hx1)
  have Hx1 := Lib.hid (Hx.out.extN hx1)
  have hEnl := entryC_length hs.1 hs.2 x 1 nilS nilS
  have hEn1 := entryC_one hs.1 x 1 nilS nilS rfl rfl
  have hvx := fun W => vertex_plain (w := W) (hs := hs) (x := x) (c := 1) (ov := nilS)
  have Henid : Hid (((entryC hs.1 x 1 nilS nilS).drop 0).take 32 = bv hs.1) := by
    show ((entryC hs.1 x 1 nilS nilS).drop 0).take 32 = bv hs.1
    unfold entryC
    rw [List.drop_zero, List.take_append_of_le_length (by rw [bv_length, hs.2]; exact Nat.le_refl _), List.take_of_length_le (by rw [bv_length, hs.2]; exact Nat.le_refl _)]
  generalize entryC hs.1 x 1 nilS nilS = EN at hEnl hEn1 hvx Henid ⊢
  have Henl := Lib.hid hEnl
  have Hen1 := Lib.hid hEn1
  have Hvx := Lib.hid hvx
  clear hx1 p0 s4 hEnl hEn1 hvx Hc
  go_wp2_with (first
    | (refine wpList_store_all (o := ⟨none, _, _, _, _, _⟩) rfl (.tmp 6) (.tmp 23) rfl rfl (vs := EN) rfl aEntry (row_alloc w1 _ _) rfl Henl.out Hen1.out ?_; refine rd_start (Φ := fun W => wpList _ _ _ _ _ W) rfl ?_ rfl; intro W2 h6 hxW2; have H6 := Lib.hid h6; have HE2 := Lib.hid (HE1.out.ext0 hxW2); have HX2 := Lib.hid hxW2; have e0 := HE2.out.cell (i := 0) rfl; have ef := HE2.out.frozen; clear hxW2 h6)
    | (refine wpList_load_all (o := ⟨some 30, _, _, _, _, _⟩) rfl (.tmp 6) rfl rfl aEntry (H6.out.ext ((Ext.refl (fun b => b = w.heap.size + 2) W2).setCell (p := ⟨w.heap.size + 1 + 1, 0, none⟩) (fun _ => rfl) .nilIface) (by omega)) Henl.out ?_))
  have hxs := (Ext.refl (fun b => b = w.heap.size + 2) W2).setCell (p := ⟨w.heap.size + 1 + 1, 0, none⟩) (fun _ => rfl) .nilIface
  have hE3 := HE2.out.set 0 .nilIface
  have hT3 := (HT1.out.ext0 HX2.out).ext hxs (by omega)
  have hP3 := (HP1.out.ext0 HX2.out).ext hxs (by omega)
  have h63 := H6.out.ext hxs (by omega)
  have hS3 : ShelfAt (W2.setCell ⟨w.heap.size + 1 + 1, 0, none⟩ .nilIface) s S := (HS1.out.ext0 HX2.out).far hxs fun b hb hb2 => by have := Hold.out b hb; omega
  have hb3 := (Hb1.out.ext0 HX2.out).ext hxs fun h0 b hb e => by have := Hvl.out h0 b hb; omega
  have hx3 := (Hx1.out.extN HX2.out).trans hxs fun k hk (e : k = w.heap.size + 2) => absurd hk (by omega)
  have HE3 : Hid (Row (W2.setCell ⟨w.heap.size + 1 + 1, 0, none⟩ .nilIface) (w.heap.size + 2) 41 [.nilIface]) := hE3
  have HT3 := Lib.hid hT3
  have HP3 := Lib.hid hP3
  have H63 := Lib.hid h63
  have HS3 := Lib.hid hS3
  have Hb3 := Lib.hid hb3
  have Hx3 := Lib.hid hx3
  generalize W2.setCell ⟨w.heap.size + 1 + 1, 0, none⟩ .nilIface = W3 at HE3 HT3 HP3 H63 HS3 Hb3 Hx3 ⊢
  clear hE3 hT3 hP3 h63 hS3 hb3 hx3 hxs e0 ef
  refine (Hvx.out W3).mono ?_
  rintro e w4 ⟨rfl, hx4⟩
  have hvl := vertexC_length hs.1 hs.2 1 nilS
  have hv1 := vertexC_one hs.1 1 nilS rfl
  have hfit := fun (W : World) (h : DagAt W S.d S.D) => fit_held hs h Hk.out
  unfold VX at hfit
  generalize vertexC hs.1 1 nilS = VN at hvl hv1 hfit ⊢
  have Hvln := Lib.hid hvl
  have Hv1 := Lib.hid hv1
  have Hfit := Lib.hid hfit
  clear hfit
  have HE4 := Lib.hid (HE3.out.ext0 hx4)
  have HT4 := Lib.hid (HT3.out.ext0 hx4)
  have HP4 := Lib.hid (HP3.out.ext0 hx4)
  have H64 := Lib.hid (H63.out.ext0 hx4)
  have HS4 := Lib.hid (HS3.out.ext0 hx4)
  have Hb4 := Lib.hid (Hb3.out.ext0 hx4)
  have Hx4 := Lib.hid (Hx3.out.extN hx4)
  clear hx4 hvl hv1
  go_wp2_with (refine wpList_store_all (o := ⟨none, _, _, _, _, _⟩) rfl (.tmp 7) (.tmp 31) rfl rfl (vs := VN) rfl aVertex (row_alloc w4 _ _) rfl Hvln.out Hv1.out ?_; refine rd_start (Φ := fun W => wpList _ _ _ _ _ W) rfl ?_ rfl; intro W5 h7 hx5; have H7 := Lib.hid h7; have HX5 := Lib.hid hx5; clear h7 hx5)
  have hT5 := HT4.out.ext0 HX5.out
  have hE5 := HE4.out.ext0 HX5.out
  have hP5 := HP4.out.ext0 HX5.out
  have hS5 := HS4.out.ext0 HX5.out
  have h65 := H64.out.ext0 HX5.out
  have hb5 := Hb4.out.ext0 HX5.out
  have hx5 := Hx4.out.extN HX5.out
  refine X.wp_region_plan 11 [(0, true), (1, true), (2, true), (3, true), (4, true), (5, false), (6, true), (7, true), (8, true), (9, true), (10, true)] [] (by kernel_rfl) (by kernel_rfl) (fun wd hxwd hh => ?_)
  clear hh
  have HT6 := Lib.hid (hT5.ext0 hxwd)
  have HE6 := Lib.hid (hE5.ext0 hxwd)
  have HP6 := Lib.hid (hP5.ext0 hxwd)
  have HS6 := Lib.hid (hS5.ext0 hxwd)
  have H66 := Lib.hid (h65.ext0 hxwd)
  have H76 := Lib.hid (H7.out.ext0 hxwd)
  have Hb6 := Lib.hid (hb5.ext0 hxwd)
  have Hx6 := Lib.hid (hx5.extN hxwd)
  clear hT5 hE5 hP5 hS5 h65 hb5 hx5 hxwd
  refine X.wpE_still (o := ⟨_, _, _, _, _, _⟩) rfl rfl ?_
  refine ⟨.pointer (some ⟨s, 0, none⟩), fun w' hE => X.exec_load1 rfl rfl nShelf ((HP6.out.ext0 hE).cell (i := 0) rfl), ?_⟩
  simp only [Act.put, List.setIfInBounds_toArray, List.set_cons_succ, List.set_cons_zero]
  iterate 2
    refine X.wpE_still (o := ⟨_, _, _, _, _, _⟩) rfl rfl ?_
    apply Exists.intro
    refine ⟨fun w' hE => ?_, ?_⟩
    · skip
      go_simp
      rfl
    simp only [Act.put, List.setIfInBounds_toArray, List.set_cons_succ, List.set_cons_zero]
  refine X.wpE_still (o := ⟨_, _, _, _, _, _⟩) rfl rfl ?_
  refine ⟨.pointer (some ⟨S.d, 0, none⟩), fun w' hE => X.exec_load1 rfl rfl nDag ((HS6.out.row.ext0 hE).cell (i := 1) rfl), ?_⟩
  simp only [Act.put, List.setIfInBounds_toArray, List.set_cons_succ, List.set_cons_zero]
  refine X.wpE_still (o := ⟨_, _, _, _, _, _⟩) rfl rfl ?_
  refine ⟨.agg VN.toArray, fun w' hE => X.exec_load_all rfl rfl aVertex (H76.out.ext0 hE) Hvln.out, ?_⟩
  simp only [Act.put, List.setIfInBounds_toArray, List.set_cons_succ, List.set_cons_zero]
  refine X.wpE_call (o := ⟨_, _, _, _, _, _⟩) rfl rfl ?_
  apply Exists.intro
  apply Exists.intro
  refine ⟨?_, ?_⟩
  · go_simp
    exact ⟨rfl, rfl⟩
  refine (Hfit.out wd HS6.out.dag).mono ?_
  rintro e w7 ⟨rfl, hx7⟩
  refine ⟨_, rfl, hx7, ?_⟩
  simp only [Act.put, List.setIfInBounds_toArray, List.set_cons_succ, List.set_cons_zero]
  iterate 5
    refine X.wpE_still (o := ⟨_, _, _, _, _, _⟩) rfl rfl ?_
    apply Exists.intro
    refine ⟨fun w' hE => ?_, ?_⟩
    · skip
      go_simp
      rfl
    simp only [Act.put, List.setIfInBounds_toArray, List.set_cons_succ, List.set_cons_zero]
  refine X.wpE_nil ?_
  refine X.wpT_nil ?_
  have HT7 := Lib.hid (HT6.out.ext0 hx7)
  have HE7 := Lib.hid (HE6.out.ext0 hx7)
  have HP7 := Lib.hid (HP6.out.ext0 hx7)
  have HS7 := Lib.hid (HS6.out.ext0 hx7)
  have H67 := Lib.hid (H66.out.ext0 hx7)
  have H77 := Lib.hid (H76.out.ext0 hx7)
  have Hb7 := Lib.hid (Hb6.out.ext0 hx7)
  have Hx7 := Lib.hid (Hx6.out.extN hx7)
  clear hx7
  go_wp2_with (refine wpList_store_all (o := ⟨none, _, _, _, _, _⟩) rfl (.tmp 4) (.tmp 50) rfl rfl (vs := [.int .i64 1, nilS, nilS]) rfl aTaken HT7.out rfl rfl (by intro u hu; simp at hu; rcases hu with rfl | rfl <;> rfl) ?_; refine Go.X.store_world (Φ := fun W => wpList _ _ _ _ _ W) HT7.out ?_; intro W8 hT8 hxW8; have HT8 := Lib.hid hT8; have HE8 := Lib.hid (HE7.out.ext hxW8 (by omega)); have Hx8 := Lib.hid (Hx7.out.trans hxW8 fun k hk (e : k = w.heap.size + 1) => absurd hk (by omega)); have e0 := HE8.out.cell (i := 0) rfl; have ef := HE8.out.frozen; clear hT8 hxW8)
  refine leaves_cons (f := 34) (args := #[.pointer (some ⟨w.heap.size, 0, none⟩), .pointer (some ⟨w.heap.size + 1, 0, none⟩), .pointer (some ⟨w.heap.size + 1 + 1, 0, none⟩)]) (by simp) (by simp [go_sem]) ?_
  refine (take_idle _ _ _ _).mono ?_
  rintro e u' w'' ⟨rfl, rfl, rfl⟩
  simp only [settle, Leaves]
  have hx9 := (Ext.refl (fun b => b = w.heap.size + 2) W8).setCell (p := ⟨w.heap.size + 1 + 1, 0, none⟩) (fun _ => rfl) .nilIface
  exact ⟨_, results_row_row (b := w.heap.size + 1) (C := [.int .i64 1, nilS, nilS]) (b' := w.heap.size + 2) rfl rfl rfl aTaken (HT8.out.ext hx9 (by omega)) rfl (nErr _) ((HE8.out.set 0 .nilIface).cell (i := 0) rfl), rfl, Hx8.out.trans hx9 fun k hk (e : k = w.heap.size + 2) => absurd hk (by omega)⟩
end Go.Proofs.YtggiknehmoaimaaGreatDoor
