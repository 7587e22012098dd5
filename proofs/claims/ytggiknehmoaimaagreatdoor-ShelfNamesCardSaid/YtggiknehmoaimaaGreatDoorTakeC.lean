/-
  The shelf of the program: Take of a transaction without parents that is not known.
-/
import Derived.Test.YtggiknehmoaimaaGreatDoorTakeB
namespace Go.X
open Go.RowKit
section
variable {P : Program} {w : World} {o : Oper} {κ : Type} [DecidableEq κ] {kt mt et : TypeId} {kd : κ → Value} {b : Nat} {L : List (Ent κ)}
variable {ops : Array Oper} {Q : Exit → Act → World → Prop} {T : Act → World → Prop} {G : Nat → Prop} {rest : List (Nat × Bool)} {a : Act} {i : Nat}
theorem wpE_mapEntry (ho : ops[i]? = some o) (hw : Region.wanted o (yielded ops a.tmps) = true) {x y : Operand} (hop : o.op = .mapEntry mt x y) (hx : a.eval x = .map (some b)) (k : κ) (hy : a.eval y = kd k) (K : KeyT P kt kd) (hm : P.underlying mt = some (.map kt et)) {z : Value} (hz : ∀ w, (zeroValue et).run P w = .ok z w) (H : HasMap w b kd L) (hG : G b)
    (h : ∀ (w' : World) (L' : List (Ent κ)) (u : Value) (n : Nat), Stored w w' b kd L L' k u → (k, u, n) ∈ L' → Ext G w w' → wpEg G P ops T rest (a.put o.dst (.tuple #[u, .int .i64 n])) w') : wpEg G P ops T ((i, false) :: rest) a w := by
  obtain ⟨w', L', n, hr, hs, hmem⟩ := run_mapEntry K hm hz H k
  have hx2 : Ext G w w' := hs.ext.mono fun _ _ e => by subst e; exact hG
  refine wpE_grow ho hw ⟨_, w', ?_, hx2, h w' L' _ n hs hmem hx2⟩
  unfold execOp
  simp only [hop, Sem.run_bind, hx, hy, hr, Result.andThen_ok, Sem.run_pure]
theorem wpT_mapEntry (ho : ops[i]? = some o) (hw : Region.wanted o (yielded ops a.tmps) = true) {x y : Operand} (hop : o.op = .mapEntry mt x y) (hx : a.eval x = .map (some b)) (k : κ) (hy : a.eval y = kd k) (K : KeyT P kt kd) (hm : P.underlying mt = some (.map kt et)) {z : Value} (hz : ∀ w, (zeroValue et).run P w = .ok z w) (H : HasMap w b kd L)
    (h : ∀ (w' : World) (L' : List (Ent κ)) (u : Value) (n : Nat), Stored w w' b kd L L' k u → (k, u, n) ∈ L' → wpT P ops Q rest (a.put o.dst (.tuple #[u, .int .i64 n])) w') : wpT P ops Q ((i, false) :: rest) a w := by
  obtain ⟨w', L', n, hr, hs, hmem⟩ := run_mapEntry K hm hz H k
  refine wpT_run ho hw ⟨_, w', ?_, h w' L' _ n hs hmem⟩
  unfold execOp
  simp only [hop, Sem.run_bind, hx, hy, hr, Result.andThen_ok, Sem.run_pure]
theorem wpE_entryStore (ho : ops[i]? = some o) (hw : Region.wanted o (yielded ops a.tmps) = true) {x y z : Operand} (hop : o.op = .entryStore mt x y z) (hx : a.eval x = .map (some b)) {k : κ} {u : Value} {n : Nat} (hy : a.eval y = .int .i64 n) (v : Value) (hz : a.eval z = v) (H : HasMap w b kd L) (hmem : (k, u, n) ∈ L) (hG : G b)
    (h : ∀ (w' : World) (L' : List (Ent κ)), Stored w w' b kd L L' k v → Ext G w w' → wpEg G P ops T rest (a.put o.dst undef) w') : wpEg G P ops T ((i, false) :: rest) a w := by
  obtain ⟨w', L', hr, hs⟩ := run_entryStore (P := P) (mt := mt) H hmem v
  have hx2 : Ext G w w' := hs.ext.mono fun _ _ e => by subst e; exact hG
  refine wpE_act ho hw ⟨w', ?_, hx2, h w' L' hs hx2⟩
  unfold execOp
  simp only [hop, Sem.run_bind, hx, hy, hz, hr, Result.andThen_ok, Sem.run_pure]
theorem wpT_entryStore (ho : ops[i]? = some o) (hw : Region.wanted o (yielded ops a.tmps) = true) {x y z : Operand} (hop : o.op = .entryStore mt x y z) (hx : a.eval x = .map (some b)) {k : κ} {u : Value} {n : Nat} (hy : a.eval y = .int .i64 n) (v : Value) (hz : a.eval z = v) (H : HasMap w b kd L) (hmem : (k, u, n) ∈ L)
    (h : ∀ (w' : World) (L' : List (Ent κ)), Stored w w' b kd L L' k v → wpT P ops Q rest (a.put o.dst undef) w') : wpT P ops Q ((i, false) :: rest) a w := by
  obtain ⟨w', L', hr, hs⟩ := run_entryStore (P := P) (mt := mt) H hmem v
  refine wpT_act ho hw ⟨w', ?_, h w' L' hs⟩
  unfold execOp
  simp only [hop, Sem.run_bind, hx, hy, hz, hr, Result.andThen_ok, Sem.run_pure]
end
end Go.X
namespace Go.X
open Go.RowKit
theorem exec_buildSlice1 {P : Program} {w w' : World} {o : Oper} {ρ : Operand → Value} {x : Operand} {t : TypeId} {u v : Value} (ho : o.op = .buildSlice t 1 #[(0, x)]) (hx : ρ x = u) (h : (Instr.buildSlice t 1 #[(0, u)]).run P w = .ok v w') : (execOp ρ o).run P w = .ok (.value v) w' := by
  unfold execOp
  rw [ho]
  simp [hx, h]
theorem wpList_run {P : Program} {w w' : World} {ops : Array Oper} {rest : List Oper} {o : Oper} {a : Act} {Q : Exit → Act → World → Prop} {v : Value} (hgd : o.guard = none) (hr : (execOp a.eval o).run P w = .ok (.value v) w') (hk : wpList P ops Q rest (a.put o.dst v) w') : wpList P ops Q (o :: rest) a w :=
  wpList_plain hgd fun _ hK => by
    unfold Oper.wp
    rw [hr]
    exact hK _ _ hk
end Go.X
namespace Go.Proofs.YtggiknehmoaimaaGreatDoor
open Go Go.RowKit Go.X
theorem nMapE : (∀ w, (isAgg 68).run Tryz.prog w = .ok false w) := fun w => by
  unfold isAgg
  rw [Sem.run_bind, run_underlying Tryz.underlying68 w]
  rfl
theorem nMapB : (∀ w, (isAgg 69).run Tryz.prog w = .ok false w) := fun w => by
  unfold isAgg
  rw [Sem.run_bind, run_underlying Tryz.underlying69 w]
  rfl
theorem zEntry (w : World) : (zeroValue 87).run Tryz.prog w = .ok (.agg (entryC (List.replicate 32 0) 0 0 nilS nilS).toArray) w := by kernel_rfl
theorem zBytes (w : World) : (zeroValue 29).run Tryz.prog w = .ok nilS w := by kernel_rfl
theorem hash_slice (k : Hash) (w : World) : (Instr.buildSlice 25 1 #[(0, hv k)]).run Tryz.prog w = .ok (.slice (some ⟨w.heap.size, 0, none⟩) 1 1) (w.alloc (.cells (bv k.1).toArray 27)) :=
  Go.X.hash32 (Φ := fun l => (Instr.buildSlice 25 1 #[(0, av l)]).run Tryz.prog w = .ok (.slice (some ⟨w.heap.size, 0, none⟩) 1 1) (w.alloc (.cells (bv l).toArray 27))) (fun x0 x1 x2 x3 x4 x5 x6 x7 x8 x9 x10 x11 x12 x13 x14 x15 x16 x17 x18 x19 x20 x21 x22 x23 x24 x25 x26 x27 x28 x29 x30 x31 => by kernel_rfl) k.1 k.2
/-- What taking one leaves. -/
structure Taken (S S' : ShelfS) (k : Hash) (L : Bytes) (x : Nat) (w w' : World) : Prop where
  d : S'.d = S.d
  dag : Held S.D S'.D k
  entry : S'.entry = S.entry
  block : S'.block = S.block
  entries : ∀ j, X.get S'.LE j = if j = k then some (.agg (entryC k.1 x 1 nilS nilS).toArray) else X.get S.LE j
  blocks : ∃ v, Own w' v 5 1 L.length (bv L) ∧ (∀ b, v.ownBlock = some b → w.heap.size ≤ b) ∧ ∀ j, X.get S'.LB j = if j = k then some v else X.get S.LB j
set_option maxRecDepth 100000 in
set_option maxHeartbeats 8000000 in
theorem take_took {w : World} {s : Nat} {S : ShelfS} {v : Value} {L : Bytes} {x : Nat} (h : ShelfAt w s S) (hb : BArg w v L) (hl : L.length ≤ 1048576) (hP : PlainB L x) (ho : S.D.old = nilS) (hk : (X.get S.D.LH (shaF L)).isSome = false ∧ (X.get S.D.LW (shaF L)).isSome = false ∧ S.D.LH.length < 4096) :
    Calls Tryz.prog 14 #[.pointer (some ⟨s, 0, none⟩), v] w fun e w' => ∃ i S', e = .returned (.tuple #[takenV 2 (.slice (some ⟨i, 0, none⟩) 1 1) nilS, .nilIface]) ∧ w.heap.size ≤ i ∧ Row w' i 27 (bv (shaF L).1) ∧ ShelfAt w' s S' ∧ Taken S S' (shaF L) L x w w' ∧ Ext S.own w w' := by
  have Hold := Lib.hid h.lt
  have Ho := Lib.hid ho
  clear ho
  have hcl2 : ∀ z, v ≠ .string z := by obtain ⟨⟨ad, c, rfl, _⟩, _⟩ := hb; intro z e; cases e
  have Hvl := Lib.hid (BArg.lt hb)
  have hcl : v.oneCell' = true := by obtain ⟨⟨ad, c, rfl, _⟩, _⟩ := hb; rfl
  have hen := fun (W : World) (h : BArg W v L) => entry_plain h hl hP
  generalize shaF L = hs at hk hen ⊢
  go_enter_defers Tryz.func14, Tryz.ntmps14
  go_upto_region 1 with (fail)
  refine Go.X.three_start (Φ := fun W => Code.wp _ _ _ _ W) ?_
  intro W hPb hT hE hx
  have hmf : ∀ (fn : Fn) (first cap : Array Value) (w : World), (Instr.makeFunc fn first cap).run Tryz.prog w = .ok (.func fn first cap) w := fun _ _ _ _ => rfl
  have p0 := hPb.cell (i := 0) rfl
  have s4 := (h.ext0 hx).row.cell (i := 4) rfl
  have hsz := hx.size
  have hEl := hE.lt
  have HPb := Lib.hid hPb
  have HT := Lib.hid hT
  have HE := Lib.hid hE
  have Hx := Lib.hid hx
  have HS := Lib.hid (h.ext0 hx)
  have Hc := Lib.hid (hen _ (hb.ext0 hx))
  have Hb := Lib.hid (hb.ext0 hx)
  have Hk := Lib.hid hk
  have hsl := h.row.lt
  clear h hb hPb hT hE hx hen hk hP
  go_wp2_with fail
  refine Hc.out.mono ?_
  rintro e w1 ⟨rfl, hx1⟩
  have hs1 := hx1.size
  have HP1 := Lib.hid (HPb.out.ext0 hx1)
  have HT1 := Lib.hid (HT.out.ext0 hx1)
  have HE1 := Lib.hid (HE.out.ext0 hx1)
  have HS1 := Lib.hid (HS.out.ext0 hx1)
  have Hb1 := Lib.hid (Hb.out.ext0 hx1)
  have Hx1 := Lib.hid (Hx.out.extN hx1)
  have hEnl := entryC_length hs.1 hs.2 x 1 nilS nilS
  have hEn1 := entryC_one hs.1 x 1 nilS nilS rfl rfl
  have hvx := fun W => vertex_plain (w := W) (hs := hs) (x := x) (c := 1) (ov := nilS)
  have Henid : Hid (((entryC hs.1 x 1 nilS nilS).drop 0).take 32 = bv hs.1) := by
    show ((entryC hs.1 x 1 nilS nilS).drop 0).take 32 = bv hs.1
    unfold entryC
    rw [List.drop_zero, List.take_append_of_le_length (by rw [bv_length, hs.2]; exact Nat.le_refl _), List.take_of_length_le (by rw [bv_length, hs.2]; exact Nat.le_refl _)]
  generalize hEN : entryC hs.1 x 1 nilS nilS = EN at hEnl hEn1 hvx Henid ⊢
  have HEN := Lib.hid hEN
  clear hEN
  have Henl := Lib.hid hEnl
  have Hen1 := Lib.hid hEn1
  have Hvx := Lib.hid hvx
  clear hx1 p0 s4 hEnl hEn1 hvx Hc
  go_wp2_with (first
    | (refine wpList_store_all (o := ⟨none, _, _, _, _, _⟩) rfl (.tmp 6) (.tmp 23) rfl rfl (vs := EN) rfl aEntry (row_alloc w1 _ _) rfl Henl.out Hen1.out ?_; refine rd_start (Φ := fun W => wpList _ _ _ _ _ W) rfl ?_ rfl; intro W2 h6 hxW2; have H6 := Lib.hid h6; have HE2 := Lib.hid (HE1.out.ext0 hxW2); have HX2 := Lib.hid hxW2; have e0 := HE2.out.cell (i := 0) rfl; have ef := HE2.out.frozen; clear hxW2 h6)
    | (refine wpList_load_all (o := ⟨some 30, _, _, _, _, _⟩) rfl (.tmp 6) rfl rfl aEntry (H6.out.ext ((Ext.refl (fun b => b = w.heap.size + 2) W2).setCell (p := ⟨w.heap.size + 1 + 1, 0, none⟩) (fun _ => rfl) .nilIface) (by omega)) Henl.out ?_))
  have hxs := (Ext.refl (fun b => b = w.heap.size + 2) W2).setCell (p := ⟨w.heap.size + 1 + 1, 0, none⟩) (fun _ => rfl) .nilIface
  have hE3 := HE2.out.set 0 .nilIface
  have hT3 := (HT1.out.ext0 HX2.out).ext hxs (by omega)
  have hP3 := (HP1.out.ext0 HX2.out).ext hxs (by omega)
  have h63 := H6.out.ext hxs (by omega)
  have hS3 : ShelfAt (W2.setCell ⟨w.heap.size + 1 + 1, 0, none⟩ .nilIface) s S := (HS1.out.ext0 HX2.out).far hxs fun b hb hb2 => by have := Hold.out b hb; omega
  have hb3 := (Hb1.out.ext0 HX2.out).ext hxs fun h0 b hb e => by have := Hvl.out h0 b hb; omega
  have hx3 := (Hx1.out.extN HX2.out).trans hxs fun k hk (e : k = w.heap.size + 2) => absurd hk (by omega)
  have HE3 : Hid (Row (W2.setCell ⟨w.heap.size + 1 + 1, 0, none⟩ .nilIface) (w.heap.size + 2) 41 [.nilIface]) := hE3
  have HT3 := Lib.hid hT3
  have HP3 := Lib.hid hP3
  have H63 := Lib.hid h63
  have HS3 := Lib.hid hS3
  have Hb3 := Lib.hid hb3
  have Hx3 := Lib.hid hx3
  generalize W2.setCell ⟨w.heap.size + 1 + 1, 0, none⟩ .nilIface = W3 at HE3 HT3 HP3 H63 HS3 Hb3 Hx3 ⊢
  clear hE3 hT3 hP3 h63 hS3 hb3 hx3 hxs e0 ef
  refine (Hvx.out W3).mono ?_
  rintro e w4 ⟨rfl, hx4⟩
  have hvl := vertexC_length hs.1 hs.2 1 nilS
  have hv1 := vertexC_one hs.1 1 nilS rfl
  have hfit := fun (W : World) (h : DagAt W S.d S.D) => fit_took hs h Hk.out.1 Hk.out.2.1 Hk.out.2.2
  have hadd := fun (W : World) (D : DagS) (h : DagAt W S.d D) (e1 : D = S.D) => add_took hs h (by rw [e1]; exact Hk.out.1) (by rw [e1]; exact Hk.out.2.1) (by rw [e1]; exact Hk.out.2.2)
  unfold VX at hfit hadd
  generalize vertexC hs.1 1 nilS = VN at hvl hv1 hfit hadd ⊢
  have Hvln := Lib.hid hvl
  have Hv1 := Lib.hid hv1
  have Hfit := Lib.hid hfit
  have Hadd := Lib.hid hadd
  clear hfit hadd
  have HE4 := Lib.hid (HE3.out.ext0 hx4)
  have HT4 := Lib.hid (HT3.out.ext0 hx4)
  have HP4 := Lib.hid (HP3.out.ext0 hx4)
  have H64 := Lib.hid (H63.out.ext0 hx4)
  have HS4 := Lib.hid (HS3.out.ext0 hx4)
  have Hb4 := Lib.hid (Hb3.out.ext0 hx4)
  have Hx4 := Lib.hid (Hx3.out.extN hx4)
  clear hx4 hvl hv1
  go_wp2_with (refine wpList_store_all (o := ⟨none, _, _, _, _, _⟩) rfl (.tmp 7) (.tmp 31) rfl rfl (vs := VN) rfl aVertex (row_alloc w4 _ _) rfl Hvln.out Hv1.out ?_; refine rd_start (Φ := fun W => wpList _ _ _ _ _ W) rfl ?_ rfl; intro W5 h7 hx5; have H7 := Lib.hid h7; have HX5 := Lib.hid hx5; clear h7 hx5)
  have hT5 := HT4.out.ext0 HX5.out
  have hE5 := HE4.out.ext0 HX5.out
  have hP5 := HP4.out.ext0 HX5.out
  have hS5 := HS4.out.ext0 HX5.out
  have h65 := H64.out.ext0 HX5.out
  have hb5 := Hb4.out.ext0 HX5.out
  have hx5 := Hx4.out.extN HX5.out
  refine X.wp_region_plan 11 [(0, true), (1, true), (2, true), (3, true), (4, true), (5, false), (6, true), (7, true), (8, true), (9, true), (10, true)] [] (by kernel_rfl) (by kernel_rfl) (fun wd hxwd hh => ?_)
  clear hh
  have HT6 := Lib.hid (hT5.ext0 hxwd)
  have HE6 := Lib.hid (hE5.ext0 hxwd)
  have HP6 := Lib.hid (hP5.ext0 hxwd)
  have HS6 := Lib.hid (hS5.ext0 hxwd)
  have H66 := Lib.hid (h65.ext0 hxwd)
  have H76 := Lib.hid (H7.out.ext0 hxwd)
  have Hb6 := Lib.hid (hb5.ext0 hxwd)
  have Hx6 := Lib.hid (hx5.extN hxwd)
  clear hT5 hE5 hP5 hS5 h65 hb5 hx5 hxwd
  refine X.wpE_still (o := ⟨_, _, _, _, _, _⟩) rfl rfl ?_
  refine ⟨.pointer (some ⟨s, 0, none⟩), fun w' hE => X.exec_load1 rfl rfl nShelf ((HP6.out.ext0 hE).cell (i := 0) rfl), ?_⟩
  simp only [Act.put, List.setIfInBounds_toArray, List.set_cons_succ, List.set_cons_zero]
  iterate 2
    refine X.wpE_still (o := ⟨_, _, _, _, _, _⟩) rfl rfl ?_
    apply Exists.intro
    refine ⟨fun w' hE => ?_, ?_⟩
    · skip
      go_simp
      rfl
    simp only [Act.put, List.setIfInBounds_toArray, List.set_cons_succ, List.set_cons_zero]
  refine X.wpE_still (o := ⟨_, _, _, _, _, _⟩) rfl rfl ?_
  refine ⟨.pointer (some ⟨S.d, 0, none⟩), fun w' hE => X.exec_load1 rfl rfl nDag ((HS6.out.row.ext0 hE).cell (i := 1) rfl), ?_⟩
  simp only [Act.put, List.setIfInBounds_toArray, List.set_cons_succ, List.set_cons_zero]
  refine X.wpE_still (o := ⟨_, _, _, _, _, _⟩) rfl rfl ?_
  refine ⟨.agg VN.toArray, fun w' hE => X.exec_load_all rfl rfl aVertex (H76.out.ext0 hE) Hvln.out, ?_⟩
  simp only [Act.put, List.setIfInBounds_toArray, List.set_cons_succ, List.set_cons_zero]
  refine X.wpE_call (o := ⟨_, _, _, _, _, _⟩) rfl rfl ?_
  apply Exists.intro
  apply Exists.intro
  refine ⟨?_, ?_⟩
  · go_simp
    exact ⟨rfl, rfl⟩
  refine (Hfit.out wd HS6.out.dag).mono ?_
  rintro e w7 ⟨rfl, hx7⟩
  refine ⟨_, rfl, hx7, ?_⟩
  simp only [Act.put, List.setIfInBounds_toArray, List.set_cons_succ, List.set_cons_zero]
  iterate 5
    refine X.wpE_still (o := ⟨_, _, _, _, _, _⟩) rfl rfl ?_
    apply Exists.intro
    refine ⟨fun w' hE => ?_, ?_⟩
    · skip
      go_simp
      rfl
    simp only [Act.put, List.setIfInBounds_toArray, List.set_cons_succ, List.set_cons_zero]
  refine X.wpE_nil ?_
  refine X.wpT_nil ?_
  have HT7 := Lib.hid (HT6.out.ext0 hx7)
  have HE7 := Lib.hid (HE6.out.ext0 hx7)
  have HP7 := Lib.hid (HP6.out.ext0 hx7)
  have HS7 := Lib.hid (HS6.out.ext0 hx7)
  have H67 := Lib.hid (H66.out.ext0 hx7)
  have H77 := Lib.hid (H76.out.ext0 hx7)
  have Hb7 := Lib.hid (Hb6.out.ext0 hx7)
  have Hx7 := Lib.hid (Hx6.out.extN hx7)
  clear hx7
  have p7 := HP7.out.cell (i := 0) rfl
  go_wp2_with fail
  refine (keep_none _ HS7.out).mono ?_
  rintro e wb ⟨rfl, rfl⟩
  go_wp2_with fail
  have hSlt := HS7.out.lt
  have hbig : ∀ b, S.all s b → b < w.heap.size := Hold.out
  have h6lt := H67.out.lt
  refine X.wp_region_planG (fun b => b = S.entry) 18 [(0, true), (1, true), (2, true), (3, true), (4, true), (5, true), (6, true), (7, true), (8, true), (9, true), (10, true), (11, true), (12, true), (13, true), (14, false), (15, false), (16, true), (17, false)] [(18, false), (19, true), (20, false)] (by kernel_rfl) (by kernel_rfl) (fun wd hxwd hh => ?_)
  clear hh p7
  have HTd := Lib.hid (HT7.out.ext0 hxwd)
  have HEd := Lib.hid (HE7.out.ext0 hxwd)
  have HPd := Lib.hid (HP7.out.ext0 hxwd)
  have HSd := Lib.hid (HS7.out.ext0 hxwd)
  have H6d := Lib.hid (H67.out.ext0 hxwd)
  have H7d := Lib.hid (H77.out.ext0 hxwd)
  have Hbd := Lib.hid (Hb7.out.ext0 hxwd)
  have Hxd := Lib.hid (Hx7.out.extN hxwd)
  have hel := hbig S.entry (by unfold ShelfS.all; simp)
  have hbl := hbig S.block (by unfold ShelfS.all; simp)
  have hGP : ¬ w.heap.size = S.entry := by omega
  have hGs : ¬ s = S.entry := fun e => HS7.out.ne.2.1 e.symm
  have hG6 : ¬ w1.heap.size = S.entry := by omega
  clear hxwd
  refine X.wpE_still (o := ⟨_, _, _, _, _, _⟩) rfl rfl ?_
  refine ⟨.pointer (some ⟨s, 0, none⟩), fun w' hE => X.exec_load1 rfl rfl nShelf ((HPd.out.ext hE hGP).cell (i := 0) rfl), ?_⟩
  simp only [Act.put, List.setIfInBounds_toArray, List.set_cons_succ, List.set_cons_zero]
  iterate 2
    refine X.wpE_still (o := ⟨_, _, _, _, _, _⟩) rfl rfl ?_
    apply Exists.intro
    refine ⟨fun w' hE => ?_, ?_⟩
    · skip
      go_simp
      rfl
    simp only [Act.put, List.setIfInBounds_toArray, List.set_cons_succ, List.set_cons_zero]
  refine X.wpE_still (o := ⟨_, _, _, _, _, _⟩) rfl rfl ?_
  refine ⟨.map (some S.entry), fun w' hE => X.exec_load1 rfl rfl nMapE ((HSd.out.row.ext hE hGs).cell (i := 2) rfl), ?_⟩
  simp only [Act.put, List.setIfInBounds_toArray, List.set_cons_succ, List.set_cons_zero]
  iterate 1
    refine X.wpE_still (o := ⟨_, _, _, _, _, _⟩) rfl rfl ?_
    apply Exists.intro
    refine ⟨fun w' hE => ?_, ?_⟩
    · skip
      go_simp
      rfl
    simp only [Act.put, List.setIfInBounds_toArray, List.set_cons_succ, List.set_cons_zero]
  refine X.wpE_still (o := ⟨_, _, _, _, _, _⟩) rfl rfl ?_
  refine ⟨.agg (bv hs.1).toArray, fun w' hE => by rw [← Henid.out]; exact X.exec_load (off := 0) rfl rfl aHash (H6d.out.ext hE hG6) (by rw [Henl.out]; decide), ?_⟩
  simp only [Act.put, List.setIfInBounds_toArray, List.set_cons_succ, List.set_cons_zero]
  refine X.wpE_still (o := ⟨_, _, _, _, _, _⟩) rfl rfl ?_
  refine ⟨.pointer (some ⟨s, 0, none⟩), fun w' hE => X.exec_load1 rfl rfl nShelf ((HPd.out.ext hE hGP).cell (i := 0) rfl), ?_⟩
  simp only [Act.put, List.setIfInBounds_toArray, List.set_cons_succ, List.set_cons_zero]
  iterate 2
    refine X.wpE_still (o := ⟨_, _, _, _, _, _⟩) rfl rfl ?_
    apply Exists.intro
    refine ⟨fun w' hE => ?_, ?_⟩
    · skip
      go_simp
      rfl
    simp only [Act.put, List.setIfInBounds_toArray, List.set_cons_succ, List.set_cons_zero]
  refine X.wpE_still (o := ⟨_, _, _, _, _, _⟩) rfl rfl ?_
  refine ⟨.map (some S.block), fun w' hE => X.exec_load1 rfl rfl nMapB ((HSd.out.row.ext hE hGs).cell (i := 3) rfl), ?_⟩
  simp only [Act.put, List.setIfInBounds_toArray, List.set_cons_succ, List.set_cons_zero]
  iterate 1
    refine X.wpE_still (o := ⟨_, _, _, _, _, _⟩) rfl rfl ?_
    apply Exists.intro
    refine ⟨fun w' hE => ?_, ?_⟩
    · skip
      go_simp
      rfl
    simp only [Act.put, List.setIfInBounds_toArray, List.set_cons_succ, List.set_cons_zero]
  refine X.wpE_still (o := ⟨_, _, _, _, _, _⟩) rfl rfl ?_
  refine ⟨.agg (bv hs.1).toArray, fun w' hE => by rw [← Henid.out]; exact X.exec_load (off := 0) rfl rfl aHash (H6d.out.ext hE hG6) (by rw [Henl.out]; decide), ?_⟩
  simp only [Act.put, List.setIfInBounds_toArray, List.set_cons_succ, List.set_cons_zero]
  refine X.wpE_still (o := ⟨_, _, _, _, _, _⟩) rfl rfl ?_
  refine ⟨.agg EN.toArray, fun w' hE => X.exec_load_all rfl rfl aEntry (H6d.out.ext hE hG6) Henl.out, ?_⟩
  simp only [Act.put, List.setIfInBounds_toArray, List.set_cons_succ, List.set_cons_zero]
  iterate 1
    refine X.wpE_still (o := ⟨_, _, _, _, _, _⟩) rfl rfl ?_
    apply Exists.intro
    refine ⟨fun w' hE => ?_, ?_⟩
    · skip
      go_simp
      rfl
    simp only [Act.put, List.setIfInBounds_toArray, List.set_cons_succ, List.set_cons_zero]
  refine X.wpE_call (o := ⟨_, _, _, _, _, _⟩) rfl rfl ?_
  apply Exists.intro
  apply Exists.intro
  refine ⟨?_, ?_⟩
  · go_simp
    exact ⟨rfl, rfl⟩
  refine (clone_bytes Hbd.out.src (fun z e => by rw [e] at hcl2; exact hcl2 z rfl) (by omega)).mono ?_
  rintro e w8 ⟨v', rfl, hown, hx8, hnew⟩
  refine ⟨_, rfl, hx8.nilMono, ?_⟩
  simp only [Act.put, List.setIfInBounds_toArray, List.set_cons_succ, List.set_cons_zero]
  refine Go.X.wpE_mapEntry (kd := hv) (o := ⟨_, _, _, _, _, _⟩) rfl rfl rfl rfl hs rfl kHash Tryz.underlying68 zEntry (HSd.out.LEm.ext hx8 id) rfl ?_
  intro w9 LE1 u9 n9 hst9 hmem9 hx9
  simp only [Act.put, List.setIfInBounds_toArray, List.set_cons_succ, List.set_cons_zero]
  iterate 1
    refine X.wpE_still (o := ⟨_, _, _, _, _, _⟩) rfl rfl ?_
    apply Exists.intro
    refine ⟨fun w' hE => ?_, ?_⟩
    · skip
      go_simp
      rfl
    simp only [Act.put, List.setIfInBounds_toArray, List.set_cons_succ, List.set_cons_zero]
  refine Go.X.wpE_entryStore (kd := hv) (o := ⟨_, _, _, _, _, _⟩) rfl rfl rfl rfl rfl (.agg EN.toArray) rfl hst9.has hmem9 rfl ?_
  intro w10 LE2 hst10 hx10
  simp only [Act.put]
  refine X.wpE_nil ?_
  have hne := HSd.out.ne.1
  refine Go.X.wpT_mapEntry (kd := hv) (o := ⟨_, _, _, _, _, _⟩) rfl rfl rfl rfl hs rfl kHash Tryz.underlying69 zBytes (((HSd.out.LBm.ext hx8 id).ext hx9 (fun e => hne e.symm)).ext hx10 (fun e => hne e.symm)) ?_
  intro w11 LB1 u11 n11 hst11 hmem11
  simp only [Act.put, List.setIfInBounds_toArray, List.set_cons_succ, List.set_cons_zero]
  refine X.wpT_pure (o := ⟨_, _, _, _, _, _⟩) rfl rfl ?_
  apply Exists.intro
  refine ⟨fun w' => ?_, ?_⟩
  · go_simp
    rfl
  simp only [Act.put, List.setIfInBounds_toArray, List.set_cons_succ, List.set_cons_zero]
  refine Go.X.wpT_entryStore (kd := hv) (o := ⟨_, _, _, _, _, _⟩) rfl rfl rfl rfl rfl v' rfl hst11.has hmem11 ?_
  intro w12 LB2 hst12
  simp only [Act.put]
  refine X.wpT_nil ?_
  have hxa : Ext (fun b => b = S.entry ∨ b = S.block) w8 w12 := (((hx9.mono fun _ _ h => Or.inl h).trans' (hx10.mono fun _ _ h => Or.inl h)).trans' (hst11.ext.mono fun _ _ h => Or.inr h)).trans' (hst12.ext.mono fun _ _ h => Or.inr h)
  have hvb : ∀ b, v'.ownBlock = some b → w.heap.size ≤ b := fun b hb => by have := hnew b hb; have := Hxd.out.size; omega
  have hown12 := hown.ext hxa fun b hb e => by have := hvb b hb; omega
  have hLE12 := (hst10.has.ext hst11.ext hne).ext hst12.ext hne
  have hnn := HSd.out.ne
  have hn3 := HSd.out.ne3
  have hn4 := HSd.out.ne4
  have hP12 := (HPd.out.ext0 hx8).ext hxa (by omega)
  have hT12 := (HTd.out.ext0 hx8).ext hxa (by omega)
  have hE12 := (HEd.out.ext0 hx8).ext hxa (by omega)
  have h612 := (H6d.out.ext0 hx8).ext hxa (by omega)
  have h7lt := H77.out.lt
  have hsz4 := Hx4.out.size
  have h712 := (H7d.out.ext0 hx8).ext hxa (by omega)
  have hS12 : ShelfAt w12 s ⟨S.d, S.D, S.entry, S.block, LE2, LB2⟩ :=
    ⟨(HSd.out.row.ext0 hx8).ext hxa (by omega), (HSd.out.dag.ext0 hx8).ext hxa (by omega) (by omega) (by omega) (by omega), hLE12, hst12.has, HSd.out.ne, HSd.out.ne2, HSd.out.ne3, HSd.out.ne4⟩
  have hx12 : Ext S.own w w12 := (Hxd.out.extN hx8).nilMono.trans' (hxa.mono fun b _ h => by rcases h with rfl | rfl <;> simp [ShelfS.own])
  have hLEg : ∀ j, X.get LE2 j = if j = hs then some (.agg EN.toArray) else X.get S.LE j := fun j => by
    rw [hst10.get, hst9.get]; split <;> rfl
  have hLBg : ∀ j, X.get LB2 j = if j = hs then some v' else X.get S.LB j := fun j => by
    rw [hst12.get, hst11.get]; split <;> rfl
  have HP12 := Lib.hid hP12
  have HT12 := Lib.hid hT12
  have HE12 := Lib.hid hE12
  have H612 := Lib.hid h612
  have H712 := Lib.hid h712
  have HS12 := Lib.hid hS12
  have Hx12 := Lib.hid hx12
  have HLE := Lib.hid hLEg
  have HLB := Lib.hid hLBg
  have Hown := Lib.hid hown12
  have Hvb := Lib.hid hvb
  have Hnv : Hid (∀ b, v'.ownBlock = some b → w.heap.size + 2 < b) := fun b hb => by have h1 := hnew b hb; have h2 := HEd.out.lt; omega
  clear hxa hvb hown12 hLE12 hP12 hT12 hE12 h612 h712 hS12 hx12 hLEg hLBg hst9 hst10 hst11 hst12 hmem9 hmem11 hx9 hx10 hx8 hown hnew hGP hGs hG6
  go_wp2_with fail
  refine X.wp_region_planG (fun b => b = S.D.held ∨ b = S.D.heads) 13 [(0, true), (1, true), (2, true), (3, true), (4, true), (5, false), (6, true), (7, true), (8, true), (9, true), (10, true), (11, true), (12, true)] [] (by kernel_rfl) (by kernel_rfl) (fun we hxwe hh => ?_)
  clear hh
  have HTe := Lib.hid (HT12.out.ext0 hxwe)
  have HEe := Lib.hid (HE12.out.ext0 hxwe)
  have HPe := Lib.hid (HP12.out.ext0 hxwe)
  have HSe := Lib.hid (HS12.out.ext0 hxwe)
  have H6e := Lib.hid (H612.out.ext0 hxwe)
  have H7e := Lib.hid (H712.out.ext0 hxwe)
  have Howe := Lib.hid (Hown.out.ext hxwe fun _ _ h => h)
  have Hxe := Lib.hid (Hx12.out.trans' hxwe.nilMono)
  have hhl := hbig S.D.held (by unfold ShelfS.all; simp)
  have hml := hbig S.D.heads (by unfold ShelfS.all; simp)
  have hdne := HS7.out.dag.ne
  have hs2 := HS7.out.ne2
  have hgP : ¬ (w.heap.size = S.D.held ∨ w.heap.size = S.D.heads) := by omega
  have hgs : ¬ (s = S.D.held ∨ s = S.D.heads) := by omega
  have hg7 : ¬ (w4.heap.size = S.D.held ∨ w4.heap.size = S.D.heads) := by omega
  clear hxwe
  refine X.wpE_still (o := ⟨_, _, _, _, _, _⟩) rfl rfl ?_
  refine ⟨.pointer (some ⟨s, 0, none⟩), fun w' hE => X.exec_load1 rfl rfl nShelf ((HPe.out.ext hE hgP).cell (i := 0) rfl), ?_⟩
  simp only [Act.put, List.setIfInBounds_toArray, List.set_cons_succ, List.set_cons_zero]
  iterate 2
    refine X.wpE_still (o := ⟨_, _, _, _, _, _⟩) rfl rfl ?_
    apply Exists.intro
    refine ⟨fun w' hE => ?_, ?_⟩
    · skip
      go_simp
      rfl
    simp only [Act.put, List.setIfInBounds_toArray, List.set_cons_succ, List.set_cons_zero]
  refine X.wpE_still (o := ⟨_, _, _, _, _, _⟩) rfl rfl ?_
  refine ⟨.pointer (some ⟨S.d, 0, none⟩), fun w' hE => X.exec_load1 rfl rfl nDag ((HSe.out.row.ext hE hgs).cell (i := 1) rfl), ?_⟩
  simp only [Act.put, List.setIfInBounds_toArray, List.set_cons_succ, List.set_cons_zero]
  refine X.wpE_still (o := ⟨_, _, _, _, _, _⟩) rfl rfl ?_
  refine ⟨.agg VN.toArray, fun w' hE => X.exec_load_all rfl rfl aVertex (H7e.out.ext hE hg7) Hvln.out, ?_⟩
  simp only [Act.put, List.setIfInBounds_toArray, List.set_cons_succ, List.set_cons_zero]
  refine X.wpE_call (o := ⟨_, _, _, _, _, _⟩) rfl rfl ?_
  apply Exists.intro
  apply Exists.intro
  refine ⟨?_, ?_⟩
  · go_simp
    exact ⟨rfl, rfl⟩
  refine (Hadd.out we S.D HSe.out.dag rfl).mono ?_
  rintro e w13 ⟨rfl, D', hD', hHd, hx13⟩
  refine ⟨_, rfl, hx13, ?_⟩
  simp only [Act.put, List.setIfInBounds_toArray, List.set_cons_succ, List.set_cons_zero]
  iterate 7
    refine X.wpE_still (o := ⟨_, _, _, _, _, _⟩) rfl rfl ?_
    apply Exists.intro
    refine ⟨fun w' hE => ?_, ?_⟩
    · skip
      go_simp
      rfl
    simp only [Act.put, List.setIfInBounds_toArray, List.set_cons_succ, List.set_cons_zero]
  refine X.wpE_nil ?_
  refine X.wpT_nil ?_
  have hS13 : ShelfAt w13 s ⟨S.d, D', S.entry, S.block, LE2, LB2⟩ := by
    have f0 := HSe.out.row.ext hx13 hgs
    have f1 := HSe.out.LEm.ext hx13 (by show ¬ (S.entry = S.D.held ∨ S.entry = S.D.heads); omega)
    have f2 := HSe.out.LBm.ext hx13 (by show ¬ (S.block = S.D.held ∨ S.block = S.D.heads); omega)
    have g1 := hHd.held
    have g2 := hHd.heads
    have g3 := hHd.waits
    exact ⟨f0, hD', f1, f2, hnn, by simp only [g1, g2, g3]; exact HS7.out.ne2, by simp only [g1, g2, g3]; exact hn3, by simp only [g1, g2, g3]; exact hn4⟩
  have hT13 := HTe.out.ext hx13 (by omega)
  have hE13 := HEe.out.ext hx13 (by omega)
  have hP13 := HPe.out.ext hx13 hgP
  have h613 := H6e.out.ext hx13 (by omega)
  have hown13 := Howe.out.ext hx13 fun b hb e => by have := Hvb.out b hb; omega
  have hx13a : Ext S.own w w13 := Hxe.out.trans' (hx13.mono fun b _ h => by rcases h with rfl | rfl <;> simp [ShelfS.own])
  have hold : D'.old = nilS := by rw [hHd.old]; exact Ho.out
  have HS13 := Lib.hid hS13
  have HT13 := Lib.hid hT13
  have HE13 := Lib.hid hE13
  have HP13 := Lib.hid hP13
  have H613 := Lib.hid h613
  have Hown13 := Lib.hid hown13
  have Hx13 := Lib.hid hx13a
  have Hold' := Lib.hid hold
  have HHd := Lib.hid hHd
  have p13 := hP13.cell (i := 0) rfl
  clear hS13 hT13 hE13 hP13 h613 hown13 hx13a hold hHd hx13 hD' hgP hgs hg7 hdne hs2 hnn hn3 hn4 hhl hml
  go_wp2_with (first
    | (refine wpList_load_part (o := ⟨some 99, _, _, _, _, _⟩) rfl (.tmp 98) rfl rfl aHash H613.out (by rw [Henl.out]; decide) Henid.out ?_)
    | (refine wpList_run (o := ⟨some 100, _, _, _, _, _⟩) rfl (exec_buildSlice1 (u := hv hs) rfl rfl (hash_slice hs w13)) ?_)
    | (refine wpList_store_all (o := ⟨none, _, _, _, _, _⟩) rfl (.tmp 4) (.tmp 101) rfl rfl (vs := [.int .i64 2, .slice (some ⟨w13.heap.size, 0, none⟩) 1 1, nilS]) rfl aTaken (HT13.out.ext0 ((Ext.refl Nil w13).alloc _)) rfl rfl (by intro u hu; simp at hu; rcases hu with rfl | rfl | rfl <;> rfl) ?_; refine Go.X.store_world (Φ := fun W => wpList _ _ _ _ _ W) (HT13.out.ext0 ((Ext.refl Nil w13).alloc _)) ?_; intro W14 hT14 hxW14; have HT14 := Lib.hid hT14; have HX14 := Lib.hid hxW14; have p14 := ((HP13.out.ext0 ((Ext.refl Nil w13).alloc (.cells (bv hs.1).toArray 27))).ext hxW14 (Nat.ne_of_lt (Nat.lt_succ_self _))).cell (i := 0) rfl; clear hT14 hxW14))
  have hTl := HT13.out.lt
  have hEl13 := HE13.out.lt
  have x14 := (Ext.refl Nil w13).alloc (.cells (bv hs.1).toArray 27)
  have hI14 := (row_alloc w13 (bv hs.1).toArray 27).ext HX14.out (by omega)
  have hall : ∀ b, ShelfS.all ⟨S.d, D', S.entry, S.block, LE2, LB2⟩ s b → b < w.heap.size := fun b hb => hbig b (by
    unfold ShelfS.all at hb ⊢
    simp only [HHd.out.held, HHd.out.heads, HHd.out.waits] at hb
    exact hb)
  have hS14 := (HS13.out.ext0 x14).far HX14.out fun b hb (e : b = w.heap.size + 1) => by have := hall b hb; omega
  have hE14 := (HE13.out.ext0 x14).ext HX14.out (by omega)
  have hown14 := (Hown13.out.ext x14 fun _ _ h => h).ext HX14.out fun b hb (e : b = w.heap.size + 1) => by have := Hnv.out b hb; omega
  have hx14 := (Hx13.out.trans' x14.nilMono).trans HX14.out fun k hk (e : k = w.heap.size + 1) => absurd hk (by omega)
  have HI14 := Lib.hid hI14
  have HS14 := Lib.hid hS14
  have HE14 := Lib.hid hE14
  have Hown14 := Lib.hid hown14
  have Hx14 := Lib.hid hx14
  clear hI14 hall hS14 hE14 hown14 hx14 x14 p13 p14
  refine (follow_none _ HS14.out Hold'.out).mono ?_
  rintro e w15 ⟨rfl, hx15⟩
  have HT15 := Lib.hid (HT14.out.ext0 hx15)
  have HE15 := Lib.hid (HE14.out.ext0 hx15)
  have HI15 := Lib.hid (HI14.out.ext0 hx15)
  have HS15 := Lib.hid (HS14.out.ext0 hx15)
  have Hown15 := Lib.hid (Hown14.out.ext hx15 fun _ _ h => h)
  have Hx15 := Lib.hid (Hx14.out.trans' hx15.nilMono)
  clear hx15
  go_wp2_with (first
    | (refine wpList_load_all (o := ⟨some 104, _, _, _, _, _⟩) rfl (.tmp 4) rfl rfl aTaken HT15.out rfl ?_)
    | (refine wpList_store_all (o := ⟨none, _, _, _, _, _⟩) rfl (.tmp 4) (.tmp 104) rfl rfl (vs := [.int .i64 2, .slice (some ⟨w13.heap.size, 0, none⟩) 1 1, nilS]) rfl aTaken HT15.out rfl rfl (by intro u hu; simp at hu; rcases hu with rfl | rfl | rfl <;> rfl) ?_; refine Go.X.store_world (Φ := fun W => wpList _ _ _ _ _ W) HT15.out ?_; intro W16 hT16 hxW16; have HT16 := Lib.hid hT16; have HX16 := Lib.hid hxW16; have HE16 := Lib.hid (HE15.out.ext hxW16 (by omega)); have e0 := HE16.out.cell (i := 0) rfl; have ef := HE16.out.frozen; clear hT16 hxW16))
  refine leaves_cons (f := 34) (args := #[.pointer (some ⟨w.heap.size, 0, none⟩), .pointer (some ⟨w.heap.size + 1, 0, none⟩), .pointer (some ⟨w.heap.size + 1 + 1, 0, none⟩)]) (by simp) (by simp [go_sem]) ?_
  refine (take_idle _ _ _ _).mono ?_
  rintro e u' w'' ⟨rfl, rfl, rfl⟩
  simp only [settle, Leaves]
  have hx17 := (Ext.refl (fun b => b = w.heap.size + 2) W16).setCell (p := ⟨w.heap.size + 1 + 1, 0, none⟩) (fun _ => rfl) .nilIface
  have hxF : Ext (fun b => b = w.heap.size + 1 ∨ b = w.heap.size + 2) w15 (W16.setCell ⟨w.heap.size + 1 + 1, 0, none⟩ .nilIface) := (HX16.out.mono fun _ _ h => Or.inl h).trans' (hx17.mono fun _ _ h => Or.inr h)
  have hall : ∀ b, ShelfS.all ⟨S.d, D', S.entry, S.block, LE2, LB2⟩ s b → b < w.heap.size := fun b hb => hbig b (by
    unfold ShelfS.all at hb ⊢
    simp only [HHd.out.held, HHd.out.heads, HHd.out.waits] at hb
    exact hb)
  refine ⟨_, results_row_row (b := w.heap.size + 1) (C := [.int .i64 2, .slice (some ⟨w13.heap.size, 0, none⟩) 1 1, nilS]) (b' := w.heap.size + 2) rfl rfl rfl aTaken (HT16.out.ext hx17 (by omega)) rfl (nErr _) ((HE16.out.set 0 .nilIface).cell (i := 0) rfl), w13.heap.size, ⟨S.d, D', S.entry, S.block, LE2, LB2⟩, rfl, by omega, HI15.out.ext hxF (by omega), HS15.out.far hxF (fun b hb e => by have := hall b hb; omega), ?_, Hx15.out.trans hxF fun k hk e => absurd hk (by omega)⟩
  refine ⟨rfl, HHd.out, rfl, rfl, by rw [HEN.out]; exact HLE.out, v', Hown15.out.ext hxF (fun b hb e => by have := Hnv.out b hb; omega), Hvb.out, HLB.out⟩
end Go.Proofs.YtggiknehmoaimaaGreatDoor
