/-
  The graph of the program, where a vertex has no parents: hold, Add, Next.
-/
import Derived.Test.YtggiknehmoaimaaGreatDoorDagC
namespace Go.X
open Go.RowKit
section
variable {P : Program} {w : World} {o : Oper} {ρ : Operand → Value} {κ : Type} [DecidableEq κ] {kt mt et : TypeId} {kd : κ → Value} {b : Nat} {L : List (Ent κ)}
theorem exec_mapUpdate {x y z : Operand} (ho : o.op = .mapUpdate mt x y z) (hx : ρ x = .map (some b)) (k : κ) (hy : ρ y = kd k) (v : Value) (hz : ρ z = v) (K : KeyT P kt kd) (hm : P.underlying mt = some (.map kt et)) (H : HasMap w b kd L) :
    ∃ w' L', (execOp ρ o).run P w = .ok .skip w' ∧ Stored w w' b kd L L' k v := by
  obtain ⟨w', L', hr, hs⟩ := run_mapUpdate K hm H k v
  refine ⟨w', L', ?_, hs⟩
  unfold execOp
  simp only [ho, Sem.run_bind, hx, hy, hz, hr, Result.andThen_ok, Sem.run_pure]
variable {ops : Array Oper} {Q : Exit → Act → World → Prop} {rest : List (Nat × Bool)} {a : Act} {i : Nat}
theorem wpT_mapUpdate (ho : ops[i]? = some o) (hw : Region.wanted o (yielded ops a.tmps) = true) {x y z : Operand} (hop : o.op = .mapUpdate mt x y z) (hx : a.eval x = .map (some b)) (k : κ) (hy : a.eval y = kd k) (v : Value) (hz : a.eval z = v) (K : KeyT P kt kd) (hm : P.underlying mt = some (.map kt et)) (H : HasMap w b kd L)
    (h : ∀ w' L', Stored w w' b kd L L' k v → wpT P ops Q rest (a.put o.dst undef) w') : wpT P ops Q ((i, false) :: rest) a w := by
  obtain ⟨w', L', hr, hs⟩ := exec_mapUpdate hop hx k hy v hz K hm H
  exact wpT_act ho hw ⟨w', hr, h w' L' hs⟩
theorem Stored.len {w' : World} {L' : List (Ent κ)} {k : κ} {v : Value} (h : Stored w w' b kd L L' k v) : L'.length = if (X.get L k).isSome then L.length else L.length + 1 := by
  have := congrArg List.length h.keys
  split at this <;> simp_all
end
end Go.X
namespace Go.Proofs.YtggiknehmoaimaaGreatDoor
open Go Go.RowKit Go.X
section
variable {d : Nat} {D : DagS} {w : World}
/-- What holding one leaves. -/
structure Held (D D' : DagS) (k : Hash) : Prop where
  room : D'.room = D.room
  held : D'.held = D.held
  heads : D'.heads = D.heads
  waits : D'.waits = D.waits
  LW : D'.LW = D.LW
  old : D'.old = D.old
  get : ∀ j, X.get D'.LH j = if j = k then some (VX k 1) else X.get D.LH j
  len : D'.LH.length = if (X.get D.LH k).isSome then D.LH.length else D.LH.length + 1
theorem good_vx (L : List (Ent Hash)) (hg : Good L) {L' : List (Ent Hash)} {k : Hash} (h : ∀ j, X.get L' j = if j = k then some (VX k 1) else X.get L j) : Good L' := ⟨fun j => by
  rw [h j]
  by_cases e : j = k
  · rw [if_pos e]; exact ⟨_, rfl, vertexC_length _ k.2 _ _, vertexC_one _ _ _ rfl⟩
  · rw [if_neg e]; exact hg.some j⟩
set_option maxRecDepth 100000 in
set_option maxHeartbeats 4000000 in
theorem hold_none (k : Hash) (h : DagAt w d D) : Calls Tryz.prog 73 #[.pointer (some ⟨d, 0, none⟩), VX k 1] w fun e w' => e = .returned (.tuple #[]) ∧ ∃ D', DagAt w' d D' ∧ Held D D' k ∧ Ext (fun b => b = D.held ∨ b = D.heads) w w' := by
  have hlen := vertexC_length k.1 k.2 1 nilS
  have hid := vxid k 1
  have hgood := fun (L' : List (Ent Hash)) => good_vx D.LH h.heldgood (L' := L') (k := k)
  have hheld : ∀ D', _ → _ → _ → _ → _ → _ → _ → _ → Held D D' k := fun D' a b c d e f g i => ⟨a, b, c, d, e, f, g, i⟩
  unfold VX at hgood hheld ⊢
  obtain ⟨g32, g33⟩ := vx32 k 1
  generalize vertexC k.1 1 nilS = E at hlen hid g32 g33 hgood hheld ⊢
  have Hlen := Lib.hid hlen
  have Hid' := Lib.hid hid
  have G33 := Lib.hid g33
  have Hgood := Lib.hid hgood
  have Hheld := Lib.hid hheld
  have hr := row_alloc w E.toArray 94
  have hal := (Ext.refl Nil w).alloc (.cells E.toArray 94)
  have hdl := h.row.lt
  have hl1 := h.LHm.lt
  have hl2 := h.LMm.lt
  have H := Lib.hid (h.ext0 hal)
  have Hr := Lib.hid hr
  have Hal := Lib.hid hal
  have Hle : Hid (0 + 32 ≤ E.toArray.toList.length) := by show 0 + 32 ≤ E.length; omega
  clear hlen hid g32 g33 hgood hheld hr hal h
  go_enter Tryz.func73, Tryz.ntmps73
  go_wp2_with fail
  refine X.wp_region_plan 7 [(0, true), (1, true), (2, true), (3, true), (4, true), (5, true), (6, true)] [(7, false)] (by kernel_rfl) (by kernel_rfl) (fun wd hxwd hh => ?_)
  clear hh
  have Hd := Lib.hid (H.out.ext0 hxwd)
  have Hrd := Lib.hid (Hr.out.ext0 hxwd)
  have Hxd := Lib.hid (Hal.out.extN hxwd)
  clear hxwd
  iterate 3
    refine X.wpE_still (o := ⟨_, _, _, _, _, _⟩) rfl rfl ?_
    apply Exists.intro
    refine ⟨fun w' hE => ?_, ?_⟩
    · skip
      go_simp
      rfl
    simp only [Act.put, List.setIfInBounds_toArray, List.set_cons_succ, List.set_cons_zero]
  refine X.wpE_still (o := ⟨_, _, _, _, _, _⟩) rfl rfl ?_
  refine ⟨.map (some D.held), fun w' hE => X.exec_load1 rfl rfl nMapV ((Hd.out.row.ext0 hE).cell (i := 1) rfl), ?_⟩
  simp only [Act.put, List.setIfInBounds_toArray, List.set_cons_succ, List.set_cons_zero]
  iterate 1
    refine X.wpE_still (o := ⟨_, _, _, _, _, _⟩) rfl rfl ?_
    apply Exists.intro
    refine ⟨fun w' hE => ?_, ?_⟩
    · skip
      go_simp
      rfl
    simp only [Act.put, List.setIfInBounds_toArray, List.set_cons_succ, List.set_cons_zero]
  refine X.wpE_still (o := ⟨_, _, _, _, _, _⟩) rfl rfl ?_
  refine ⟨.agg (bv k.1).toArray, fun w' hE => by rw [← Hid'.out]; exact X.exec_load (off := 0) rfl rfl aHash (Hrd.out.ext0 hE) Hle.out, ?_⟩
  simp only [Act.put, List.setIfInBounds_toArray, List.set_cons_succ, List.set_cons_zero]
  refine X.wpE_still (o := ⟨_, _, _, _, _, _⟩) rfl rfl ?_
  refine ⟨.agg E.toArray, fun w' hE => X.exec_load_all rfl rfl aVertex (Hrd.out.ext0 hE) Hlen.out, ?_⟩
  simp only [Act.put, List.setIfInBounds_toArray, List.set_cons_succ, List.set_cons_zero]
  refine X.wpE_nil ?_
  refine Go.X.wpT_mapUpdate (kd := hv) (o := ⟨_, _, _, _, _, _⟩) rfl rfl rfl rfl k rfl (.agg E.toArray) rfl kHash Tryz.underlying135 Hd.out.LHm ?_
  intro w2 LH' hst
  simp only [Act.put]
  refine X.wpT_nil ?_
  obtain ⟨hn1, hn2, hn3, hn4, hn5, hn6⟩ := Hd.out.ne
  have hr2 := Hd.out.row.ext hst.ext (fun e => hn4 e.symm)
  have hm2 := Hd.out.LMm.ext hst.ext (fun e => hn1 e.symm)
  have hw2 := Hd.out.LWm.ext hst.ext (fun e => hn2 e.symm)
  have hne : ¬ w.heap.size = D.held := by omega
  have hv2 := Hrd.out.ext hst.ext hne
  have hx2 := Hxd.out.nilMono.trans' hst.ext
  have c33 := hv2.cell (i := 33) G33.out
  have Hst := Lib.hid hst
  have Hr2 := Lib.hid hr2
  have Hm2 := Lib.hid hm2
  have Hw2 := Lib.hid hw2
  have Hv2 := Lib.hid hv2
  have Hx2 := Lib.hid hx2
  clear hst hr2 hm2 hw2 hv2 hx2
  go_wp2_with fail
  refine wp_loop_rounds 1 ?_
  rw [rounds_succ]
  go_wp2_with fail
  refine X.wp_region_plan 6 [(0, true), (1, true), (2, true), (3, true), (4, true), (5, true)] [(6, false)] (by kernel_rfl) (by kernel_rfl) (fun we hxwe hh => ?_)
  clear hh c33
  have Hre := Lib.hid (Hr2.out.ext0 hxwe)
  have Hve := Lib.hid (Hv2.out.ext0 hxwe)
  have Hme := Lib.hid (Hm2.out.ext hxwe id)
  have Hwe := Lib.hid (Hw2.out.ext hxwe id)
  have Hhe := Lib.hid (Hst.out.has.ext hxwe id)
  have Hxe := Lib.hid (Hx2.out.trans' hxwe.nilMono)
  clear hxwe
  iterate 3
    refine X.wpE_still (o := ⟨_, _, _, _, _, _⟩) rfl rfl ?_
    apply Exists.intro
    refine ⟨fun w' hE => ?_, ?_⟩
    · skip
      go_simp
      rfl
    simp only [Act.put, List.setIfInBounds_toArray, List.set_cons_succ, List.set_cons_zero]
  refine X.wpE_still (o := ⟨_, _, _, _, _, _⟩) rfl rfl ?_
  refine ⟨.map (some D.heads), fun w' hE => X.exec_load1 rfl rfl nMapI ((Hre.out.ext0 hE).cell (i := 2) rfl), ?_⟩
  simp only [Act.put, List.setIfInBounds_toArray, List.set_cons_succ, List.set_cons_zero]
  iterate 1
    refine X.wpE_still (o := ⟨_, _, _, _, _, _⟩) rfl rfl ?_
    apply Exists.intro
    refine ⟨fun w' hE => ?_, ?_⟩
    · skip
      go_simp
      rfl
    simp only [Act.put, List.setIfInBounds_toArray, List.set_cons_succ, List.set_cons_zero]
  refine X.wpE_still (o := ⟨_, _, _, _, _, _⟩) rfl rfl ?_
  refine ⟨.agg (bv k.1).toArray, fun w' hE => by rw [← Hid'.out]; exact X.exec_load (off := 0) rfl rfl aHash (Hve.out.ext0 hE) Hle.out, ?_⟩
  simp only [Act.put, List.setIfInBounds_toArray, List.set_cons_succ, List.set_cons_zero]
  refine X.wpE_nil ?_
  refine Go.X.wpT_mapUpdate (kd := hv) (o := ⟨_, _, _, _, _, _⟩) rfl rfl rfl rfl k rfl (.int .i64 1) rfl kHash Tryz.underlying136 Hme.out ?_
  intro w3 LM' hst3
  simp only [Act.put]
  refine X.wpT_nil ?_
  have hfin : DagAt w3 d ⟨D.room, D.held, D.heads, D.waits, LH', LM', D.LW, D.old⟩ :=
    ⟨Hre.out.ext hst3.ext (fun e => hn5 e.symm), Hhe.out.ext hst3.ext hn1, hst3.has, Hwe.out.ext hst3.ext (fun e => hn3 e.symm), Hgood.out LH' Hst.out.get, Hd.out.waitsgood, ⟨hn1, hn2, hn3, hn4, hn5, hn6⟩⟩
  have hhd := Hheld.out ⟨D.room, D.held, D.heads, D.waits, LH', LM', D.LW, D.old⟩ rfl rfl rfl rfl rfl rfl Hst.out.get Hst.out.len
  have hx3 : Ext (fun b => b = D.held ∨ b = D.heads) w w3 := (Hxe.out.mono fun _ _ h => Or.inl h).trans' (hst3.ext.mono fun _ _ h => Or.inr h)
  have Hfin := Lib.hid hfin
  have Hhd := Lib.hid hhd
  have Hx3 := Lib.hid hx3
  clear hfin hhd hx3 hst3
  go_wp2
  exact bodyPost_end (v := .tuple #[]) (results_none rfl _ _ _) rfl ⟨rfl, _, Hfin.out, Hhd.out, Hx3.out⟩
end
end Go.Proofs.YtggiknehmoaimaaGreatDoor
