/-
  The shelf of the program: Take of what is no transaction; Take's deferred function.
-/
import Derived.Test.YtggiknehmoaimaaGreatDoorShelf
import Derived.Tactics2
import Derived.Defers
import Derived.Recover
namespace Go.X
open Go.RowKit
theorem exec_build0 {P : Program} {o : Oper} {ρ : Operand → Value} {t : TypeId} {z : Value} (ho : o.op = .build t #[]) (h : ∀ w, (Instr.build t #[]).run P w = .ok z w) (w : World) : (execOp ρ o).run P w = .ok (.value z) w := by
  unfold execOp
  rw [ho]
  simp [h w]
theorem exec_store1 {P : Program} {w : World} {b : Nat} {e t : TypeId} {C : List Value} {v : Value} {i : Nat} {o : Oper} {ρ : Operand → Value} {x y : Operand} (ho : o.op = .store t x y) (hx : ρ x = .pointer (some ⟨b, i, none⟩)) (hy : ρ y = v) (h1 : v.oneCell' = true) (h : Row w b e C) (hi : i < C.length) (hs : ∀ w, (sizeOf t).run P w = .ok 1 w) :
    (execOp ρ o).run P w = .ok .skip (w.setCell ⟨b, i, none⟩ v) := by
  have hc := h.cell (List.getElem?_eq_getElem hi)
  have hf := h.frozen i
  have hcl : v.cells = #[v] := by cases v <;> first | rfl | simp [Value.oneCell'] at h1
  have hst : (storeVar t ⟨b, i, none⟩ v).run P w = .ok () (w.setCell ⟨b, i, none⟩ v) := by
    unfold storeVar
    simp only [Sem.run_bind, hs, Result.andThen_ok, hcl]
    simp [storeCells, run_store P w _ v _ h1, hc, hf, Addr.add]
  unfold execOp
  simp only [ho, hx, hy, Instr.storeAt, Instr.sureAddr, Sem.run_bind, Sem.run_pure, Result.andThen_ok, hst]
theorem rd_start' {Φ : World → Prop} {w1 : World} {C D : Array Value} {e : TypeId} {b : Nat} (hb : b = w1.heap.size) (h : ∀ W, Ext Nil w1 W → Φ W) : Φ ((w1.alloc (.cells C e)).setRow b D) := by
  subst hb
  exact h _ (((Ext.refl Nil w1).alloc _).setRow (fun h => by omega) _)
theorem three_start {Φ : World → Prop} {w : World} {A B C : Array Value} {e f g : TypeId} (h : ∀ W, Row W w.heap.size e A.toList → Row W (w.heap.size + 1) f B.toList → Row W (w.heap.size + 2) g C.toList → Ext Nil w W → Φ W) :
    Φ (((w.alloc (.cells A e)).alloc (.cells B f)).alloc (.cells C g)) := by
  have x := (Ext.refl Nil ((w.alloc (.cells A e)).alloc (.cells B f))).alloc (.cells C g)
  refine h _ (((row_alloc w A e).ext0 ((Ext.refl Nil _).alloc (.cells B f))).ext0 x) ?_ ?_ ((((Ext.refl Nil w).alloc _).alloc _).extN x)
  · have := (row_alloc (w.alloc (.cells A e)) B f).ext0 x
    simpa using this
  · have := row_alloc ((w.alloc (.cells A e)).alloc (.cells B f)) C g
    simpa using this
end Go.X
namespace Go.Proofs.YtggiknehmoaimaaGreatDoor
open Go Go.RowKit Go.X
theorem sErr (w : World) : (sizeOf 41).run Tryz.prog w = .ok 1 w := by kernel_rfl
set_option maxRecDepth 100000 in
set_option maxHeartbeats 1000000 in
theorem take_idle (a b c : Value) (w : World) :
    CallsD Tryz.prog 34 #[a, b, c] .returning w fun e u' w' => e = .returned (.tuple #[]) ∧ u' = .returning ∧ w' = w := by
  refine callsD_of_wpS Tryz.func34 rfl fun c₀ cs hu => ?_
  apply wpS_seq
  apply wpS_region
  simp [wpOpsS, go_sem, recoverD, hu, Tryz.ntmps34, Exit.thenS]
  apply wpS_seq
  apply wpS_region
  simp [wpOpsS, go_sem, Exit.thenS]
  refine wpS_cond (t := false) (by simp [Act.eval, Array.replicate]) ?_
  simp only [Bool.false_eq_true, if_false]
  refine wpS_of_wp (wp_skip ?_)
  cases c₀
  simp_all [bodyPostS, results, Tryz.results34]
theorem aTaken : AggT Tryz.prog 39 3 := ⟨⟨_, Tryz.underlying39, rfl⟩, by kernel_rfl⟩
def takenV (how : Int) (ids lost : Value) : Value := .agg #[.int .i64 how, ids, lost]
set_option maxRecDepth 100000 in
set_option maxHeartbeats 4000000 in
theorem take_empty {w : World} {s : Nat} {S : ShelfS} {v : Value} (h : ShelfAt w s S) (hb : BArg w v []) :
    Calls Tryz.prog 14 #[.pointer (some ⟨s, 0, none⟩), v] w (Failed w Nil 20 0 fun u => .tuple #[takenV 0 nilS nilS, u]) := by
  have hcl : v.oneCell' = true := by obtain ⟨⟨ad, c, rfl, _⟩, _⟩ := hb; rfl
  go_enter_defers Tryz.func14, Tryz.ntmps14
  go_upto_region 1 with (fail)
  refine Go.X.three_start (Φ := fun W => Code.wp _ _ _ _ W) ?_
  intro W hP hT hE hx
  have hbn := bad_neq
  have p0 := hP.cell (i := 0) rfl
  have s4 := (h.ext0 hx).row.cell (i := 4) rfl
  have HT := Lib.hid hT
  have HE := Lib.hid hE
  have Hx := Lib.hid hx
  have Hc := Lib.hid (entry_empty (hb.ext0 hx))
  clear h hb hP hT hE hx
  go_wp2_with fail
  refine Hc.out.mono ?_
  rintro e w1 ⟨a, rfl, h1, h2, hx1⟩
  have hsz := Hx.out.size
  have hT1 := HT.out.ext0 hx1
  have hE1 := HE.out.ext0 hx1
  have hEl := hE1.lt
  have HT1 := Lib.hid hT1
  have HE1 := Lib.hid hE1
  have Hx1 := Lib.hid (Hx.out.extN hx1)
  have Hb1 := Lib.hid h2
  have ha : w.heap.size ≤ a ∧ w.heap.size + 2 < a := by have := HE.out.lt; omega
  clear h1 h2 hx1 hT1 hE1 p0 s4
  unfold badV
  go_wp2_with (refine wpList_store_all (o := ⟨none, _, _, _, _, _⟩) rfl (.tmp 6) (.tmp 23) rfl rfl (vs := entryC (List.replicate 32 0) 0 0 nilS nilS) rfl aEntry (row_alloc w1 _ _) rfl rfl (entryC_one _ _ _ _ _ rfl rfl) ?_; refine Go.X.rd_start' (Φ := fun W => wpList _ _ _ _ _ W) rfl ?_; intro W2 hxW2; have HT2 := Lib.hid (HT1.out.ext0 hxW2); have HE2 := Lib.hid (HE1.out.ext0 hxW2); have Hx2 := Lib.hid (Hx1.out.extN hxW2); have Hb2 := Lib.hid (Go.X.Row.ext0 Hb1.out hxW2); have e0 := HE2.out.cell (i := 0) rfl; have ef := HE2.out.frozen; clear hxW2)
  have hE3 := HE2.out.set 0 (badV a)
  have hxs := (Ext.refl (fun b => b = w.heap.size + 2) W2).setCell (p := ⟨w.heap.size + 2, 0, none⟩) (fun _ => rfl) (badV a)
  have hT3 := HT2.out.ext hxs (by omega)
  have hb3 := Go.X.Row.ext Hb2.out hxs (by omega)
  have hx3 := Hx2.out.trans hxs fun k hk (e : k = w.heap.size + 2) => absurd hk (by omega)
  have HE3 := Lib.hid hE3
  have HT3 := Lib.hid hT3
  have Hb3 := Lib.hid hb3
  have Hx3 := Lib.hid hx3
  clear hE3 hxs hT3 hb3 hx3 e0 ef
  unfold badV at HE3 HT3 Hb3 Hx3
  have e112 : w.heap.size + 1 + 1 = w.heap.size + 2 := rfl
  rw [e112]
  generalize W2.setCell ⟨w.heap.size + 2, 0, none⟩ (.iface 130 (.pointer (some ⟨a, 0, none⟩))) = W3 at HE3 HT3 Hb3 Hx3 ⊢
  clear e112
  refine X.wp_region_planG (fun b => b = w.heap.size + 1) 3 [(0, true), (1, true), (2, false)] [(3, false)] (by kernel_rfl) (by kernel_rfl) (fun wd hxwd hh => ?_)
  clear hh
  have hEd := HE3.out.ext0 hxwd
  have hTd := HT3.out.ext0 hxwd
  have hbd := Go.X.Row.ext0 Hb3.out hxwd
  have hxd := Hx3.out.extN hxwd
  refine X.wpE_still (o := ⟨_, _, _, _, _, _⟩) rfl rfl ?_
  refine ⟨takenV 0 nilS nilS, fun w' hE => X.exec_build0 rfl (fun w => by kernel_rfl) w', ?_⟩
  simp only [Act.put, List.setIfInBounds_toArray, List.set_cons_succ, List.set_cons_zero]
  refine X.wpE_still (o := ⟨_, _, _, _, _, _⟩) rfl rfl ?_
  refine ⟨.iface 130 (.pointer (some ⟨a, 0, none⟩)), fun w' hE => X.exec_load1 rfl rfl nErr ((hEd.ext hE (by omega)).cell (i := 0) rfl), ?_⟩
  simp only [Act.put, List.setIfInBounds_toArray, List.set_cons_succ, List.set_cons_zero]
  have hT4 := hTd.setRow [.int .i64 0, nilS, nilS]
  have hx4 := (Ext.refl (fun b => b = w.heap.size + 1) wd).setRow (b := w.heap.size + 1) (fun _ => rfl) [.int .i64 0, nilS, nilS].toArray
  refine X.wpE_act (o := ⟨_, _, _, _, _, _⟩) rfl rfl ⟨_, X.exec_store_all rfl rfl (vs := [.int .i64 0, nilS, nilS]) rfl aTaken hTd rfl rfl (by intro u hu; simp at hu; rcases hu with rfl | rfl <;> rfl), hx4, ?_⟩
  simp only [Act.put]
  refine X.wpE_nil ?_
  have hE4 := hEd.ext hx4 (by omega)
  have hb4 := Go.X.Row.ext hbd hx4 (by omega)
  have hxw4 := hxd.trans hx4 fun k hk (e : k = w.heap.size + 1) => absurd hk (by omega)
  refine X.wpT_act (o := ⟨_, _, _, _, _, _⟩) rfl rfl ⟨_, X.exec_store1 (v := .iface 130 (.pointer (some ⟨a, 0, none⟩))) rfl rfl rfl rfl hE4 (by show 0 < _; simp) sErr, ?_⟩
  simp only [Act.put]
  refine X.wpT_nil ?_
  have hE5 := hE4.set 0 (.iface 130 (.pointer (some ⟨a, 0, none⟩)))
  have hxs := (Ext.refl (fun b => b = w.heap.size + 2) (wd.setRow (w.heap.size + 1) [.int .i64 0, nilS, nilS].toArray)).setCell (p := ⟨w.heap.size + 2, 0, none⟩) (fun _ => rfl) (.iface 130 (.pointer (some ⟨a, 0, none⟩)))
  have HE5 := Lib.hid (hE5.cell (i := 0) rfl)
  have HT5 := Lib.hid (hT4.ext hxs (by omega))
  have Hb5 := Lib.hid (Go.X.Row.ext hb4 hxs (by omega))
  have Hx5 := Lib.hid (hxw4.trans hxs fun k hk (e : k = w.heap.size + 2) => absurd hk (by omega))
  generalize (wd.setRow (w.heap.size + 1) [.int .i64 0, nilS, nilS].toArray).setCell ⟨w.heap.size + 2, 0, none⟩ (.iface 130 (.pointer (some ⟨a, 0, none⟩))) = W5 at HE5 HT5 Hb5 Hx5 ⊢
  clear hE5 hxs hE4 hb4 hxw4 hT4 hx4 hEd hTd hbd hxd hxwd
  go_wp2
  exact ⟨_, results_row_row (b := w.heap.size + 1) (C := [.int .i64 0, nilS, nilS]) (b' := w.heap.size + 2) rfl rfl rfl aTaken HT5.out rfl (nErr _) HE5.out, a, rfl, ha.1, Hb5.out, Hx5.out⟩
end Go.Proofs.YtggiknehmoaimaaGreatDoor
