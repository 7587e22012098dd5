/-
  node of the program: Decode: a panic is caught.
-/
import Derived.Test.YtggiknehmoaimaaGreatDoorNode
import Derived.Tactics2
import Derived.Defers
import Derived.Recover
namespace Go.X
open Go.RowKit
/-- Two results that lie in blocks: an aggregate, and one of one cell. -/
theorem results_row_row {P : Program} {w : World} {b b' n : Nat} {t t' e : TypeId} {C : List Value} {fn : Func} {p s : Tmp} {tmps : Array Value} {u : Value} (hr : fn.results = #[.cell p t, .cell s t']) (hp : tmps.getD p undef = .pointer (some ⟨b, 0, none⟩)) (hs : tmps.getD s undef = .pointer (some ⟨b', 0, none⟩)) (A : AggT P t n) (h : Row w b e C) (hc : C.length = n)
    (ht : (isAgg t').run P w = .ok false w) (hu : w.cell? ⟨b', 0, none⟩ = some u) :
    (results fn tmps).run P w = .ok (.tuple #[.agg C.toArray, u]) w := by
  have hp' : tmps[p]?.getD undef = .pointer (some ⟨b, 0, none⟩) := by simpa using hp
  have hs' : tmps[s]?.getD undef = .pointer (some ⟨b', 0, none⟩) := by simpa using hs
  have hl := run_loadVar_at (P := P) (off := 0) A h (by omega)
  rw [List.drop_zero, ← hc, List.take_length] at hl
  have hl2 : (loadVar t' ⟨b', 0, none⟩).run P w = .ok u w := by
    unfold loadVar
    simp [ht, hu]
  simp [results, hr, hp', hs', asAddr, hl, hl2]
end Go.X
namespace Go.Proofs.YtggiknehmoaimaaGreatDoor
open Go Go.RowKit Go.X

theorem nErr (w : World) : (isAgg 41).run Tryz.prog w = .ok false w := by
  unfold isAgg
  rw [Sem.run_bind, run_underlying Tryz.underlying41 w]
  rfl
theorem any_neq (t : TypeId) (v : Value) (w : World) : (binOp .neq 20 (.iface t v) .nilIface).run Tryz.prog w = .ok (.bool true) w := by
  have h : ∀ d : Nat, (Op.equalIn (d + 1) 20 (.iface t v) .nilIface).run Tryz.prog w = .ok false w := fun d => by simp [Op.equalIn, run_underlying Tryz.underlying20]
  simp only [binOp]
  simp [Op.equal, Op.maxDepth, h 9999]

theorem catch_idle (a b c : Value) (w : World) :
    CallsD Tryz.prog 116 #[a, b, c] .returning w fun e u' w' => e = .returned (.tuple #[]) ∧ u' = .returning ∧ w' = w := by
  refine callsD_of_wpS Tryz.func116 rfl fun c₀ cs hu => ?_
  apply wpS_seq
  apply wpS_region
  simp [wpOpsS, go_sem, recoverD, hu, Tryz.ntmps116, Exit.thenS]
  refine wpS_cond (t := false) (by simp [Act.eval, Array.replicate]) ?_
  simp only [Bool.false_eq_true, if_false]
  refine wpS_of_wp (wp_skip ?_)
  cases c₀
  simp_all [bodyPostS, results, Tryz.results116]

set_option maxRecDepth 100000 in
set_option maxHeartbeats 1000000 in
theorem catch_panicking {w : World} {q A E T a : Nat} {rp : Value} {C : List Value} (hT : w.cell? ⟨T, 0, none⟩ = some (.pointer (some ⟨q, 0, none⟩))) (hq : Row w q 216 [rp, badV a]) (hA : Row w A 36 [.int .i64 0, .int .i64 0, nilS, nilS]) (hE : Row w E 41 C) (hC : C.length = 1) (hAE : A ≠ E) (older : List PanicEntry) :
    CallsD Tryz.prog 116 #[.pointer (some ⟨T, 0, none⟩), .pointer (some ⟨A, 0, none⟩), .pointer (some ⟨E, 0, none⟩)] (.panicking ({ v := badV a, recovered := false } :: older)) w fun e u' w' =>
      e = .returned (.tuple #[]) ∧ u' = .panicking ({ v := badV a, recovered := true } :: older) ∧ Row w' A 36 [.int .i64 0, .int .i64 0, nilS, nilS] ∧ Row w' E 41 [badV a] ∧ Ext (fun b => b = A ∨ b = E) w w' := by
  have hn := any_neq
  have q1 := hq.cell (i := 1) rfl
  have a0 := hA.cell (i := 0) rfl
  have a1 := hA.cell (i := 1) rfl
  have a2 := hA.cell (i := 2) rfl
  have a3 := hA.cell (i := 3) rfl
  have af := hA.frozen
  obtain ⟨x, rfl⟩ : ∃ x, C = [x] := List.length_eq_one_iff.1 hC
  have e0 := hE.cell (i := 0) rfl
  have ef := hE.frozen
  have Hq := Lib.hid hA
  have HE := Lib.hid hE
  have Hne := Lib.hid hAE
  have hEA : ¬ E = A := fun e => hAE e.symm
  have hAE' : ¬ A = E := hAE
  clear hA hE hAE hq hC
  unfold badV at q1 ⊢
  refine callsD_of_wpS Tryz.func116 rfl fun c₀ cs hu => ?_
  apply wpS_seq
  apply wpS_region
  simp [wpOpsS, go_sem, recoverD, hu, Tryz.ntmps116, Exit.thenS, hn]
  refine wpS_cond (t := true) (by simp [Act.eval, Array.replicate]) ?_
  simp only [if_true]
  refine wpS_of_wp ?_
  go_wp2
  have h1 := (((Hq.out.set 0 (.int .i64 0)).set 1 (.int .i64 0)).set 2 nilS).set 3 nilS
  have hx : ∀ {p : Addr}, p.block = A → p.block < w.heap.size → (p.block = A ∨ p.block = E) := fun h _ => .inl h
  have h2 := ((((Ext.refl (fun b => b = A ∨ b = E) w).setCell (p := ⟨A, 0, none⟩) (hx rfl) (.int .i64 0)).setCell (p := ⟨A, 1, none⟩) (hx rfl) (.int .i64 0)).setCell (p := ⟨A, 2, none⟩) (hx rfl) nilS).setCell (p := ⟨A, 3, none⟩) (hx rfl) nilS
  have h3 := h2.setCell (p := ⟨E, 0, none⟩) (fun _ => .inr rfl) (badV a)
  have h4 := h1.ext ((Ext.refl (fun b => b = E) _).setCell (p := ⟨E, 0, none⟩) (fun _ => rfl) (badV a)) Hne.out
  have h5 : Row ((((w.setCell ⟨A, 0, none⟩ (.int .i64 0)).setCell ⟨A, 1, none⟩ (.int .i64 0)).setCell ⟨A, 2, none⟩ nilS).setCell ⟨A, 3, none⟩ nilS) E 41 [x] :=
    HE.out.ext (((((Ext.refl (fun b => b = A) w).setCell (p := ⟨A, 0, none⟩) (fun _ => rfl) (.int .i64 0)).setCell (p := ⟨A, 1, none⟩) (fun _ => rfl) (.int .i64 0)).setCell (p := ⟨A, 2, none⟩) (fun _ => rfl) nilS).setCell (p := ⟨A, 3, none⟩) (fun _ => rfl) nilS) (fun e => Hne.out e.symm)
  have h6 := h5.set 0 (badV a)
  have H4 := Lib.hid h4
  have H6 := Lib.hid h6
  have H3 := Lib.hid h3
  clear h1 h2 h3 h4 h5 h6 hx
  exact ⟨rfl, _, rfl, .tuple #[], results_none rfl _ _ _, rfl, rfl, H4.out, H6.out, H3.out⟩
set_option maxRecDepth 100000 in
set_option maxHeartbeats 4000000 in
theorem decode_plain {w : World} {v : Value} {L : Bytes} {x : Nat} (hb : BArg w v L) (hl : L.length ≤ 1048576) (hP : PlainB L x) :
    Calls Tryz.prog 67 #[v] w fun e w' => e = .returned (.tuple #[nodeV x 1 nilS nilS, .nilIface]) ∧ Ext Nil w w' := by
  have hmf : ∀ (fn : Fn) (first cap : Array Value) (w : World), (Instr.makeFunc fn first cap).run Tryz.prog w = .ok (.func fn first cap) w := fun _ _ _ _ => rfl
  have hal := ((Ext.refl Nil w).alloc (.cells #[.int .i64 0, .int .i64 0, nilS, nilS] 36)).alloc (.cells #[.nilIface] 41)
  obtain ⟨ad0, c0, rfl⟩ : ∃ ad c, v = .slice ad L.length c := by obtain ⟨⟨ad, c, h, _⟩, _⟩ := hb; exact ⟨ad, c, h⟩
  have hl' : decide (1048576 < (L.length : Int)) = false := by simp; omega
  have hl2 : decide (1048576 < L.length) = false := by simp; omega
  have Hal := Lib.hid hal
  have Hc := Lib.hid (newIn_any (hb.ext0 hal) (by omega))
  have HP := Lib.hid hP
  clear hb hal hP
  go_enter_defers Tryz.func67, Tryz.ntmps67
  go_wp2_with fail
  refine Hc.out.mono ?_
  rintro e w1 ⟨r, ad, c, rfl, h1, h2, h3, hx1⟩
  have hrl := h1.row.lt
  have hs1 := hx1.size
  simp only [World.size_alloc] at hs1
  have hx2 := ((Ext.refl Nil w1).alloc (.cells #[.pointer (some ⟨r, 0, none⟩), .nilIface] 216)).alloc (.cells #[.pointer (some ⟨w1.heap.size, 0, none⟩)] 214)
  have hq := (row_alloc w1 #[.pointer (some ⟨r, 0, none⟩), .nilIface] 216).ext0 ((Ext.refl Nil _).alloc (.cells #[.pointer (some ⟨w1.heap.size, 0, none⟩)] 214))
  have hrd : RdAt ((w1.alloc (.cells #[.pointer (some ⟨r, 0, none⟩), .nilIface] 216)).alloc (.cells #[.pointer (some ⟨w1.heap.size, 0, none⟩)] 214)) w1.heap.size r ad c L 0 :=
    ⟨hq, h1.ext0' hx2, by omega, fun y hy e => by have := h1.far y hy; omega⟩
  have hA := ((row_alloc w #[.int .i64 0, .int .i64 0, nilS, nilS] 36).ext0 ((Ext.refl Nil _).alloc (.cells #[.nilIface] 41))).ext0 (hx1.extN hx2)
  have hE := (row_alloc1 w #[.int .i64 0, .int .i64 0, nilS, nilS] #[.nilIface] 36 41).ext0 (hx1.extN hx2)
  have hx12 := (Hal.out.extN hx1).extN hx2
  have hrA : w.heap.size + 2 ≤ r := by simpa using h2
  have Hrd := Lib.hid hrd
  have HA := Lib.hid hA
  have HE := Lib.hid hE
  have Hx := Lib.hid hx12
  clear h1 h2 h3 hx1 hx2 hq hrd hA hE hx12
  go_wp2_with fail
  refine (node_plain Hrd.out HP.out).mono ?_
  rintro e w3 ⟨rfl, hx3⟩
  have HA3 := Lib.hid (HA.out.ext hx3 (by unfold Two; omega))
  have HE3 := Lib.hid (HE.out.ext hx3 (by unfold Two; omega))
  have Hx3 := Lib.hid (Hx.out.trans hx3 fun k hk e => by unfold Two at e; omega)
  clear hx3
  unfold nodeV
  go_wp2_with (refine wpList_store_all (o := ⟨none, _, _, _, _, _⟩) rfl (.tmp 2) (.tmp 18) rfl rfl (vs := [.int .i64 x, .int .i64 1, nilS, nilS]) rfl aNode HA3.out rfl rfl (by intro v hv; simp at hv; rcases hv with rfl | rfl | rfl <;> rfl) ?_; refine Go.X.store_world (Φ := fun W => wpList _ _ _ _ _ W) HA3.out ?_; intro W4 hW4 hxW4; have HA4 := Lib.hid hW4; have HE4 := Lib.hid (HE3.out.ext hxW4 (by omega)); have Hx4 := Lib.hid (Hx3.out.trans hxW4 fun k hk (e : k = w.heap.size) => absurd hk (by rw [e]; exact Nat.lt_irrefl _)); have e0 := HE4.out.cell (i := 0) rfl; have ef := HE4.out.frozen; clear hW4 hxW4)
  refine leaves_cons (f := 116) (args := #[.pointer (some ⟨w1.heap.size + 1, 0, none⟩), .pointer (some ⟨w.heap.size, 0, none⟩), .pointer (some ⟨w.heap.size + 1, 0, none⟩)]) (by simp) (by simp [go_sem]) ?_
  refine (catch_idle _ _ _ _).mono ?_
  rintro e u' w'' ⟨rfl, rfl, rfl⟩
  simp only [settle, Leaves]
  have hx5 := (Ext.refl (fun b => b = w.heap.size + 1) W4).setCell (p := ⟨w.heap.size + 1, 0, none⟩) (fun _ => rfl) .nilIface
  exact ⟨_, results_row_row (b := w.heap.size) (C := [.int .i64 x, .int .i64 1, nilS, nilS]) (b' := w.heap.size + 1) rfl rfl rfl aNode (HA4.out.ext hx5 (by omega)) rfl (nErr _) ((HE4.out.set 0 .nilIface).cell (i := 0) rfl), rfl, Hx4.out.setCell (fun h => absurd h (by show ¬ (w.heap.size + 1 < w.heap.size); omega)) _⟩
set_option maxRecDepth 100000 in
set_option maxHeartbeats 4000000 in
theorem decode_empty {w : World} {v : Value} (hb : BArg w v []) :
    Calls Tryz.prog 67 #[v] w (Failed w Nil 20 0 fun u => .tuple #[nodeV 0 0 nilS nilS, u]) := by
  have hmf : ∀ (fn : Fn) (first cap : Array Value) (w : World), (Instr.makeFunc fn first cap).run Tryz.prog w = .ok (.func fn first cap) w := fun _ _ _ _ => rfl
  have hal := ((Ext.refl Nil w).alloc (.cells #[.int .i64 0, .int .i64 0, nilS, nilS] 36)).alloc (.cells #[.nilIface] 41)
  obtain ⟨ad0, c0, rfl⟩ : ∃ ad c, v = .slice ad 0 c := by obtain ⟨⟨ad, c, h, _⟩, _⟩ := hb; exact ⟨ad, c, h⟩
  have Hal := Lib.hid hal
  have Hc := Lib.hid (newIn_any (hb.ext0 hal) (by simp))
  clear hb hal
  go_enter_defers Tryz.func67, Tryz.ntmps67
  go_wp2_with fail
  refine Hc.out.mono ?_
  rintro e w1 ⟨r, ad, c, rfl, h1, h2, h3, hx1⟩
  have hrl := h1.row.lt
  have hs1 := hx1.size
  simp only [World.size_alloc] at hs1
  have hx2 := ((Ext.refl Nil w1).alloc (.cells #[.pointer (some ⟨r, 0, none⟩), .nilIface] 216)).alloc (.cells #[.pointer (some ⟨w1.heap.size, 0, none⟩)] 214)
  have hq := (row_alloc w1 #[.pointer (some ⟨r, 0, none⟩), .nilIface] 216).ext0 ((Ext.refl Nil _).alloc (.cells #[.pointer (some ⟨w1.heap.size, 0, none⟩)] 214))
  have hT := row_alloc1 w1 #[.pointer (some ⟨r, 0, none⟩), .nilIface] #[.pointer (some ⟨w1.heap.size, 0, none⟩)] 216 214
  have hrd : RdAt ((w1.alloc (.cells #[.pointer (some ⟨r, 0, none⟩), .nilIface] 216)).alloc (.cells #[.pointer (some ⟨w1.heap.size, 0, none⟩)] 214)) w1.heap.size r ad c [] 0 :=
    ⟨hq, h1.ext0' hx2, by omega, fun y hy e => by have := h1.far y hy; omega⟩
  have hA := ((row_alloc w #[.int .i64 0, .int .i64 0, nilS, nilS] 36).ext0 ((Ext.refl Nil _).alloc (.cells #[.nilIface] 41))).ext0 (hx1.extN hx2)
  have hE := (row_alloc1 w #[.int .i64 0, .int .i64 0, nilS, nilS] #[.nilIface] 36 41).ext0 (hx1.extN hx2)
  have hx12 := (Hal.out.extN hx1).extN hx2
  have hrA : w.heap.size + 2 ≤ r := by simpa using h2
  have Hrd := Lib.hid hrd
  have HA := Lib.hid hA
  have HE := Lib.hid hE
  have HT := Lib.hid hT
  have Hx := Lib.hid hx12
  clear h1 h2 h3 hx1 hx2 hq hrd hA hE hx12 hT
  go_wp2_with fail
  refine (node_empty Hrd.out).mono ?_
  rintro e w3 ⟨a, rfl, h1, h2, h3, hx3⟩
  simp only [World.size_alloc] at h2
  have HA3 := Lib.hid (HA.out.ext hx3 (by unfold Two; omega))
  have HE3 := Lib.hid (HE.out.ext hx3 (by unfold Two; omega))
  have HT3 := Lib.hid (HT.out.ext hx3 (by unfold Two; omega))
  have Hx3 := Lib.hid (Hx.out.trans hx3 fun k hk e => by unfold Two at e; omega)
  have Hq3 := Lib.hid h3
  have Hb3 := Lib.hid h1
  clear hx3 h1 h3
  unfold badV at Hq3 ⊢
  go_wp2
  refine leaves_cons (f := 116) (args := #[.pointer (some ⟨w1.heap.size + 1, 0, none⟩), .pointer (some ⟨w.heap.size, 0, none⟩), .pointer (some ⟨w.heap.size + 1, 0, none⟩)]) (by simp) (by simp [go_sem]) ?_
  refine (catch_panicking (HT3.out.cell (i := 0) rfl) Hq3.out HA3.out HE3.out rfl (by omega) []).mono ?_
  rintro e u' w'' ⟨rfl, rfl, hA4, hE4, hx4⟩
  simp only [settle, List.dropWhile, Leaves]
  refine ⟨_, results_row_row (b := w.heap.size) (C := [.int .i64 0, .int .i64 0, nilS, nilS]) (b' := w.heap.size + 1) rfl rfl rfl aNode hA4 rfl (nErr _) (hE4.cell (i := 0) rfl), a, rfl, by omega, Go.X.Row.ext Hb3.out hx4 (by omega), Hx3.out.trans hx4 fun k hk e => by omega⟩
end Go.Proofs.YtggiknehmoaimaaGreatDoor
