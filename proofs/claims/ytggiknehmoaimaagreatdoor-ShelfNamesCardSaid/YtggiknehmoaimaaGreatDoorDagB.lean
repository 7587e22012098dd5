/-
  The graph of the program, where a vertex has no parents: New, own, ready, takes, Len, Rising.
-/
import Derived.Test.YtggiknehmoaimaaGreatDoorDag
import Derived.Deep.Cut
namespace Go.X
open Go.RowKit
theorem set_self {α : Type} : ∀ {E : List α} {i : Nat} {v : α}, E[i]? = some v → E.set i v = E
  | [], _, _, h => by simp at h
  | a :: E, 0, v, h => by simp at h; simp [h]
  | a :: E, i + 1, v, h => by simp at h; simp [set_self h]
theorem two_start {Φ : World → Prop} {w : World} {A C : Array Value} {e f : TypeId} (h : ∀ W, Row W w.heap.size e A.toList → Row W (w.heap.size + 1) f C.toList → Ext Nil w W → Φ W) :
    Φ ((w.alloc (.cells A e)).alloc (.cells C f)) := by
  refine h _ ((row_alloc w A e).ext0 ((Ext.refl Nil _).alloc (.cells C f))) ?_ (((Ext.refl Nil w).alloc _).alloc _)
  have := row_alloc (w.alloc (.cells A e)) C f
  simpa using this
theorem run_len_map {P : Program} {κ : Type} {t k e ty : TypeId} {kd : κ → Value} {L : List (Ent κ)} (ht : P.underlying t = some (.map k e)) {b : Nat} {w : World} (H : HasMap w b kd L) : (Builtin.len_ #[t] ty #[.map (some b)]).run P w = .ok (.int .i64 L.length) w := by
  obtain ⟨clock, hb, _⟩ := H.heap
  simp [Builtin.len_, run_underlying ht, run_getObj hb (fun _ _ _ h => by cases h), goInt]
end Go.X
namespace Go.Proofs.YtggiknehmoaimaaGreatDoor
open Go Go.RowKit Go.X
set_option maxHeartbeats 1000000 in
theorem dag_new (w : World) : Calls Tryz.prog 25 #[.int .i64 64] w fun e w' => ∃ d D, e = .returned (.tuple #[.pointer (some ⟨d, 0, none⟩), .int .i64 0]) ∧ DagAt w' d D ∧ D.LH = [] ∧ D.LM = [] ∧ D.LW = [] ∧ D.old = nilS ∧ D.room = 64 ∧ w.heap.size ≤ d ∧ w.heap.size ≤ D.held ∧ w.heap.size ≤ D.heads ∧ w.heap.size ≤ D.waits ∧ Ext Nil w w' := by
  have hmm := @run_makeMap Tryz.prog
  go_enter Tryz.func25, Tryz.ntmps25
  go_wp2
  go_ret2
  have x1 := (Ext.refl Nil w).alloc (.map #[] 0)
  have x2 := (Ext.refl Nil (w.alloc (.map #[] 0))).alloc (.map #[] 0)
  have x3 := (Ext.refl Nil ((w.alloc (.map #[] 0)).alloc (.map #[] 0))).alloc (.map #[] 0)
  have x4 := (Ext.refl Nil (((w.alloc (.map #[] 0)).alloc (.map #[] 0)).alloc (.map #[] 0))).alloc (.cells #[.int .i64 64, .map (some w.heap.size), .map (some (w.heap.size + 1)), .map (some (w.heap.size + 1 + 1)), nilS] 138)
  have h1 := (((hasMap_new w hv).ext x2 id).ext x3 id).ext x4 id
  have h2 := ((hasMap_new (w.alloc (.map #[] 0)) hv).ext x3 id).ext x4 id
  have h3 := (hasMap_new ((w.alloc (.map #[] 0)).alloc (.map #[] 0)) hv).ext x4 id
  have h4 := row_alloc (((w.alloc (.map #[] 0)).alloc (.map #[] 0)).alloc (.map #[] 0)) #[.int .i64 64, .map (some w.heap.size), .map (some (w.heap.size + 1)), .map (some (w.heap.size + 1 + 1)), nilS] 138
  simp only [World.size_alloc] at h2 h3 h4
  have hg : Good [] := ⟨fun k => ⟨_, rfl, rfl, vertexC_one _ _ _ rfl⟩⟩
  refine ⟨w.heap.size + 1 + 1 + 1, ⟨64, w.heap.size, w.heap.size + 1, w.heap.size + 1 + 1, [], [], [], nilS⟩, rfl, ⟨h4, h1, h2, h3, hg, hg, by simp only []; omega⟩, rfl, rfl, rfl, rfl, rfl, by omega, Nat.le_refl _, by simp only []; omega, by simp only []; omega, ((x1.extN x2).extN x3).extN x4⟩

theorem clone_nil (w : World) : Calls Tryz.prog 80 #[nilS] w fun e w' => e = .returned nilS ∧ w = w' := by
  have hq := fun w => Lib.run_eql_slice_nil (P := Tryz.prog) w 25 _ none 0 0 0 0 Tryz.underlying25
  go_enter Tryz.func80, Tryz.ntmps80
  go_wp2
  go_ret
  exact ⟨rfl, rfl⟩
theorem rising_nil (w : World) : Calls Tryz.prog 70 #[nilS] w fun e w' => e = .returned (.bool true) ∧ w = w' := by
  go_enter Tryz.func70, Tryz.ntmps70
  go_wp2_with fail
  refine wp_loop_rounds 1 ?_
  rw [rounds_succ]
  go_wp2
  go_ret
  exact ⟨rfl, rfl⟩
theorem index_nil (fv : Value) (w : World) : Calls Tryz.prog 149 #[nilS, fv] w fun e w' => e = .returned (.int .i64 (-1)) ∧ w = w' := by
  go_enter Tryz.func149, Tryz.ntmps149
  go_wp2_with fail
  refine wp_loop_rounds 1 ?_
  rw [rounds_succ]
  go_wp2
  go_ret
  exact ⟨rfl, rfl⟩
theorem contains_nil (fv : Value) (w : World) : Calls Tryz.prog 118 #[nilS, fv] w fun e w' => e = .returned (.bool false) ∧ w = w' := by
  go_enter Tryz.func118, Tryz.ntmps118
  go_wp2_with (go_at_call 149; refine (index_nil _ _).mono ?_; rintro e w' ⟨rfl, rfl⟩)
  go_ret
  exact ⟨rfl, rfl⟩

/-- A vertex without parents, as it comes in. -/
def VX (k : Hash) (c : Int) : Value := .agg (vertexC k.1 c nilS).toArray
theorem vx32 (k : Hash) (c : Int) : (vertexC k.1 c nilS)[32]? = some (.int .i64 c) ∧ (vertexC k.1 c nilS)[33]? = some nilS := by
  unfold vertexC
  rw [List.getElem?_append_right (by simp [bv, k.2]), List.getElem?_append_right (by simp [bv, k.2])]
  simp [bv, k.2]
theorem vxid (k : Hash) (c : Int) : ((vertexC k.1 c nilS).drop 0).take 32 = bv k.1 := by
  unfold vertexC
  rw [List.drop_zero, List.take_append_of_le_length (by rw [bv_length, k.2]; exact Nat.le_refl _), List.take_of_length_le (by rw [bv_length, k.2]; exact Nat.le_refl _)]
set_option maxHeartbeats 1000000 in
theorem ready_none (d : Nat) (k : Hash) (c : Int) (w : World) : Calls Tryz.prog 71 #[.pointer (some ⟨d, 0, none⟩), VX k c] w fun e w' => e = .returned (.bool true) ∧ Ext Nil w w' := by
  have hmf : ∀ (fn : Fn) (first cap : Array Value) (w : World), (Instr.makeFunc fn first cap).run Tryz.prog w = .ok (.func fn first cap) w := fun _ _ _ _ => rfl
  obtain ⟨g32, g33⟩ := vx32 k c
  unfold VX
  generalize vertexC k.1 c nilS = E at g32 g33 ⊢
  have hc := (row_alloc1 w #[.pointer (some ⟨d, 0, none⟩)] E.toArray 65 94).cell (i := 33) g33
  clear g32 g33
  go_enter Tryz.func71, Tryz.ntmps71
  go_wp2_with (go_at_call 118; refine (contains_nil _ _).mono ?_; rintro e w' ⟨rfl, rfl⟩)
  go_ret
  exact ⟨rfl, ((Ext.refl Nil w).alloc _).alloc _⟩
/-- What takes answers, where there are no parents. -/
def takesV (c : Int) (n : Nat) : Int := if c = 1 then (if 4096 ≤ n then 3 else 0) else 51
set_option maxRecDepth 100000 in
set_option maxHeartbeats 2000000 in
theorem takes_none {d : Nat} {D : DagS} (k : Hash) (c : Int) {w : World} (h : DagAt w d D) : Calls Tryz.prog 72 #[.pointer (some ⟨d, 0, none⟩), VX k c] w fun e w' => e = .returned (.int .i64 (takesV c D.LH.length)) ∧ Ext Nil w w' := by
  obtain ⟨g32, g33⟩ := vx32 k c
  unfold VX
  generalize vertexC k.1 c nilS = E at g32 g33 ⊢
  have hr := row_alloc w E.toArray 94
  have hal := (Ext.refl Nil w).alloc (.cells E.toArray 94)
  have c2 := hr.cell (i := 32) g32
  have c3 := hr.cell (i := 33) g33
  have h1 := h.ext0 hal
  have d1 := h1.row.cell (i := 1) rfl
  have hl := fun ty => Go.X.run_len_map (P := Tryz.prog) (ty := ty) Tryz.underlying135 h1.LHm
  have Hal := Lib.hid hal
  clear g32 g33 hr h1 hal h
  obtain ⟨n, hn⟩ : ∃ n, n = D.LH.length := ⟨_, rfl⟩
  rw [← hn] at hl ⊢
  clear hn
  by_cases e1 : c = 1
  case neg =>
    have hb : (c != 1) = true := by simpa using e1
    have hT : Hid (takesV c n = 51) := by show takesV c n = 51; unfold takesV; rw [if_neg e1]
    go_enter Tryz.func72, Tryz.ntmps72
    go_wp2_with fail
    refine wp_loop_rounds 1 ?_
    rw [rounds_succ]
    go_wp2
    go_ret
    exact ⟨(by rw [hT.out]; rfl), Hal.out⟩
  case pos =>
    subst e1
    by_cases e2 : 4096 ≤ n
    all_goals
      first
        | have hT : Hid (takesV 1 n = 3) := by (show takesV 1 n = 3; unfold takesV; rw [if_pos rfl, if_pos e2])
        | have hT : Hid (takesV 1 n = 0) := by (show takesV 1 n = 0; unfold takesV; rw [if_pos rfl, if_neg e2])
      go_enter Tryz.func72, Tryz.ntmps72
      go_wp2_with fail
      refine wp_loop_rounds 1 ?_
      rw [rounds_succ]
      go_wp2
      go_ret
      exact ⟨(by rw [hT.out]; rfl), Hal.out⟩
set_option maxHeartbeats 1000000 in
theorem len_any {d : Nat} {D : DagS} {w : World} (h : DagAt w d D) : Calls Tryz.prog 42 #[.pointer (some ⟨d, 0, none⟩)] w fun e w' => e = .returned (.int .i64 D.LH.length) ∧ w = w' := by
  have d1 := h.row.cell (i := 1) rfl
  have hl := fun ty => Go.X.run_len_map (P := Tryz.prog) (ty := ty) Tryz.underlying135 h.LHm
  clear h
  go_enter Tryz.func42, Tryz.ntmps42
  go_wp2
  go_ret
  exact ⟨rfl, rfl⟩
set_option maxRecDepth 100000 in
set_option maxHeartbeats 2000000 in
theorem own_none (k : Hash) (c : Int) (w : World) : Calls Tryz.prog 74 #[VX k c] w fun e w' => e = .returned (VX k c) ∧ Ext Nil w w' := by
  obtain ⟨g32, g33⟩ := vx32 k c
  have hlen := vertexC_length k.1 k.2 c nilS
  have hone := vertexC_one k.1 c nilS rfl
  unfold VX
  generalize vertexC k.1 c nilS = E at g32 g33 hlen hone ⊢
  have G33 := Lib.hid g33
  have Hlen := Lib.hid hlen
  have Hone := Lib.hid hone
  clear g32 g33 hlen hone
  go_enter Tryz.func74, Tryz.ntmps74
  go_upto_region 1 with (fail)
  refine Go.X.two_start (Φ := fun W => Code.wp _ _ _ _ W) ?_
  intro W hr hz hx
  have c3 := hr.cell (i := 33) G33.out
  have cf := hr.frozen
  have Hr := Lib.hid hr
  have Hz := Lib.hid hz
  have Hx := Lib.hid hx
  have hset : Row (W.setCell ⟨w.heap.size, 33, none⟩ nilS) w.heap.size 94 E := by
    have h1 := hr.set 33 nilS
    have h2 : E.toArray.toList.set 33 nilS = E := Go.X.set_self (E := E) G33.out
    rwa [h2] at h1
  have hzs := hz.ext ((Ext.refl (fun b => b = w.heap.size) W).setCell (p := ⟨w.heap.size, 33, none⟩) (fun _ => rfl) nilS) (by omega)
  have hxs := hx.setCell (p := ⟨w.heap.size, 33, none⟩) (fun h => absurd h (Nat.lt_irrefl _)) nilS
  have Hset := Lib.hid hset
  have Hzs := Lib.hid hzs
  have Hxs := Lib.hid hxs
  clear hr hz hx hset hzs hxs
  go_wp2_with (first
    | (go_at_call 80; refine (clone_nil _).mono ?_; rintro e w' ⟨rfl, rfl⟩)
    | (refine wpList_load_all (o := ⟨some 7, _, _, _, _, _⟩) rfl (.tmp 1) rfl rfl aVertex Hset.out Hlen.out ?_)
    | (refine wpList_store_all (o := ⟨none, _, _, _, _, _⟩) rfl (.tmp 2) (.tmp 7) rfl rfl (vs := E) rfl aVertex Hzs.out rfl Hlen.out Hone.out ?_))
  exact bodyPost_ret (results_row (b := w.heap.size + 1) (C := E) rfl rfl aVertex (Hzs.out.setRow _) Hlen.out) rfl ⟨rfl, Hxs.out.setRow (fun h => by omega) _⟩
end Go.Proofs.YtggiknehmoaimaaGreatDoor
