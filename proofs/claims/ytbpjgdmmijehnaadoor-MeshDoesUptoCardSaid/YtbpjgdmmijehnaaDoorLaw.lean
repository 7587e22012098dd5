/-
  The small functions of the laws: same, oneErr; New of a mesh.
-/
import Derived.Test.YtbpjgdmmijehnaaDoorMeshJ
namespace Go.Proofs.YtbpjgdmmijehnaaDoor
open Go.RowKit Go.X

set_option maxHeartbeats 400000 in
theorem same_any {w : World} {u v : Value} {l m : List UInt8} (hu : BytesArg w u l) (hv : BytesArg w v m) :
    Calls Tryd.prog 11 #[u, v] w fun e w' => e = .returned (.bool (l == m)) ∧ w = w' := by
  obtain ⟨hu, ad, c, rfl⟩ := hu
  obtain ⟨hv, ad', c', rfl⟩ := hv
  have h1 := X.run_toString (P := Tryd.prog) (l := l) Tryd.underlying32 Tryd.underlying5 Tryd.underlying9 hu (fun _ h => by cases h)
  have h2 := X.run_toString (P := Tryd.prog) (l := m) Tryd.underlying32 Tryd.underlying5 Tryd.underlying9 hv (fun _ h => by cases h)
  clear hu hv
  go_enter Tryd.func11, Tryd.ntmps11
  go_wp2
  go_ret
  exact ⟨rfl, rfl⟩

/-- The error value that says that nothing is under way. -/
def IsIdle (idle : Value) : Prop := ∃ p, idle = .iface 104 (.pointer (some p))

set_option maxHeartbeats 400000 in
theorem oneErr_same {w : World} {idle : Value} (hi : IsIdle idle) :
    Calls Tryd.prog 13 #[idle, idle] w fun e w' => e = .returned (.bool true) ∧ w = w' := by
  obtain ⟨p, rfl⟩ := hi
  have h1 : ∀ w, (binOp .eql 24 (.iface 104 (.pointer (some p))) .nilIface).run Tryd.prog w = .ok (.bool false) w := fun w => by
    have h : ∀ d : Nat, (Op.equalIn (d + 1) 24 (.iface 104 (.pointer (some p))) .nilIface).run Tryd.prog w = .ok false w := fun d => by simp [Op.equalIn, run_underlying Tryd.underlying24]
    simp only [binOp]
    simp [Op.equal, Op.maxDepth, h 9999]
  have h2 : ∀ w, (binOp .eql 24 (.iface 104 (.pointer (some p))) (.iface 104 (.pointer (some p)))).run Tryd.prog w = .ok (.bool true) w := fun w => by
    have c1 : (Tryd.prog.info? 104).map (·.comparable) = some true := by kernel_rfl
    have c2 : (Tryd.prog.info? 121).map (fun _ => ()) = some () := by kernel_rfl
    obtain ⟨i, hi, hi2⟩ := Option.map_eq_some_iff.1 c1
    obtain ⟨j, hj, _⟩ := Option.map_eq_some_iff.1 c2
    exact run_eql_iface_ptr_same w p Tryd.underlying24 Tryd.underlying104 hi hi2 hj
  go_enter Tryd.func13, Tryd.ntmps13
  go_wp2
  go_ret
  exact ⟨rfl, rfl⟩

/-- What New leaves. -/
def NewV (n : Int) (w : World) (e : Ending) (w' : World) : Prop :=
  if 1 ≤ n ∧ n ≤ 8 then ∃ a, e = .returned (.tuple #[.pointer (some ⟨a, 0, none⟩), .int .i64 0]) ∧ IsMesh w' a n 0 (fun _ => []) (fun b => w.heap.size ≤ b ∧ b < w'.heap.size) ∧ Ext Nil w w'
  else e = .returned (.tuple #[.pointer none, .int .i64 1]) ∧ w = w'

theorem isMesh_new (w : World) (n : Int) : IsMesh ((w.alloc (.map #[] 0)).alloc (.cells #[.int .i32 0, .int .u32 0, .int .i64 n, .map (some w.heap.size)] 66)) (w.heap.size + 1) n 0 (fun _ => []) (fun b => w.heap.size ≤ b ∧ b < w.heap.size + 2) := by
  have hx : Ext Nil (w.alloc (.map #[] 0)) ((w.alloc (.map #[] 0)).alloc (.cells #[.int .i32 0, .int .u32 0, .int .i64 n, .map (some w.heap.size)] 66)) := (Ext.refl _ _).alloc _
  refine ⟨0, w.heap.size, [], fun _ => [], ?_⟩
  exact
  { cells := by have := heap_alloc_new (w.alloc (.map #[] 0)) (.cells #[.int .i32 0, .int .u32 0, .int .i64 n, .map (some w.heap.size)] 66); rwa [World.size_alloc] at this
    map := (hasMap_new w kdl).ext hx id
    row := fun k => Own.nil _ _ _
    len := fun _ => rfl
    msg := fun k i m l hm _ => by simp at hm
    rowSep := fun k k' b hb => by simp [rv, X.get, Value.ownBlock] at hb
    msgSep := fun k k' i i' m m' b hm => by simp at hm
    fa := ⟨by omega, by omega⟩
    fm := ⟨by omega, by omega⟩
    frow := fun k b hb => by simp [rv, X.get, Value.ownBlock] at hb
    fmsg := fun k i m b hm => by simp at hm
    bound := fun b hb => by simp; exact hb.2 }

set_option maxHeartbeats 1000000 in
theorem new_any (n : Int) (w : World) : Calls Tryd.prog 8 #[.int .i64 n] w (NewV n w) := by
  have hmm := @run_makeMap Tryd.prog
  by_cases h1 : n < 1
  · have e : Hid (¬ (1 ≤ n ∧ n ≤ 8)) := by show ¬ (1 ≤ n ∧ n ≤ 8); omega
    go_enter Tryd.func8, Tryd.ntmps8
    go_wp2
    go_ret2
    unfold NewV; rw [if_neg e.out]; exact ⟨rfl, rfl⟩
  · have d1 : decide (n < 1) = false := by simpa using h1
    by_cases h2 : 8 < n
    · have e : Hid (¬ (1 ≤ n ∧ n ≤ 8)) := by show ¬ (1 ≤ n ∧ n ≤ 8); omega
      go_enter Tryd.func8, Tryd.ntmps8
      go_wp2
      go_ret2
      unfold NewV; rw [if_neg e.out]; exact ⟨rfl, rfl⟩
    · have d2 : decide (8 < n) = false := by simpa using h2
      have e : Hid (1 ≤ n ∧ n ≤ 8) := by show 1 ≤ n ∧ n ≤ 8; omega
      go_enter Tryd.func8, Tryd.ntmps8
      go_wp2
      go_ret2
      unfold NewV; rw [if_pos e.out]
      refine ⟨w.heap.size + 1, rfl, ?_, ((Ext.refl _ _).alloc _).alloc _⟩
      have := isMesh_new w n
      simpa using this
end Go.Proofs.YtbpjgdmmijehnaaDoor
