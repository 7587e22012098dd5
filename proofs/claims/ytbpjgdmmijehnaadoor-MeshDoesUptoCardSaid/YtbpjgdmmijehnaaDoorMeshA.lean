/-
  The contracts of the small functions under a mesh.
-/
import Derived.Test.YtbpjgdmmijehnaaDoorMesh
namespace Go.Proofs.YtbpjgdmmijehnaaDoor
open Go.RowKit Go.X

def thereB (n : Int) (k : Lk) : Bool := decide (1 ≤ k.1 ∧ k.1 ≤ n ∧ 1 ≤ k.2 ∧ k.2 ≤ n ∧ k.1 ≠ k.2)

set_option maxHeartbeats 1000000 in
theorem there_any (a : Nat) (n x y : Int) (w : World) (hn : w.cell? ⟨a, 2, none⟩ = some (.int .i64 n)) :
    Calls Tryd.prog 45 #[.pointer (some ⟨a, 0, none⟩), .agg #[.int .i64 x, .int .i64 y]] w fun e w' => e = .returned (.bool (thereB n (x, y))) ∧ Ext Nil w w' := by
  have hb : a < w.heap.size := World.block_lt_of_cell? w _ hn
  by_cases h1 : 1 ≤ x
  case neg =>
    have d1 : decide (1 ≤ x) = false := by simpa using h1
    have e := Lib.hid h1
    clear h1
    go_enter Tryd.func45, Tryd.ntmps45
    go_wp2
    go_quiet (fail)
    go_wp2
    go_ret
    exact ⟨by rw [show thereB n (x, y) = false from by unfold thereB; first | exact decide_eq_false (by have := e.out; show ¬ (1 ≤ x ∧ x ≤ n ∧ 1 ≤ y ∧ y ≤ n ∧ x ≠ y); omega) | exact decide_eq_true (by have := e.out; show (1 ≤ x ∧ x ≤ n ∧ 1 ≤ y ∧ y ≤ n ∧ x ≠ y); omega)]; rfl, ((Ext.refl _ _).alloc _).drewN _⟩
  by_cases h2 : x ≤ n
  case neg =>
    have d2 : decide (x ≤ n) = false := by simpa using h2
    have e := Lib.hid h2
    clear h2
    go_enter Tryd.func45, Tryd.ntmps45
    go_wp2
    go_quiet (fail)
    go_wp2
    go_ret
    exact ⟨by rw [show thereB n (x, y) = false from by unfold thereB; first | exact decide_eq_false (by have := e.out; show ¬ (1 ≤ x ∧ x ≤ n ∧ 1 ≤ y ∧ y ≤ n ∧ x ≠ y); omega) | exact decide_eq_true (by have := e.out; show (1 ≤ x ∧ x ≤ n ∧ 1 ≤ y ∧ y ≤ n ∧ x ≠ y); omega)]; rfl, ((Ext.refl _ _).alloc _).drewN _⟩
  by_cases h3 : 1 ≤ y
  case neg =>
    have d3 : decide (1 ≤ y) = false := by simpa using h3
    have e := Lib.hid h3
    clear h3
    go_enter Tryd.func45, Tryd.ntmps45
    go_wp2
    go_quiet (fail)
    go_wp2
    go_ret
    exact ⟨by rw [show thereB n (x, y) = false from by unfold thereB; first | exact decide_eq_false (by have := e.out; show ¬ (1 ≤ x ∧ x ≤ n ∧ 1 ≤ y ∧ y ≤ n ∧ x ≠ y); omega) | exact decide_eq_true (by have := e.out; show (1 ≤ x ∧ x ≤ n ∧ 1 ≤ y ∧ y ≤ n ∧ x ≠ y); omega)]; rfl, ((Ext.refl _ _).alloc _).drewN _⟩
  by_cases h4 : y ≤ n
  case neg =>
    have d4 : decide (y ≤ n) = false := by simpa using h4
    have e := Lib.hid h4
    clear h4
    go_enter Tryd.func45, Tryd.ntmps45
    go_wp2
    go_quiet (fail)
    go_wp2
    go_ret
    exact ⟨by rw [show thereB n (x, y) = false from by unfold thereB; first | exact decide_eq_false (by have := e.out; show ¬ (1 ≤ x ∧ x ≤ n ∧ 1 ≤ y ∧ y ≤ n ∧ x ≠ y); omega) | exact decide_eq_true (by have := e.out; show (1 ≤ x ∧ x ≤ n ∧ 1 ≤ y ∧ y ≤ n ∧ x ≠ y); omega)]; rfl, ((Ext.refl _ _).alloc _).drewN _⟩
  by_cases h5 : x = y
  case pos =>
    have d5 : ((x : Int) != y) = false := by simp [h5]
    have e := Lib.hid h5
    clear h5
    go_enter Tryd.func45, Tryd.ntmps45
    go_wp2
    go_quiet (fail)
    go_wp2
    go_ret
    exact ⟨by rw [show thereB n (x, y) = false from by unfold thereB; first | exact decide_eq_false (by have := e.out; show ¬ (1 ≤ x ∧ x ≤ n ∧ 1 ≤ y ∧ y ≤ n ∧ x ≠ y); omega) | exact decide_eq_true (by have := e.out; show (1 ≤ x ∧ x ≤ n ∧ 1 ≤ y ∧ y ≤ n ∧ x ≠ y); omega)]; rfl, ((Ext.refl _ _).alloc _).drewN _⟩
  case neg =>
    have d5 : ((x : Int) != y) = true := by simp [h5]
    have e := Lib.hid h5
    clear h5
    go_enter Tryd.func45, Tryd.ntmps45
    go_wp2
    go_quiet (fail)
    go_wp2
    go_ret
    exact ⟨by rw [show thereB n (x, y) = true from by unfold thereB; first | exact decide_eq_false (by have := e.out; show ¬ (1 ≤ x ∧ x ≤ n ∧ 1 ≤ y ∧ y ≤ n ∧ x ≠ y); omega) | exact decide_eq_true (by have := e.out; show (1 ≤ x ∧ x ≤ n ∧ 1 ≤ y ∧ y ≤ n ∧ x ≠ y); omega)]; rfl, ((Ext.refl _ _).alloc _).drewN _⟩

set_option maxHeartbeats 400000 in
theorem round_any (i n : Int) (w : World) (h0 : 0 < n) (h1 : n ≤ 4000000) :
    Calls Tryd.prog 29 #[.int .i64 i, .int .i64 n] w fun e w' => e = .returned (.int .i64 (i % n)) ∧ w = w' := by
  have hne : (n == 0) = false := by rw [beq_eq_false_iff_ne]; omega
  have h2 := Int.tmod_lt_of_pos i h0
  have h3 : -n < i.tmod n := by
    have := Int.tmod_lt_of_pos (-i) h0
    rw [Int.neg_tmod] at this; omega
  have hr : Hid ((i.tmod n + n) % n = i % n) := by
    show (i.tmod n + n) % n = i % n
    rw [Int.add_emod_right]
    rw [Int.tmod_def, Int.sub_emod, Int.mul_emod_right]; simp
  have h4 : 0 ≤ i.tmod n + n := by omega
  go_enter Tryd.func29, Tryd.ntmps29
  go_wp2
  go_ret
  exact ⟨show Ending.returned (.int .i64 ((i.tmod n + n) % n)) = _ by rw [hr.out], rfl⟩

set_option maxHeartbeats 400000 in
theorem clone_bytes {w : World} {v : Value} {m : Nat} {news : List Value} (hs : Src w v 1 m news) (hsl : ∀ s, v ≠ .string s) (hm : m * 1 ≤ 140737488355328) :
    Calls Tryd.prog 27 #[v] w (Cloned w 5 1 m news) := by
  have hlen : m ≤ maxLen := by unfold maxLen; omega
  rcases hs.2.2 with ⟨rfl, rfl⟩ | ⟨a, c, rfl, _⟩ | ⟨s, rfl, _⟩
  · have hn : news = [] := List.eq_nil_of_length_eq_zero (by simpa using hs.1)
    subst hn
    have hq := fun w => Lib.run_eql_slice_nil (P := Tryd.prog) w 32 _ none 0 0 0 0 Tryd.underlying32
    go_enter Tryd.func27, Tryd.ntmps27
    go_wp2
    go_ret
    exact ⟨_, rfl, Own.nil _ _ _, Ext.refl _ _, by intro b hb; cases hb⟩
  · have hq := fun w => Lib.run_eql_slice_nil (P := Tryd.prog) w 32 _ (some a) m c 0 0 Tryd.underlying32
    go_enter Tryd.func27, Tryd.ntmps27
    go_wp2_with (at_builtin; refine wpList_append rfl _ _ _ rfl elByte ⟨_, Tryd.underlying32, fun _ h => by cases h⟩ (own_new w #[] 5 1 0 0 [] rfl (Nat.le_refl _) (Nat.zero_le _) (by simp) (by simp)) (hs.ext (F := Nil) ((Ext.refl _ _).alloc _) fun _ _ h => h) rfl rfl (by omega) (by omega) ?_; intro v' w' hA)
    go_ret
    have h1 := hA.own
    rw [Nat.zero_add] at h1
    refine ⟨_, rfl, h1, (((Ext.refl Nil w).alloc (.cells #[] 5)).trans hA.ext ?_), ?_⟩
    · intro k hk h
      have h' : w.heap.size = k := by simpa [Value.ownBlock] using h
      exact absurd hk (by omega)
    · intro b hb
      rcases hA.lies with h | ⟨k, h, h2, _⟩
      · have : w.heap.size = b := by simpa [Value.ownBlock] using h.symm.trans hb
        exact Nat.le_of_eq this
      · have : k = b := by simpa using h.symm.trans hb
        simp at h2
        omega
  · exact absurd rfl (hsl s)

set_option maxHeartbeats 400000 in
theorem clone_rows {w : World} {v : Value} {m : Nat} {news : List Value} (hs : Src w v 1 m news) (hsl : ∀ s, v ≠ .string s) (hm : m * 24 ≤ 140737488355328) :
    Calls Tryd.prog 28 #[v] w (Cloned w 32 1 m news) := by
  have hlen : m ≤ maxLen := by unfold maxLen; omega
  rcases hs.2.2 with ⟨rfl, rfl⟩ | ⟨a, c, rfl, _⟩ | ⟨s, rfl, _⟩
  · have hn : news = [] := List.eq_nil_of_length_eq_zero (by simpa using hs.1)
    subst hn
    have hq := fun w => Lib.run_eql_slice_nil (P := Tryd.prog) w 25 _ none 0 0 0 0 Tryd.underlying25
    go_enter Tryd.func28, Tryd.ntmps28
    go_wp2
    go_ret
    exact ⟨_, rfl, Own.nil _ _ _, Ext.refl _ _, by intro b hb; cases hb⟩
  · have hq := fun w => Lib.run_eql_slice_nil (P := Tryd.prog) w 25 _ (some a) m c 0 0 Tryd.underlying25
    go_enter Tryd.func28, Tryd.ntmps28
    go_wp2_with (at_builtin; refine wpList_append rfl _ _ _ rfl elBytes ⟨_, Tryd.underlying25, fun _ h => by cases h⟩ (own_new w #[] 32 1 0 0 [] rfl (Nat.le_refl _) (Nat.zero_le _) (by simp) (by simp)) (hs.ext (F := Nil) ((Ext.refl _ _).alloc _) fun _ _ h => h) rfl rfl (by omega) (by omega) ?_; intro v' w' hA)
    go_ret
    have h1 := hA.own
    rw [Nat.zero_add] at h1
    refine ⟨_, rfl, h1, (((Ext.refl Nil w).alloc (.cells #[] 32)).trans hA.ext ?_), ?_⟩
    · intro k hk h
      have h' : w.heap.size = k := by simpa [Value.ownBlock] using h
      exact absurd hk (by omega)
    · intro b hb
      rcases hA.lies with h | ⟨k, h, h2, _⟩
      · have : w.heap.size = b := by simpa [Value.ownBlock] using h.symm.trans hb
        exact Nat.le_of_eq this
      · have : k = b := by simpa using h.symm.trans hb
        simp at h2
        omega
  · exact absurd rfl (hsl s)
end Go.Proofs.YtbpjgdmmijehnaaDoor
