/-
  slices.Clone of the program, at bytes and at hashes.
-/
import Derived.Test.YtggiknehmoaimaaGreatDoorVert
namespace Go.Proofs.YtggiknehmoaimaaGreatDoor
open Go Go.RowKit Go.X
theorem clone_hashes_el : ElemT Tryz.prog 25 27 32 32 := ⟨Tryz.underlying25, by kernel_rfl, by decide⟩
theorem clone_bytes_el : ElemT Tryz.prog 29 5 1 1 := elB

set_option maxHeartbeats 400000 in
theorem clone_bytes {w : World} {v : Value} {m : Nat} {news : List Value} (hs : Src w v 1 m news) (hsl : ∀ s, v ≠ .string s) (hm : m * 1 ≤ 140737488355328) :
    Calls Tryz.prog 38 #[v] w (Cloned w 5 1 m news) := by
  have hlen : m ≤ maxLen := by unfold maxLen; omega
  rcases hs.2.2 with ⟨rfl, rfl⟩ | ⟨a, c, rfl, _⟩ | ⟨s, rfl, _⟩
  · have hn : news = [] := List.eq_nil_of_length_eq_zero (by simpa using hs.1)
    subst hn
    have hq := fun w => Lib.run_eql_slice_nil (P := Tryz.prog) w 29 _ none 0 0 0 0 Tryz.underlying29
    go_enter Tryz.func38, Tryz.ntmps38
    go_wp2
    go_ret
    exact ⟨_, rfl, Own.nil _ _ _, Ext.refl _ _, by intro b hb; cases hb⟩
  · have hq := fun w => Lib.run_eql_slice_nil (P := Tryz.prog) w 29 _ (some a) m c 0 0 Tryz.underlying29
    have Hs := Lib.hid hs
    go_enter Tryz.func38, Tryz.ntmps38
    go_wp2_with (at_builtin; refine wpList_append rfl _ _ _ rfl clone_bytes_el ⟨_, Tryz.underlying29, fun _ h => by cases h⟩ (own_new w #[] 5 1 0 0 [] rfl (Nat.le_refl _) (Nat.zero_le _) (by simp) (by simp)) (Hs.out.ext (F := Nil) ((Ext.refl _ _).alloc _) fun _ _ h => h) rfl rfl (by omega) (by omega) ?_; intro v' w' hA)
    go_ret
    have h1 := hA.own
    rw [Nat.zero_add] at h1
    refine ⟨_, rfl, h1, (((Ext.refl Nil w).alloc (.cells #[] 5)).trans hA.ext ?_), ?_⟩
    · intro k hk h
      have h' : w.heap.size = k := by simpa [Value.ownBlock] using h
      exact absurd hk (by omega)
    · intro b hb
      rcases hA.lies with h | ⟨k, h, h2, _⟩
      · have : w.heap.size = b := by simpa [Value.ownBlock] using h.symm.trans hb
        exact Nat.le_of_eq this
      · have : k = b := by simpa using h.symm.trans hb
        simp at h2
        omega
  · exact absurd rfl (hsl s)

set_option maxHeartbeats 400000 in
theorem clone_hashes {w : World} {v : Value} {m : Nat} {news : List Value} (hs : Src w v 32 m news) (hsl : ∀ s, v ≠ .string s) (hm : m * 32 ≤ 140737488355328) :
    Calls Tryz.prog 80 #[v] w (Cloned w 27 32 m news) := by
  have hlen : m ≤ maxLen := by unfold maxLen; omega
  rcases hs.2.2 with ⟨rfl, rfl⟩ | ⟨a, c, rfl, _⟩ | ⟨s, rfl, _⟩
  · have hn : news = [] := List.eq_nil_of_length_eq_zero (by simpa using hs.1)
    subst hn
    have hq := fun w => Lib.run_eql_slice_nil (P := Tryz.prog) w 25 _ none 0 0 0 0 Tryz.underlying25
    go_enter Tryz.func80, Tryz.ntmps80
    go_wp2
    go_ret
    exact ⟨_, rfl, Own.nil _ _ _, Ext.refl _ _, by intro b hb; cases hb⟩
  · have hq := fun w => Lib.run_eql_slice_nil (P := Tryz.prog) w 25 _ (some a) m c 0 0 Tryz.underlying25
    have Hs := Lib.hid hs
    go_enter Tryz.func80, Tryz.ntmps80
    go_wp2_with (at_builtin; refine wpList_append rfl _ _ _ rfl clone_hashes_el ⟨_, Tryz.underlying25, fun _ h => by cases h⟩ (own_new w #[] 27 32 0 0 [] rfl (Nat.le_refl _) (Nat.zero_le _) (by simp) (by simp)) (Hs.out.ext (F := Nil) ((Ext.refl _ _).alloc _) fun _ _ h => h) rfl rfl (by omega) (by omega) ?_; intro v' w' hA)
    go_ret
    have h1 := hA.own
    rw [Nat.zero_add] at h1
    refine ⟨_, rfl, h1, (((Ext.refl Nil w).alloc (.cells #[] 27)).trans hA.ext ?_), ?_⟩
    · intro k hk h
      have h' : w.heap.size = k := by simpa [Value.ownBlock] using h
      exact absurd hk (by omega)
    · intro b hb
      rcases hA.lies with h | ⟨k, h, h2, _⟩
      · have : w.heap.size = b := by simpa [Value.ownBlock] using h.symm.trans hb
        exact Nat.le_of_eq this
      · have : k = b := by simpa using h.symm.trans hb
        simp at h2
        omega
  · exact absurd rfl (hsl s)
end Go.Proofs.YtggiknehmoaimaaGreatDoor
