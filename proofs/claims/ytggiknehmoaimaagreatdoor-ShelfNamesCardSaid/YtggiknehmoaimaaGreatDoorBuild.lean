/-
  Structs that hold a hash: built out of their parts.
-/
import Derived.Test.YtggiknehmoaimaaGreatDoorOf
import Derived.Laws.Tables
namespace Go.X
theorem list_cons {α : Type} {l : List α} {n : Nat} (h : l.length = n + 1) : ∃ x m, l = x :: m ∧ m.length = n := by
  cases l with
  | nil => simp at h
  | cons x m => exact ⟨x, m, rfl, by simpa using h⟩
theorem hash32 {Φ : Bytes → Prop} (H : ∀ x0 x1 x2 x3 x4 x5 x6 x7 x8 x9 x10 x11 x12 x13 x14 x15 x16 x17 x18 x19 x20 x21 x22 x23 x24 x25 x26 x27 x28 x29 x30 x31 : UInt8, Φ [x0, x1, x2, x3, x4, x5, x6, x7, x8, x9, x10, x11, x12, x13, x14, x15, x16, x17, x18, x19, x20, x21, x22, x23, x24, x25, x26, x27, x28, x29, x30, x31]) (l : Bytes) (h : l.length = 32) : Φ l := by
  obtain ⟨x0, l0, rfl, h0⟩ := list_cons h
  obtain ⟨x1, l1, rfl, h1⟩ := list_cons h0
  obtain ⟨x2, l2, rfl, h2⟩ := list_cons h1
  obtain ⟨x3, l3, rfl, h3⟩ := list_cons h2
  obtain ⟨x4, l4, rfl, h4⟩ := list_cons h3
  obtain ⟨x5, l5, rfl, h5⟩ := list_cons h4
  obtain ⟨x6, l6, rfl, h6⟩ := list_cons h5
  obtain ⟨x7, l7, rfl, h7⟩ := list_cons h6
  obtain ⟨x8, l8, rfl, h8⟩ := list_cons h7
  obtain ⟨x9, l9, rfl, h9⟩ := list_cons h8
  obtain ⟨x10, l10, rfl, h10⟩ := list_cons h9
  obtain ⟨x11, l11, rfl, h11⟩ := list_cons h10
  obtain ⟨x12, l12, rfl, h12⟩ := list_cons h11
  obtain ⟨x13, l13, rfl, h13⟩ := list_cons h12
  obtain ⟨x14, l14, rfl, h14⟩ := list_cons h13
  obtain ⟨x15, l15, rfl, h15⟩ := list_cons h14
  obtain ⟨x16, l16, rfl, h16⟩ := list_cons h15
  obtain ⟨x17, l17, rfl, h17⟩ := list_cons h16
  obtain ⟨x18, l18, rfl, h18⟩ := list_cons h17
  obtain ⟨x19, l19, rfl, h19⟩ := list_cons h18
  obtain ⟨x20, l20, rfl, h20⟩ := list_cons h19
  obtain ⟨x21, l21, rfl, h21⟩ := list_cons h20
  obtain ⟨x22, l22, rfl, h22⟩ := list_cons h21
  obtain ⟨x23, l23, rfl, h23⟩ := list_cons h22
  obtain ⟨x24, l24, rfl, h24⟩ := list_cons h23
  obtain ⟨x25, l25, rfl, h25⟩ := list_cons h24
  obtain ⟨x26, l26, rfl, h26⟩ := list_cons h25
  obtain ⟨x27, l27, rfl, h27⟩ := list_cons h26
  obtain ⟨x28, l28, rfl, h28⟩ := list_cons h27
  obtain ⟨x29, l29, rfl, h29⟩ := list_cons h28
  obtain ⟨x30, l30, rfl, h30⟩ := list_cons h29
  obtain ⟨x31, l31, rfl, h31⟩ := list_cons h30
  obtain rfl := List.eq_nil_of_length_eq_zero h31
  exact H x0 x1 x2 x3 x4 x5 x6 x7 x8 x9 x10 x11 x12 x13 x14 x15 x16 x17 x18 x19 x20 x21 x22 x23 x24 x25 x26 x27 x28 x29 x30 x31
end Go.X
namespace Go.Proofs.YtggiknehmoaimaaGreatDoor
open Go Go.RowKit Go.X
def entryC (l : Bytes) (a c : Int) (pv ov : Value) : List Value := bv l ++ [.int .i64 a, .int .i64 c, pv, ov]
def vertexC (l : Bytes) (c : Int) (pv : Value) : List Value := bv l ++ [.int .i64 c, pv]
theorem built_entry (a c : Int) (pv ov : Value) (l : Bytes) (h : l.length = 32) : Tryz.prog.built 87 [(0, av l), (1, .agg #[.int .i64 a, .int .i64 c, pv, ov])] = some (entryC l a c pv ov).toArray :=
  Go.X.hash32 (Φ := fun l => Tryz.prog.built 87 [(0, av l), (1, .agg #[.int .i64 a, .int .i64 c, pv, ov])] = some (entryC l a c pv ov).toArray) (fun x0 x1 x2 x3 x4 x5 x6 x7 x8 x9 x10 x11 x12 x13 x14 x15 x16 x17 x18 x19 x20 x21 x22 x23 x24 x25 x26 x27 x28 x29 x30 x31 => by kernel_rfl) l h
theorem built_vertex (c : Int) (ad : Option Addr) (n k : Nat) (l : Bytes) (h : l.length = 32) : Tryz.prog.built 94 [(0, av l), (1, .int .i64 c), (2, .slice ad n k)] = some (vertexC l c (.slice ad n k)).toArray :=
  Go.X.hash32 (Φ := fun l => Tryz.prog.built 94 [(0, av l), (1, .int .i64 c), (2, .slice ad n k)] = some (vertexC l c (.slice ad n k)).toArray) (fun x0 x1 x2 x3 x4 x5 x6 x7 x8 x9 x10 x11 x12 x13 x14 x15 x16 x17 x18 x19 x20 x21 x22 x23 x24 x25 x26 x27 x28 x29 x30 x31 => by kernel_rfl) l h
theorem run_entry (a c : Int) (pv ov : Value) (l : Bytes) (h : l.length = 32) (w : World) : (Instr.build 87 #[(0, av l), (1, .agg #[.int .i64 a, .int .i64 c, pv, ov])]).run Tryz.prog w = .ok (.agg (entryC l a c pv ov).toArray) w := run_build w _ _ _ (built_entry a c pv ov l h)
theorem run_vertex (c : Int) (ad : Option Addr) (n k : Nat) (l : Bytes) (h : l.length = 32) (w : World) : (Instr.build 94 #[(0, av l), (1, .int .i64 c), (2, .slice ad n k)]).run Tryz.prog w = .ok (.agg (vertexC l c (.slice ad n k)).toArray) w := run_build w _ _ _ (built_vertex c ad n k l h)
theorem entryC_length (l : Bytes) (h : l.length = 32) (a c : Int) (pv ov : Value) : (entryC l a c pv ov).length = 36 := by simp [entryC, bv, h]
theorem vertexC_length (l : Bytes) (h : l.length = 32) (c : Int) (pv : Value) : (vertexC l c pv).length = 34 := by simp [vertexC, bv, h]
theorem vertexC_one (l : Bytes) (c : Int) (pv : Value) (h : pv.oneCell' = true) : ∀ u ∈ vertexC l c pv, u.oneCell' = true := by
  intro u hu
  simp only [vertexC, List.mem_append, List.mem_cons, List.not_mem_nil, or_false] at hu
  rcases hu with hu | rfl | rfl
  · exact bv_one l u hu
  · rfl
  · exact h
theorem entryC_one (l : Bytes) (a c : Int) (pv ov : Value) (h : pv.oneCell' = true) (h2 : ov.oneCell' = true) : ∀ u ∈ entryC l a c pv ov, u.oneCell' = true := by
  intro u hu
  simp only [entryC, List.mem_append, List.mem_cons, List.not_mem_nil, or_false] at hu
  rcases hu with hu | rfl | rfl | rfl | rfl
  · exact bv_one l u hu
  · rfl
  · rfl
  · exact h
  · exact h2
theorem aEntry : AggT Tryz.prog 87 36 := ⟨⟨_, Tryz.underlying87, rfl⟩, by kernel_rfl⟩
theorem aVertex : AggT Tryz.prog 94 34 := ⟨⟨_, Tryz.underlying94, rfl⟩, by kernel_rfl⟩
end Go.Proofs.YtggiknehmoaimaaGreatDoor
