/-
  MeshRow: the state of its loop, and the calls in it.
-/
import Derived.Test.YtbpjgdmmijehnaaDoorSt
namespace Go.Proofs.YtbpjgdmmijehnaaDoor
open Go Go.RowKit Go.X Go.ChangeShapes Go.WideShapes

/-- The state, as far as the row of one link is asked. -/
def St3 (W : World) (a : Nat) (Q : List (List UInt8)) (outs : List (Value × List UInt8)) (w : World) : Prop :=
  ∃ R, R (2, 3) = Q ∧ (∀ k, (R k).length ≤ 1024) ∧ St W a 3 R outs w

def rowV (Q : List (List UInt8)) (l : List UInt8) : Int := if (2097194 : Int) < l.length then 4 else if Q.length = 1024 then 3 else 0

section
variable {W w w' : World} {a : Nat} {outs : List (Value × List UInt8)} {Q : List (List UInt8)} {idle : Value}
theorem upd_here {β : Type} (f : Lk → β) (k : Lk) (v : β) : upd f k v k = v := if_pos rfl
theorem upd_other {β : Type} (f : Lk → β) {k j : Lk} (v : β) (h : j ≠ k) : upd f k v j = f j := if_neg h
theorem sendR_le {n : Int} {R : Lk → List (List UInt8)} (h : ∀ k, (R k).length ≤ 1024) (k : Lk) (l : List UInt8) : ∀ j, (sendR n R k l j).length ≤ 1024 := fun j => by
  unfold sendR
  split
  · rename_i h0
    unfold upd
    split
    · have : (R k).length < 1024 := by
        unfold sendV at h0
        split at h0
        · split at h0
          · cases h0
          · split at h0
            · cases h0
            · omega
        · cases h0
      simp; omega
    · exact h j
  · exact h j
theorem sendR_other {n : Int} {R : Lk → List (List UInt8)} (k : Lk) (l : List UInt8) {j : Lk} (hj : j ≠ k) : sendR n R k l j = R j := by
  unfold sendR
  split
  · exact upd_other _ _ hj
  · rfl

theorem send_q (h : St3 W a Q outs w) (v : Value) (l : List UInt8) (hv : (v, l) ∈ outs) :
    Calls Tryd.prog 9 #[.pointer (some ⟨a, 0, none⟩), .int .i64 2, .int .i64 3, v] w fun e w' => e = .returned (.int .i64 (rowV Q l)) ∧ St3 W a (if rowV Q l = 0 then Q ++ [l] else Q) outs w' := by
  obtain ⟨R, rfl, hle, h⟩ := h
  refine (send_st h 2 3 v l hv).mono fun e w' ⟨h1, h2⟩ => ?_
  have e0 : sendV 3 R (2, 3) l = rowV (R (2, 3)) l := by
    have := hle (2, 3)
    unfold sendV rowV
    rw [if_pos (by decide)]
    split <;> split <;> first | rfl | omega | (split <;> first | rfl | omega)
  rw [e0] at h1
  refine ⟨h1, _, ?_, sendR_le hle _ _, h2⟩
  unfold sendR
  rw [e0]
  split
  · rw [upd_here]
  · rfl
theorem send_o (h : St3 W a Q outs w) (x y : Int) (hne : (2, 3) ≠ (x, y)) (v : Value) (l : List UInt8) (hv : (v, l) ∈ outs) :
    Calls Tryd.prog 9 #[.pointer (some ⟨a, 0, none⟩), .int .i64 x, .int .i64 y, v] w fun e w' => ∃ c, e = .returned (.int .i64 c) ∧ St3 W a Q outs w' := by
  obtain ⟨R, rfl, hle, h⟩ := h
  exact (send_st h x y v l hv).mono fun e w' ⟨h1, h2⟩ => ⟨_, h1, _, sendR_other _ _ hne, sendR_le hle _ _, h2⟩
theorem take_o (h : St3 W a Q outs w) (hi : IdleAt W idle) (x y : Int) (hne : (2, 3) ≠ (x, y)) :
    Calls Tryd.prog 10 #[.pointer (some ⟨a, 0, none⟩), .int .i64 x, .int .i64 y] w fun e w' => ∃ u v, e = .returned (.tuple #[u, v]) ∧ St3 W a Q outs w' := by
  obtain ⟨R, rfl, hle, h⟩ := h
  refine (take_st h hi x y (hle _)).mono fun e w' h1 => ?_
  unfold TookS at h1
  split at h1
  · cases hR : R (x, y) with
    | nil => rw [hR] at h1; exact ⟨_, _, h1.1, _, rfl, hle, h1.2⟩
    | cons l L =>
      rw [hR] at h1
      obtain ⟨ad, c, h2, h3⟩ := h1
      refine ⟨_, _, h2, _, upd_other _ _ hne, fun k => ?_, h3.less fun z hz => .tail _ hz⟩
      unfold upd
      split
      · have := hle (x, y); rw [hR] at this; simp at this; omega
      · exact hle k
  · exact ⟨_, _, h1.1, _, rfl, hle, h1.2⟩
theorem take_q {l : List UInt8} (h : St3 W a (l :: Q) outs w) (hi : IdleAt W idle) :
    Calls Tryd.prog 10 #[.pointer (some ⟨a, 0, none⟩), .int .i64 2, .int .i64 3] w fun e w' => ∃ ad c, e = .returned (.tuple #[.slice ad l.length c, .nilIface]) ∧ St3 W a Q ((.slice ad l.length c, l) :: outs) w' := by
  obtain ⟨R, hR, hle, h⟩ := h
  refine (take_some h hi 2 3 (hle _) (by decide) hR).mono fun e w' ⟨ad, c, h1, h2⟩ => ⟨ad, c, h1, _, upd_here _ _ _, fun k => ?_, h2⟩
  unfold upd
  split
  · have := hle (2, 3); rw [hR] at this; simp at this; omega
  · exact hle k
theorem take_e (h : St3 W a [] outs w) (hi : IdleAt W idle) :
    Calls Tryd.prog 10 #[.pointer (some ⟨a, 0, none⟩), .int .i64 2, .int .i64 3] w fun e w' => e = .returned (.tuple #[nilS, idle]) ∧ St3 W a [] outs w' := by
  obtain ⟨R, hR, hle, h⟩ := h
  exact (take_none h hi 2 3 (by decide) hR).mono fun e w' ⟨h1, h2⟩ => ⟨h1, _, hR, hle, h2⟩
theorem len_q (h : St3 W a Q outs w) :
    Calls Tryd.prog 12 #[.pointer (some ⟨a, 0, none⟩), .int .i64 2, .int .i64 3] w fun e w' => e = .returned (.int .i64 Q.length) ∧ St3 W a Q outs w' := by
  obtain ⟨R, rfl, hle, h⟩ := h
  exact (len_st h 2 3).mono fun e w' ⟨h1, h2⟩ => ⟨h1, _, rfl, hle, h2⟩
theorem St3.at (h : St3 W a Q outs w) {x : Value × List UInt8} (hx : x ∈ outs) : BytesAt w x.1 x.2 := let ⟨_, _, _, h⟩ := h; h.at hx
theorem St3.ext (h : St3 W a Q outs w) : Ext Nil W w := let ⟨_, _, _, h⟩ := h; h.ext
theorem St3.below (h : St3 W a Q outs w) : Below W.heap.size W w := let ⟨_, _, _, h⟩ := h; h.below
theorem St3.old (h : St3 W a Q outs w) {x : Value} {l : List UInt8} (hx : BytesAt W x l) : St3 W a Q ((x, l) :: outs) w := let ⟨R, h1, h2, h⟩ := h; ⟨R, h1, h2, h.old hx⟩
theorem St3.less (h : St3 W a Q outs w) {outs' : List (Value × List UInt8)} (hs : ∀ x ∈ outs', x ∈ outs) : St3 W a Q outs' w := let ⟨R, h1, h2, h⟩ := h; ⟨R, h1, h2, h.less hs⟩
end
end Go.Proofs.YtbpjgdmmijehnaaDoor
