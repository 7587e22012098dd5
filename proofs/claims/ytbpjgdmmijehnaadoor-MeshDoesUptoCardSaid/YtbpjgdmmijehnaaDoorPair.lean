/-
  A mesh and the document's: one after the other they do the same.
-/
import Derived.Test.YtbpjgdmmijehnaaDoorRefH
import Derived.Test.YtbpjgdmmijehnaaDoorSt
namespace Go.Proofs.YtbpjgdmmijehnaaDoor
open Go.RowKit Go.X

/-- The mesh holds R', the document's R. -/
def Half (w : World) (m r : Nat) (n : Int) (R' R : Lk → List (List UInt8)) (F : Nat → Prop) : Prop :=
  ∃ Fm Fr, IsMesh w m n 0 R' Fm ∧ IsRef w r n R Fr ∧ (∀ b, Fm b → ¬ Fr b) ∧ (∀ b, Fm b ∨ Fr b → F b) ∧ ∀ b, F b → b < w.heap.size

/-- What may be under way. -/
def Few (R : Lk → List (List UInt8)) : Prop := ∀ k, (R k).length ≤ 1024 ∧ ∀ l ∈ R k, l.length ≤ 2097194

section
variable {w w' : World} {m r : Nat} {n : Int} {R R' R0 : Lk → List (List UInt8)} {F G : Nat → Prop} {f : FuncId} {args : Array Value} {v : Value}
theorem Half.ext (h : Half w m r n R' R F) (hx : Ext G w w') (hn : ∀ b, F b → ¬ G b) : Half w' m r n R' R F := by
  obtain ⟨Fm, Fr, h1, h2, h3, h4, h5⟩ := h
  exact ⟨Fm, Fr, h1.ext hx fun b hb => hn b (h4 b (.inl hb)), h2.ext hx fun b hb => hn b (h4 b (.inr hb)), h3, h4, fun b hb => Nat.lt_of_lt_of_le (h5 b hb) hx.size⟩
theorem Half.bound (h : Half w m r n R' R F) : ∀ b, F b → b < w.heap.size := let ⟨_, _, _, _, _, _, h⟩ := h; h
theorem Half.grown (h : Half w m r n R' R F) (hx : Ext Nil w w') : Half w' m r n R' R F := h.ext hx fun _ _ h => h
theorem half_mesh (h : Half w m r n R R0 F) (hc : ∀ Fm, IsMesh w m n 0 R Fm → (∀ b, Fm b → F b) → Calls Tryd.prog f args w (Did v w m n R' Fm)) :
    Calls Tryd.prog f args w fun e w' => e = .returned v ∧ Half w' m r n R' R0 (Grow F w w') ∧ Ext F w w' := by
  obtain ⟨Fm, Fr, h1, h2, h3, h4, h5⟩ := h
  refine (hc Fm h1 fun b hb => h4 b (.inl hb)).mono fun e w' ⟨e1, e2, e3⟩ => ⟨e1, ⟨Grow Fm w w', Fr, e2, h2.ext e3 fun b hb hb' => h3 b hb' hb, ?_, ?_, ?_⟩, e3.mono fun b _ hb => h4 b (.inl hb)⟩
  · intro b hb hr
    rcases hb with hb | hb
    · exact h3 b hb hr
    · have := h2.bound b hr; omega
  · intro b hb
    rcases hb with (hb | hb) | hb
    · exact .inl (h4 b (.inl hb))
    · exact .inr hb
    · exact .inl (h4 b (.inr hb))
  · intro b hb
    rcases hb with hb | hb
    · exact Nat.lt_of_lt_of_le (h5 b hb) e3.size
    · exact hb.2
theorem half_ref (h : Half w m r n R' R F) (hc : ∀ Fr, IsRef w r n R Fr → Calls Tryd.prog f args w (DidR v w r n R0 Fr)) :
    Calls Tryd.prog f args w fun e w' => e = .returned v ∧ Half w' m r n R' R0 (Grow F w w') ∧ Ext F w w' := by
  obtain ⟨Fm, Fr, h1, h2, h3, h4, h5⟩ := h
  refine (hc Fr h2).mono fun e w' ⟨e1, e2, e3⟩ => ⟨e1, ⟨Fm, Grow Fr w w', h1.ext e3 fun b hb hb' => h3 b hb hb', e2, ?_, ?_, ?_⟩, e3.mono fun b _ hb => h4 b (.inr hb)⟩
  · intro b hm hb
    rcases hb with hb | hb
    · exact h3 b hm hb
    · have := h1.bound b hm; omega
  · intro b hb
    rcases hb with hb | hb | hb
    · exact .inl (h4 b (.inl hb))
    · exact .inl (h4 b (.inr hb))
    · exact .inr hb
  · intro b hb
    rcases hb with hb | hb
    · exact Nat.lt_of_lt_of_le (h5 b hb) e3.size
    · exact hb.2
theorem half_len (h : Half w m r n R' R F) (x y : Int) :
    Calls Tryd.prog 41 #[.pointer (some ⟨r, 0, none⟩), .int .i64 x, .int .i64 y] w fun e w' => e = .returned (.int .i64 (R (x, y)).length) ∧ w = w' := by
  obtain ⟨Fm, Fr, h1, h2, h3, h4, h5⟩ := h
  exact len_ref h2 x y

/-! ### what stays small -/
theorem few_upd {k : Lk} {L : List (List UInt8)} (h : Few R) (h1 : L.length ≤ 1024) (h2 : ∀ l ∈ L, l.length ≤ 2097194) : Few (upd R k L) := fun j => by
  unfold upd
  split
  · exact ⟨h1, h2⟩
  · exact h j
theorem few_send {k : Lk} {b : List UInt8} (h : Few R) : Few (sendR n R k b) := by
  unfold sendR
  split
  · rename_i e
    unfold sendV at e
    split at e
    · split at e
      · cases e
      · split at e
        · cases e
        · exact few_upd h (by simp; omega) fun l hl => by
            rcases List.mem_append.1 hl with hl | hl
            · exact (h k).2 l hl
            · simp at hl; subst hl; omega
    · cases e
  · exact h
theorem few_drop {k : Lk} {i : Int} (h : Few R) : Few (dropR n R k i) := by
  unfold dropR
  split
  · exact few_upd h (Nat.le_trans (List.length_eraseIdx_le _ _) (h k).1) fun l hl => (h k).2 l (List.mem_of_mem_eraseIdx hl)
  · exact h
theorem few_clear {k : Lk} (h : Few R) : Few (clearR n R k) := by
  unfold clearR
  split
  · exact few_upd h (by simp) fun l hl => by simp at hl
  · exact h
theorem few_set {k : Lk} {i : Nat} {x : List UInt8} (h : Few R) (hx : x.length ≤ 2097194) : Few (upd R k ((R k).set i x)) :=
  few_upd h (by rw [List.length_set]; exact (h k).1) fun l hl => by
    rcases List.mem_or_eq_of_mem_set hl with hl | rfl
    · exact (h k).2 l hl
    · exact hx
theorem getD_few {k : Lk} (h : Few R) (i : Nat) : ((R k).getD i []).length ≤ 2097194 := by
  rw [List.getD_eq_getElem?_getD]
  cases e : (R k)[i]? with
  | none => simp
  | some x => exact (h k).2 x (List.mem_of_getElem? e)
theorem few_flip {k : Lk} {i place : Int} {c : UInt8} (h : Few R) : Few (flipR n R k i place c) := by
  unfold flipR
  split
  · exact few_set h (by simp only [flipB, List.length_set]; exact getD_few h _)
  · exact h
theorem few_clip {k : Lk} {i q : Int} (h : Few R) : Few (clipR n R k i q) := by
  unfold clipR
  split
  · exact few_set h (by unfold clipB; rw [List.length_take]; have := getD_few (k := k) h i.toNat; omega)
  · exact h
theorem few_twice {k : Lk} {i : Int} (h : Few R) : Few (twiceR n R k i) := by
  unfold twiceR
  split
  · rename_i e
    unfold twiceV at e
    split at e
    · split at e
      · cases e
      · exact few_upd h (by simp; omega) fun l hl => by
          rcases List.mem_append.1 hl with hl | hl
          · exact (h k).2 l hl
          · simp only [List.mem_singleton] at hl; subst hl; exact getD_few h _
    · rename_i e' ; exact absurd e e'
  · exact h
theorem few_swap {k : Lk} {i j : Int} (h : Few R) : Few (swapR n R k i j) := by
  unfold swapR
  split
  · refine few_upd h (by rw [swapL_length]; exact (h k).1) fun l hl => ?_
    unfold swapL at hl
    split at hl
    · rename_i a b ha hb
      rcases List.mem_or_eq_of_mem_set hl with hl | rfl
      · rcases List.mem_or_eq_of_mem_set hl with hl | rfl
        · exact (h k).2 l hl
        · exact (h k).2 _ (List.mem_of_getElem? hb)
      · exact (h k).2 _ (List.mem_of_getElem? ha)
    · exact (h k).2 l hl
  · exact h
theorem few_nil : Few fun _ => [] := fun _ => ⟨by simp, fun _ h => by simp at h⟩
theorem few_take {k : Lk} {l : List UInt8} {L : List (List UInt8)} (h : Few R) (e : R k = l :: L) : Few (upd R k L) := few_upd h (by have := (h k).1; rw [e] at this; simp at this; omega) fun x hx => (h k).2 x (by rw [e]; exact .tail _ hx)
end
end Go.Proofs.YtbpjgdmmijehnaaDoor
