/-
  What becomes of a mesh in memory: a row replaced, its messages exchanged, one message another one.
-/
import Derived.Test.YtbpjgdmmijehnaaDoorMeshD
namespace Go.Proofs.YtbpjgdmmijehnaaDoor
open Go.RowKit Go.X

theorem ints_new1 (w : World) (i : Int) : Ints (w.alloc (.cells #[.int .i64 i] 3)) (.slice (some ⟨w.heap.size, 0, none⟩) 1 1) [i] :=
  ⟨_, 1, rfl, fun j x hx => ⟨_, 0, rfl, by
    rw [Nat.zero_add, cell_of_row _ _ _ _ _ _ (heap_alloc_new w _)]
    match j, hx with
    | 0, hx => simpa using hx⟩⟩
theorem ints_new2 (w : World) (i j : Int) : Ints (w.alloc (.cells #[.int .i64 i, .int .i64 j] 3)) (.slice (some ⟨w.heap.size, 0, none⟩) 2 2) [i, j] :=
  ⟨_, 2, rfl, fun k x hx => ⟨_, 0, rfl, by
    rw [Nat.zero_add, cell_of_row _ _ _ _ _ _ (heap_alloc_new w _)]
    match k, hx with
    | 0, hx => simpa using hx
    | 1, hx => simpa using hx⟩⟩

section
variable {w : World} {a : Nat} {n lk : Int} {R : Lk → List (List UInt8)} {F : Nat → Prop} {q : Int} {mb : Nat} {es : List (Ent Lk)} {ms : Lk → List Value}

/-- A message of a link: where its slice stands in the row. -/
theorem MeshAt.elem (h : MeshAt w a n lk R F q mb es ms) {k : Lk} {i : Nat} (hi : i < (R k).length) :
    ∃ rb ro cap m, rv es k = .slice (some ⟨rb, ro, none⟩) (R k).length cap ∧ (R k).length ≤ cap ∧ (ms k)[i]? = some m ∧ w.cell? ⟨rb, ro + i, none⟩ = some m ∧ (∀ j, w.frozen? ⟨rb, j, none⟩ = false) ∧ MsgIs w m ((R k)[i]'hi) := by
  have hi' : i < (ms k).length := by rw [h.len k]; exact hi
  have hm := List.getElem?_eq_getElem hi'
  obtain ⟨l, hl, hmsg⟩ := h.msgE hm
  rw [List.getElem?_eq_getElem hi, Option.some.injEq] at hl
  have hown := h.row k
  rcases hown.shape with ⟨_, h0, _⟩ | ⟨rb, ro, cap, hv, h1, h2, hc⟩
  · omega
  · refine ⟨rb, ro, cap, _, by rw [← h.len k]; exact hv, by rw [← h.len k]; exact h1, hm, hc i _ hm, fun j => ?_, by rw [hl]; exact hmsg⟩
    rw [hv] at hown
    exact hown.frozen j
theorem MeshAt.elem2 (h : MeshAt w a n lk R F q mb es ms) {k : Lk} {i : Nat} (hi : i < (R k).length) :
    ∃ rb ro cap m l, rv es k = .slice (some ⟨rb, ro, none⟩) (R k).length cap ∧ (R k).length ≤ cap ∧ (ms k)[i]? = some m ∧ (R k)[i]? = some l ∧ w.cell? ⟨rb, ro + i, none⟩ = some m ∧ (∀ j, w.frozen? ⟨rb, j, none⟩ = false) ∧ MsgIs w m l :=
  let ⟨rb, ro, cap, m, h1, h2, h3, h4, h5, h6⟩ := h.elem hi
  ⟨rb, ro, cap, m, _, h1, h2, h3, List.getElem?_eq_getElem hi, h4, h5, h6⟩
theorem MeshAt.get_some (h : MeshAt w a n lk R F q mb es ms) {k : Lk} (hi : 0 < (R k).length) : get es k = some (rv es k) := by
  unfold rv
  cases hg : get es k with
  | some v => rfl
  | none =>
    have := (h.row k).1
    have hr : rv es k = nilS := by unfold rv; rw [hg]; rfl
    rcases (h.row k).2 with ⟨_, h0⟩ | ⟨b, o, cap, C, hv, _⟩
    · rw [h.len k] at h0; omega
    · rw [hr] at hv; cases hv

/-- The row at a link is a new one: the messages from number d on. -/
theorem MeshAt.replaced {w5 w6 : World} {es1 : List (Ent Lk)} {k : Lk} {v' : Value} {d : Nat}
    (h : MeshAt w a n lk R F q mb es ms) (hx : Ext Nil w w5) (h6 : Stored w5 w6 mb kdl es es1 k v') (hrow : Own w5 v' 32 1 ((ms k).length - d) ((ms k).drop d)) (hnew : ∀ b, v'.ownBlock = some b → w.heap.size ≤ b) :
    MeshAt w6 a n lk (upd R k ((R k).drop d)) (Grow F w w6) q mb es1 (upd ms k ((ms k).drop d)) ∧ Ext F w w6 := by
  have hG : Ext (fun x => x = mb) w w6 := (hx.nilMono).trans h6.ext fun _ _ e => e
  have hmlt := h.map.lt
  refine ⟨h.turn hG (fun x hx => .inl hx) h6.has h6.get ?_ (by simp [h.len k]) ?_ ?_ ?_ ?_, hG.mono fun k _ e => e ▸ h.fm⟩
  · rw [List.length_drop]
    exact hrow.ext h6.ext fun b hb e => by have := hnew b hb; omega
  · intro i m x hm hxx
    rw [List.getElem?_drop] at hm hxx
    exact Own.ext (h.msg k _ m x hm hxx) hG fun b hb e => h.ne_m_msg hm hb e
  · exact fun b hb => .inr (hnew b hb)
  · intro i m b hm hb
    rw [List.getElem?_drop] at hm
    exact .inl ⟨_, m, hm, hb⟩
  · intro i i' m m' b hm hm' hb hb'
    rw [List.getElem?_drop] at hm hm'
    have := (h.msgSep _ _ _ _ _ _ _ hm hm' hb hb').2
    omega

/-- The messages of a link stand otherwise in the same row: l, each of them an old one, none twice. -/
theorem MeshAt.shuffled {w6 : World} {k : Lk} {l : List Value} {L : List (List UInt8)}
    (h : MeshAt w a n lk R F q mb es ms) (h0 : 0 < (R k).length) (hx : Ext (fun x => (rv es k).ownBlock = some x) w w6) (hrow : Own w6 (rv es k) 32 1 l.length l) (hlen : l.length = L.length)
    (hel : ∀ (i : Nat) (m : Value) (x : List UInt8), l[i]? = some m → L[i]? = some x → (m.ownBlock = none ∧ MsgIs w m x) ∨ ∃ (j : Nat) (m' : Value), (ms k)[j]? = some m' ∧ m.ownBlock = m'.ownBlock ∧ MsgIs w m x)
    (hone : ∀ (i i' : Nat) (m m' : Value) (b : Nat), l[i]? = some m → l[i']? = some m' → m.ownBlock = some b → m'.ownBlock = some b → i = i') :
    MeshAt w6 a n lk (upd R k L) (Grow F w w6) q mb es (upd ms k l) ∧ Ext F w w6 := by
  have el : ∀ (i : Nat) (m : Value), l[i]? = some m → ∃ x, L[i]? = some x := fun i m hm => by
    have hi : i < L.length := by rw [← hlen]; exact (List.getElem?_eq_some_iff.1 hm).1
    exact ⟨_, List.getElem?_eq_getElem hi⟩
  refine ⟨h.turn hx (fun x hx => .inr (.inl hx)) (h.map.ext hx fun e => h.ne_m_row e rfl) (fun j => ?_) hrow hlen ?_ (fun b hb => .inl hb) ?_ hone, hx.mono fun b _ e => h.frow _ _ e⟩
  · split
    · rename_i e; rw [e]; exact h.get_some h0
    · rfl
  · intro i m x hm hxx
    rcases hel i m x hm hxx with ⟨hb, hmsg⟩ | ⟨j, m', hm', hb, hmsg⟩
    · exact Own.ext hmsg hx fun b hb' => by rw [hb] at hb'; cases hb'
    · exact Own.ext hmsg hx fun b hb' e => h.ne_row_msg hm' (hb ▸ hb') e
  · intro i m b hm hb
    obtain ⟨x, hxx⟩ := el i m hm
    rcases hel i m x hm hxx with ⟨hb', _⟩ | ⟨j, m', hm', hb', _⟩
    · rw [hb'] at hb; cases hb
    · exact .inl ⟨j, m', hm', hb' ▸ hb⟩

/-- .. number i is what number σ i was, or a part of it. -/
theorem MeshAt.moved {w6 : World} {k : Lk} {l : List Value} {L : List (List UInt8)} (σ : Nat → Nat) (hσ : ∀ i i', σ i = σ i' → i = i')
    (h : MeshAt w a n lk R F q mb es ms) (h0 : 0 < (R k).length) (hx : Ext (fun x => (rv es k).ownBlock = some x) w w6) (hrow : Own w6 (rv es k) 32 1 l.length l) (hlen : l.length = L.length)
    (hel : ∀ (i : Nat) (m : Value) (x : List UInt8), l[i]? = some m → L[i]? = some x → ∃ m', (ms k)[σ i]? = some m' ∧ m.ownBlock = m'.ownBlock ∧ MsgIs w m x) :
    MeshAt w6 a n lk (upd R k L) (Grow F w w6) q mb es (upd ms k l) ∧ Ext F w w6 := by
  have el : ∀ (i : Nat) (m : Value), l[i]? = some m → ∃ x, L[i]? = some x := fun i m hm => by
    have hi : i < L.length := by rw [← hlen]; exact (List.getElem?_eq_some_iff.1 hm).1
    exact ⟨_, List.getElem?_eq_getElem hi⟩
  refine h.shuffled h0 hx hrow hlen (fun i m x hm hxx => .inr ?_) fun i i' m m' b hm hm' hb hb' => ?_
  · obtain ⟨m', h1, h2⟩ := hel i m x hm hxx
    exact ⟨_, m', h1, h2⟩
  · obtain ⟨x, hxx⟩ := el i m hm
    obtain ⟨x', hxx'⟩ := el i' m' hm'
    obtain ⟨u, h1, h2, _⟩ := hel i m x hm hxx
    obtain ⟨u', h1', h2', _⟩ := hel i' m' x' hm' hxx'
    exact hσ i i' (h.msgSep _ _ _ _ _ _ _ h1 h1' (h2 ▸ hb) (h2' ▸ hb')).2

/-- One message's bytes are others. -/
theorem MeshAt.spoilt {w6 : World} {k : Lk} {i : Nat} {m : Value} {x : List UInt8}
    (h : MeshAt w a n lk R F q mb es ms) (hm : (ms k)[i]? = some m) (hx : Ext (fun b => m.ownBlock = some b) w w6) (hmsg : MsgIs w6 m x) :
    MeshAt w6 a n lk (upd R k ((R k).set i x)) (Grow F w w6) q mb es (upd ms k (ms k)) ∧ Ext F w w6 := by
  have hi : i < (R k).length := by rw [← h.len k]; exact (List.getElem?_eq_some_iff.1 hm).1
  refine ⟨h.turn hx (fun b hb => .inr (.inr ⟨i, m, hm, hb⟩)) (h.map.ext hx fun e => h.ne_m_msg hm e rfl) (fun j => ?_) ((h.row k).ext hx fun b hb e => h.ne_row_msg hm e hb) (by simp [h.len k]) ?_ (fun b hb => .inl hb)
    (fun i' m' b hm' hb => .inl ⟨i', m', hm', hb⟩) (fun i1 i2 m1 m2 b h1 h2 b1 b2 => (h.msgSep _ _ _ _ _ _ _ h1 h2 b1 b2).2), hx.mono fun b _ e => h.fmsg _ _ _ _ hm e⟩
  · split
    · rename_i e; rw [e]; exact h.get_some (by omega)
    · rfl
  · intro i' m' x' hm' hx'
    rw [List.getElem?_set] at hx'
    split at hx'
    · rename_i e
      subst e
      try rw [if_pos hi] at hx'
      rw [Option.some.injEq] at hx'
      subst hx'
      rw [hm, Option.some.injEq] at hm'
      subst hm'
      exact hmsg
    · rename_i e
      exact Own.ext (h.msg k i' m' x' hm' hx') hx fun b hb e2 => e (h.msgSep _ _ _ _ _ _ _ hm hm' e2 hb).2
end
end Go.Proofs.YtbpjgdmmijehnaaDoor
