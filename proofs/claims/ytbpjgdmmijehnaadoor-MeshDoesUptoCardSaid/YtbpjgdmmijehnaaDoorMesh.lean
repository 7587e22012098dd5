/-
  What a mesh is in memory (IsMesh), its lock, and what becomes of it when one link's row is another one.
-/
import Derived.Test.YtbpjgdmmijehnaaDoorRow
import Derived.Test.YtbpjgdmmijehnaaDoorSeq
import Derived.Test.YtbpjgdmmijehnaaDoorLocks
import Derived.Test.YtbpjgdmmijehnaaDoorRows
import Derived.Conc.MuLone
import Derived.Lib.Hide
namespace Go.Proofs.YtbpjgdmmijehnaaDoor
open Go.RowKit Go.X

abbrev Lk := Int × Int
def kdl (p : Lk) : Value := .agg #[.int .i64 p.1, .int .i64 p.2]
theorem check_link (n : Nat) (e : Bool) (k : Lk) (w : World) : (Instr.checkKey e (n + 2) 68 (kdl k)).run Tryd.prog w = .ok () w := by
  simp [Instr.checkKey, kdl, go_sem]
theorem linkKey : KeyT Tryd.prog 68 kdl where
  desc := ⟨_, Tryd.underlying68, fun k k' => .inl rfl⟩
  check := fun k e w => check_link 9998 e k w
  eq := fun k k' w => by
    simp [Op.equal, Op.maxDepth, kdl, go_sem]
    obtain ⟨a, b⟩ := k
    obtain ⟨c, d⟩ := k'
    by_cases h1 : a = c <;> by_cases h2 : b = d <;> simp [h1, h2]
  bits := fun k => by simp [Instr.sameBits, kdl]
theorem elByte : ElemT Tryd.prog 32 5 1 1 := ⟨Tryd.underlying32, by kernel_rfl, by decide⟩
theorem elBytes : ElemT Tryd.prog 25 32 1 24 := ⟨Tryd.underlying25, by kernel_rfl, by decide⟩
theorem zeroRow (w : World) : (zeroValue 25).run Tryd.prog w = .ok (.slice none 0 0) w := by kernel_rfl

abbrev nilS : Value := .slice none 0 0
def bv (l : List UInt8) : List Value := l.map (fun b => .int .u8 b.toNat)
theorem bv_length (l : List UInt8) : (bv l).length = l.length := by simp [bv]
theorem bv_one (l : List UInt8) : ∀ u ∈ bv l, u.oneCell' = true := by
  intro u hu
  obtain ⟨b, _, rfl⟩ := List.mem_map.1 hu
  rfl
/-- A slice that holds just these bytes, in a row of its own. -/
def MsgIs (w : World) (m : Value) (l : List UInt8) : Prop := Own w m 5 1 l.length (bv l)

/-- The row at a link. -/
def rv (es : List (Ent Lk)) (k : Lk) : Value := (get es k).getD nilS

structure MeshAt (w : World) (a : Nat) (n lk : Int) (R : Lk → List (List UInt8)) (F : Nat → Prop) (q : Int) (mb : Nat) (es : List (Ent Lk)) (ms : Lk → List Value) : Prop where
  cells : w.heap[a]? = some (.cells #[.int .i32 lk, .int .u32 q, .int .i64 n, .map (some mb)] 66 (0, 0))
  map : HasMap w mb kdl es
  row : ∀ k, Own w (rv es k) 32 1 (ms k).length (ms k)
  len : ∀ k, (ms k).length = (R k).length
  msg : ∀ (k : Lk) (i : Nat) (m : Value) (l : List UInt8), (ms k)[i]? = some m → (R k)[i]? = some l → MsgIs w m l
  rowSep : ∀ (k k' : Lk) (b : Nat), (rv es k).ownBlock = some b → (rv es k').ownBlock = some b → k = k'
  msgSep : ∀ (k k' : Lk) (i i' : Nat) (m m' : Value) (b : Nat), (ms k)[i]? = some m → (ms k')[i']? = some m' → m.ownBlock = some b → m'.ownBlock = some b → k = k' ∧ i = i'
  fa : F a
  fm : F mb
  frow : ∀ (k : Lk) (b : Nat), (rv es k).ownBlock = some b → F b
  fmsg : ∀ (k : Lk) (i : Nat) (m : Value) (b : Nat), (ms k)[i]? = some m → m.ownBlock = some b → F b
  bound : ∀ b, F b → b < w.heap.size

/-- Block a is a mesh of n replicas (its lock's word lk), under way are R, its memory is F. -/
def IsMesh (w : World) (a : Nat) (n lk : Int) (R : Lk → List (List UInt8)) (F : Nat → Prop) : Prop := ∃ q mb es ms, MeshAt w a n lk R F q mb es ms

/-- F, and what is new. -/
def Grow (F : Nat → Prop) (w w' : World) (b : Nat) : Prop := F b ∨ (w.heap.size ≤ b ∧ b < w'.heap.size)

section
variable {w w' : World} {a : Nat} {n lk : Int} {R : Lk → List (List UInt8)} {F G : Nat → Prop} {q : Int} {mb : Nat} {es : List (Ent Lk)} {ms : Lk → List Value}

theorem MeshAt.msgE (h : MeshAt w a n lk R F q mb es ms) {k : Lk} {i : Nat} {m : Value} (hm : (ms k)[i]? = some m) : ∃ l, (R k)[i]? = some l ∧ MsgIs w m l := by
  have hi : i < (R k).length := by rw [← h.len k]; exact (List.getElem?_eq_some_iff.1 hm).1
  exact ⟨_, List.getElem?_eq_getElem hi, h.msg k i m _ hm (List.getElem?_eq_getElem hi)⟩
theorem MeshAt.msgTag (h : MeshAt w a n lk R F q mb es ms) {k : Lk} {i : Nat} {m : Value} {b : Nat} (hm : (ms k)[i]? = some m) (hb : m.ownBlock = some b) : ∃ C, w.heap[b]? = some (.cells C 5 (0, 0)) :=
  let ⟨_, _, h2⟩ := h.msgE hm
  Own.tag h2 b hb
theorem MeshAt.rowTag (h : MeshAt w a n lk R F q mb es ms) {k : Lk} {b : Nat} (hb : (rv es k).ownBlock = some b) : ∃ C, w.heap[b]? = some (.cells C 32 (0, 0)) := (h.row k).tag b hb
theorem MeshAt.ne_a_msg (h : MeshAt w a n lk R F q mb es ms) {k : Lk} {i : Nat} {m : Value} {b : Nat} (hm : (ms k)[i]? = some m) (hb : m.ownBlock = some b) : b ≠ a := by
  rintro rfl; obtain ⟨C, hC⟩ := h.msgTag hm hb; rw [h.cells] at hC; cases hC
theorem MeshAt.ne_a_row (h : MeshAt w a n lk R F q mb es ms) {k : Lk} {b : Nat} (hb : (rv es k).ownBlock = some b) : b ≠ a := by
  rintro rfl; obtain ⟨C, hC⟩ := h.rowTag hb; rw [h.cells] at hC; cases hC
theorem MeshAt.ne_m_msg (h : MeshAt w a n lk R F q mb es ms) {k : Lk} {i : Nat} {m : Value} {b : Nat} (hm : (ms k)[i]? = some m) (hb : m.ownBlock = some b) : b ≠ mb := by
  rintro rfl; obtain ⟨C, hC⟩ := h.msgTag hm hb; obtain ⟨c, hc, _⟩ := h.map.heap; rw [hc] at hC; cases hC
theorem MeshAt.ne_m_row (h : MeshAt w a n lk R F q mb es ms) {k : Lk} {b : Nat} (hb : (rv es k).ownBlock = some b) : b ≠ mb := by
  rintro rfl; obtain ⟨C, hC⟩ := h.rowTag hb; obtain ⟨c, hc, _⟩ := h.map.heap; rw [hc] at hC; cases hC
theorem MeshAt.ne_am (h : MeshAt w a n lk R F q mb es ms) : a ≠ mb := by
  rintro rfl; obtain ⟨c, hc, _⟩ := h.map.heap; rw [h.cells] at hc; cases hc
theorem MeshAt.ne_row_msg (h : MeshAt w a n lk R F q mb es ms) {k k' : Lk} {i : Nat} {m : Value} {b : Nat} (hm : (ms k)[i]? = some m) (hb : m.ownBlock = some b) : (rv es k').ownBlock ≠ some b := by
  intro hr; obtain ⟨C, hC⟩ := h.rowTag hr; obtain ⟨D, hD⟩ := h.msgTag hm hb; rw [hC] at hD; cases hD

/-- Where the world turns elsewhere the mesh stays. -/
theorem MeshAt.ext (h : MeshAt w a n lk R F q mb es ms) (hx : Ext G w w') (hn : ∀ b, F b → ¬ G b) : MeshAt w' a n lk R F q mb es ms where
  cells := hx.heap h.cells (hn _ h.fa)
  map := h.map.ext hx (hn _ h.fm)
  row := fun k => (h.row k).ext hx fun b hb => hn b (h.frow k b hb)
  len := h.len
  msg := fun k i m l hm hl => Own.ext (h.msg k i m l hm hl) hx fun b hb => hn b (h.fmsg k i m b hm hb)
  rowSep := h.rowSep
  msgSep := h.msgSep
  fa := h.fa
  fm := h.fm
  frow := h.frow
  fmsg := h.fmsg
  bound := fun b hb => Nat.lt_of_lt_of_le (h.bound b hb) hx.size
theorem IsMesh.ext (h : IsMesh w a n lk R F) (hx : Ext G w w') (hn : ∀ b, F b → ¬ G b) : IsMesh w' a n lk R F :=
  let ⟨q, mb, es, ms, h⟩ := h
  ⟨q, mb, es, ms, h.ext hx hn⟩
theorem IsMesh.bound (h : IsMesh w a n lk R F) : ∀ b, F b → b < w.heap.size := let ⟨_, _, _, _, h⟩ := h; h.bound
theorem IsMesh.fa (h : IsMesh w a n lk R F) : F a := let ⟨_, _, _, _, h⟩ := h; h.fa
theorem MeshAt.wide (h : MeshAt w a n lk R F q mb es ms) (hs : ∀ b, F b → G b) (hb : ∀ b, G b → b < w.heap.size) : MeshAt w a n lk R G q mb es ms :=
  { h with fa := hs _ h.fa, fm := hs _ h.fm, frow := fun k b x => hs _ (h.frow k b x), fmsg := fun k i m b x y => hs _ (h.fmsg k i m b x y), bound := hb }
theorem IsMesh.wide (h : IsMesh w a n lk R F) (hs : ∀ b, F b → G b) (hb : ∀ b, G b → b < w.heap.size) : IsMesh w a n lk R G :=
  let ⟨q, mb, es, ms, h⟩ := h
  ⟨q, mb, es, ms, h.wide hs hb⟩

/-- The lock's word is another one. -/
theorem MeshAt.word (h : MeshAt w a n lk R F q mb es ms) (u : Int) : MeshAt (w.setCell ⟨a, 0, none⟩ (.int .i32 u)) a n u R F q mb es ms := by
  have hx : Ext (fun b => b = a) w (w.setCell ⟨a, 0, none⟩ (.int .i32 u)) := (Ext.refl (fun b => b = a) w).setCell (p := ⟨a, 0, none⟩) (fun _ => rfl) _
  exact
  { cells := by simp [World.setCell, Array.getElem?_modify, h.cells]
    map := h.map.ext hx (Ne.symm h.ne_am)
    row := fun k => (h.row k).ext hx fun b hb => h.ne_a_row hb
    len := h.len
    msg := fun k i m l hm hl => Own.ext (h.msg k i m l hm hl) hx fun b hb => h.ne_a_msg hm hb
    rowSep := h.rowSep
    msgSep := h.msgSep
    fa := h.fa
    fm := h.fm
    frow := h.frow
    fmsg := h.fmsg
    bound := fun b hb => Nat.lt_of_lt_of_le (h.bound b hb) hx.size }

theorem MeshAt.cell (h : MeshAt w a n lk R F q mb es ms) : w.cell? ⟨a, 0, none⟩ = some (.int .i32 lk) ∧ w.cell? ⟨a, 1, none⟩ = some (.int .u32 q) ∧ w.cell? ⟨a, 2, none⟩ = some (.int .i64 n) ∧ w.cell? ⟨a, 3, none⟩ = some (.map (some mb)) ∧
    ∀ o, w.frozen? ⟨a, o, none⟩ = false := by
  refine ⟨?_, ?_, ?_, ?_, fun o => ?_⟩ <;> simp [World.cell?, World.frozen?, h.cells]

/-- What Lock leaves. -/
theorem lock_mesh (h : IsMesh w a n 0 R F) : Calls Tryd.prog 24 #[.pointer (some ⟨a, 0, none⟩)] w fun e w' => e = .returned (.tuple #[]) ∧ IsMesh w' a n 1 R F ∧ Ext F w w' ∧ w'.heap.size = w.heap.size := by
  obtain ⟨q, mb, es, ms, h⟩ := h
  refine (Go.MuLone.lock_free muLib ⟨a, 0, none⟩ w h.cell.1 (h.cell.2.2.2.2 0)).mono ?_
  rintro e w' ⟨rfl, rfl⟩
  exact ⟨rfl, ⟨q, mb, es, ms, h.word 1⟩, (Ext.refl _ w).setCell (fun _ => h.fa) _, by simp⟩
/-- What the deferred Unlock leaves. -/
theorem unlock_mesh (u : FrameMode) (h : IsMesh w a n 1 R F) : CallsD Tryd.prog 25 #[.pointer (some ⟨a, 0, none⟩)] u w fun e u' w' => u' = u ∧ (e = .returned (.tuple #[]) ∧ IsMesh w' a n 0 R F ∧ Ext F w w' ∧ w'.heap.size = w.heap.size) := by
  obtain ⟨q, mb, es, ms, h⟩ := h
  refine (Go.MuLone.unlock_deferred muLib ⟨a, 0, none⟩ u w h.cell.1 (h.cell.2.2.2.2 0)).mono ?_
  rintro e u' w' ⟨rfl, rfl, rfl⟩
  exact ⟨rfl, rfl, ⟨q, mb, es, ms, h.word 0⟩, (Ext.refl _ w).setCell (fun _ => h.fa) _, by simp⟩

/-- A function, but at one place. -/
def upd {β : Type} (f : Lk → β) (k : Lk) (v : β) (j : Lk) : β := if j = k then v else f j

/-- ONE LINK's ROW IS ANOTHER ONE: the new row's messages are old ones of that link, each at most once, or new. -/
theorem MeshAt.turn (h : MeshAt w a n lk R F q mb es ms) {es' : List (Ent Lk)} {k : Lk} {v : Value} {l : List Value} {L : List (List UInt8)}
    (hx : Ext G w w') (hG : ∀ b, G b → b = mb ∨ (rv es k).ownBlock = some b ∨ ∃ (i : Nat) (m : Value), (ms k)[i]? = some m ∧ m.ownBlock = some b)
    (hmap : HasMap w' mb kdl es') (hget : ∀ j, get es' j = if j = k then some v else get es j)
    (hrow : Own w' v 32 1 l.length l) (hlen : l.length = L.length) (hmsg : ∀ (i : Nat) (m : Value) (x : List UInt8), l[i]? = some m → L[i]? = some x → MsgIs w' m x)
    (hrb : ∀ b, v.ownBlock = some b → (rv es k).ownBlock = some b ∨ w.heap.size ≤ b)
    (hmb : ∀ (i : Nat) (m : Value) (b : Nat), l[i]? = some m → m.ownBlock = some b → (∃ (i' : Nat) (m' : Value), (ms k)[i']? = some m' ∧ m'.ownBlock = some b) ∨ w.heap.size ≤ b)
    (hone : ∀ (i i' : Nat) (m m' : Value) (b : Nat), l[i]? = some m → l[i']? = some m' → m.ownBlock = some b → m'.ownBlock = some b → i = i') :
    MeshAt w' a n lk (upd R k L) (Grow F w w') q mb es' (upd ms k l) := by
  have hrv : ∀ j, rv es' j = if j = k then v else rv es j := fun j => by unfold rv; rw [hget]; split <;> rfl
  have hnotA : ¬ G a := fun g => by
    rcases hG a g with e | e | ⟨i, m, hm, e⟩
    · exact h.ne_am e
    · exact h.ne_a_row e rfl
    · exact h.ne_a_msg hm e rfl
  have old : ∀ j, j ≠ k → ∀ b, (rv es j).ownBlock = some b → ¬ G b := fun j hj b hb g => by
    rcases hG b g with e | e | ⟨i, m, hm, e⟩
    · exact h.ne_m_row hb e
    · exact hj (h.rowSep _ _ _ hb e)
    · exact h.ne_row_msg hm e hb
  have oldm : ∀ j, j ≠ k → ∀ (i : Nat) (m : Value) (b : Nat), (ms j)[i]? = some m → m.ownBlock = some b → ¬ G b := fun j hj i m b hm hb g => by
    rcases hG b g with e | e | ⟨i', m', hm', e⟩
    · exact h.ne_m_msg hm hb e
    · exact h.ne_row_msg hm hb e
    · exact hj (h.msgSep _ _ _ _ _ _ _ hm hm' hb e).1
  have rlt : ∀ j b, (rv es j).ownBlock = some b → b < w.heap.size := fun j b hb => (h.row j).lt b hb
  have mlt : ∀ (j : Lk) (i : Nat) (m : Value) (b : Nat), (ms j)[i]? = some m → m.ownBlock = some b → b < w.heap.size := fun j i m b hm hb =>
    let ⟨_, _, h2⟩ := h.msgE hm
    Own.lt h2 b hb
  refine { cells := hx.heap h.cells hnotA, map := hmap, row := ?_, len := ?_, msg := ?_, rowSep := ?_, msgSep := ?_, fa := .inl h.fa, fm := .inl h.fm, frow := ?_, fmsg := ?_, bound := ?_ }
  · intro j
    rw [hrv]; unfold upd
    split
    · exact hrow
    · rename_i hj; exact (h.row j).ext hx (old j hj)
  · intro j
    unfold upd
    split
    · exact hlen
    · exact h.len j
  · intro j i m x hm hl
    unfold upd at hm hl
    split at hm
    · rename_i hj; rw [if_pos hj] at hl; exact hmsg i m x hm hl
    · rename_i hj; rw [if_neg hj] at hl; exact Own.ext (h.msg j i m x hm hl) hx fun b hb => oldm j hj i m b hm hb
  · intro j j' b hb hb'
    rw [hrv] at hb hb'
    split at hb <;> split at hb'
    · simp [*]
    · rename_i e1 e2
      rcases hrb b hb with h1 | h1
      · exact absurd (h.rowSep _ _ _ hb' h1) e2
      · have := rlt j' b hb'; omega
    · rename_i e1 e2
      rcases hrb b hb' with h1 | h1
      · exact absurd (h.rowSep _ _ _ hb h1) e1
      · have := rlt j b hb; omega
    · exact h.rowSep _ _ _ hb hb'
  · intro j j' i i' m m' b hm hm' hb hb'
    unfold upd at hm hm'
    split at hm <;> split at hm'
    · rename_i e1 e2; exact ⟨e1.trans e2.symm, hone i i' m m' b hm hm' hb hb'⟩
    · rename_i e1 e2
      rcases hmb i m b hm hb with ⟨i2, m2, hm2, hb2⟩ | h1
      · exact absurd (h.msgSep _ _ _ _ _ _ _ hm' hm2 hb' hb2).1 e2
      · have := mlt j' i' m' b hm' hb'; omega
    · rename_i e1 e2
      rcases hmb i' m' b hm' hb' with ⟨i2, m2, hm2, hb2⟩ | h1
      · exact absurd (h.msgSep _ _ _ _ _ _ _ hm hm2 hb hb2).1 e1
      · have := mlt j i m b hm hb; omega
    · exact h.msgSep _ _ _ _ _ _ _ hm hm' hb hb'
  · intro j b hb
    rw [hrv] at hb
    split at hb
    · rcases hrb b hb with h1 | h1
      · exact .inl (h.frow _ _ h1)
      · exact .inr ⟨h1, hrow.lt b hb⟩
    · exact .inl (h.frow _ _ hb)
  · intro j i m b hm hb
    unfold upd at hm
    split at hm
    · rcases hmb i m b hm hb with ⟨i2, m2, hm2, hb2⟩ | h1
      · exact .inl (h.fmsg _ _ _ _ hm2 hb2)
      · have hi : i < L.length := by rw [← hlen]; exact (List.getElem?_eq_some_iff.1 hm).1
        exact .inr ⟨h1, Own.lt (hmsg i m _ hm (List.getElem?_eq_getElem hi)) b hb⟩
    · exact .inl (h.fmsg _ _ _ _ hm hb)
  · intro b hb
    rcases hb with hb | hb
    · exact Nat.lt_of_lt_of_le (h.bound b hb) hx.size
    · exact hb.2
end
end Go.Proofs.YtbpjgdmmijehnaaDoor
