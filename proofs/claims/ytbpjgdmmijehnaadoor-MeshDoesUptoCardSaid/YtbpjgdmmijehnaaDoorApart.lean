/-
  The book: apart.
-/
import Derived.Test.YtbpjgdmmijehnaaDoorBook
namespace Go.Proofs.YtbpjgdmmijehnaaDoor
open Go.RowKit Go.X

/-- The memory of what came out. -/
def OutB (os : List Out) (b : Nat) : Prop := ∃ x ∈ os, x.1.ownBlock = some b

section
variable {w w' w1 w2 w3 wr wa w5 : World} {bk : Nat} {os : List Out} {q : Int} {vo vw v x1 l l' : Value} {K G : Nat → Prop} {L p : Nat} {m : UInt8}

theorem own_fill {i : Nat} {C : List UInt8} {y : UInt8} {b o cap n : Nat} (h : Own w (.slice (some ⟨b, o, none⟩) n cap) 5 1 n (bv C)) (hi : i < n) :
    Own (w.setCell ⟨b, o + i, none⟩ (.int .u8 y.toNat)) (.slice (some ⟨b, o, none⟩) n cap) 5 1 n (bv (C.set i y)) := by
  have := h.set hi (.int .u8 y.toNat)
  rwa [show (bv C).set i (.int .u8 y.toNat) = bv (C.set i y) by simp [bv, List.map_set]] at this

/-- A list grows in its room, or has moved to new memory. -/
def InPlace (x1 l : Value) (L p : Nat) (w3 : World) : Prop := (∃ ad cap, x1 = .slice ad L cap ∧ l = .slice ad (L + p) cap) ∨ (∀ b, l.ownBlock = some b → w3.heap.size ≤ b)
structure Growing (w3 wr : World) (x1 l : Value) (L p : Nat) (m : UInt8) : Prop where
  own : Own wr l 5 1 (L + p) (bv (List.replicate (L + p) m))
  old : MsgIs wr x1 (List.replicate L m)
  place : InPlace x1 l L p w3
  ext : Ext (fun b => x1.ownBlock = some b) w3 wr
theorem Growing.begin (h : MsgIs w3 x1 (List.replicate L m)) : Growing w3 w3 x1 x1 L 0 m := by
  have h' : Own w3 x1 5 1 L (bv (List.replicate L m)) := by have := h; unfold MsgIs at this; rwa [List.length_replicate] at this
  obtain ⟨ad, c, rfl⟩ := h'.slice
  exact ⟨h', h, .inl ⟨ad, c, rfl, rfl⟩, Ext.refl _ _⟩
theorem Growing.step (h : Growing w3 wr x1 l L p m) (hlt : ∀ b, x1.ownBlock = some b → b < w3.heap.size) (hax : Ext Nil wr wa) (hA : Appended wa w5 l l' 5 1 (L + p + 1) (bv (List.replicate (L + p) m) ++ [.int .u8 m.toNat])) : Growing w3 w5 x1 l' L (p + 1) m := by
  have e1 : bv (List.replicate (L + p) m) ++ [.int .u8 m.toNat] = bv (List.replicate (L + (p + 1)) m) := by
    rw [← Nat.add_assoc, List.replicate_succ']; simp [bv]
  have hown := hA.own
  rw [e1] at hown
  have hs3 := h.ext.size
  have hsa := hax.size
  have hold : MsgIs wa x1 (List.replicate L m) := Own.ext h.old hax fun _ _ h => h
  have hold' : Own wa x1 5 1 L (bv (List.replicate L m)) := by have := hold; unfold MsgIs at this; rwa [List.length_replicate] at this
  have hex : Ext (fun b => x1.ownBlock = some b) w3 wa := h.ext.trans' hax.nilMono
  obtain ⟨adl, cl, rfl⟩ := h.own.slice
  have new : (∀ b, (Value.slice adl (L + p) cl).ownBlock = some b → w3.heap.size ≤ b) → Growing w3 w5 x1 l' L (p + 1) m := fun hnew => by
    have hx : Ext Nil w3 w5 → False ∨ True := fun _ => .inr trivial
    refine ⟨hown, Own.ext hold hA.ext fun b hb e => ?_, .inr ?_, hex.trans hA.ext fun k hk e => ?_⟩
    · have := hnew b e; have := hlt b hb; omega
    · intro b hb
      rcases hA.lies with e | ⟨k, e, hk, _⟩
      · exact hnew b (e.symm.trans hb)
      · rw [e] at hb; injection hb with hb; omega
    · have := hnew k e; omega
  rcases h.place with ⟨ad, cap, ex, el⟩ | hnew
  · injection el with el1 _ el2
    subst el1 el2 ex
    cases adl with
    | none => exact new fun b hb => by cases hb
    | some a =>
      obtain ⟨b, o, s⟩ := a
      have hs : s = none := by
        rcases h.own.2 with ⟨e, _⟩ | ⟨b', o', c', C', e, _⟩
        · cases e
        · injection e with e; injection e with e; injection e
      subst hs
      by_cases hfit : L + p + 1 ≤ cl
      · obtain ⟨rfl, _⟩ := hA.fit b o _ cl rfl hfit
        have hc := hown.cut (l := 0) (h := L) (by omega) (by omega)
        have e2 : cutV (some ⟨b, o, none⟩) 1 0 L cl = .slice (some ⟨b, o, none⟩) L cl := by
          unfold cutV
          simp [add_lit]
        rw [e2] at hc
        have e3 : ((bv (List.replicate (L + (p + 1)) m)).drop (0 * 1)).take ((L - 0) * 1) = bv (List.replicate L m) := by
          simp [bv, List.take_replicate]
        rw [e3] at hc
        refine ⟨hown, ?_, .inl ⟨_, _, rfl, by rw [Nat.add_assoc]⟩, hex.trans' (hA.ext.mono fun k _ e => e)⟩
        show Own _ _ _ _ _ _
        rw [List.length_replicate]
        exact hc
      · obtain ⟨hx, k, hk, hk1, _⟩ := hA.moved b o _ cl rfl (by omega)
        exact ⟨hown, Own.ext hold hx fun _ _ h => h, .inr fun b' hb' => by rw [hk] at hb'; injection hb' with hb'; omega, hex.trans' hx.nilMono⟩
  · exact new hnew
end

/-- All that came out is full of marks. -/
def Full (os : List Out) (w : World) : Prop := ∀ (j : Nat) (x : Out), os[j]? = some x → MsgIs w x.1 (List.replicate x.2.2.length (mk1 j))
def Sep (os : List Out) : Prop := ∀ (i j : Nat) (x y : Out) (b : Nat), os[i]? = some x → os[j]? = some y → x.1.ownBlock = some b → y.1.ownBlock = some b → i = j
structure Longs (os : List Out) (w2 wr : World) (lg : Value) (i : Nat) (lvs : List Value) : Prop where
  own : Own wr lg 32 1 i lvs
  new : ∀ b, lg.ownBlock = some b → w2.heap.size ≤ b
  full : Full os wr
  long : ∀ (j : Nat) (x : Out) (lv : Value), os[j]? = some x → lvs[j]? = some lv → Own wr lv 5 1 (x.2.2.length + 40) (bv (List.replicate (x.2.2.length + 40) (mk1 j)))
  sep : ∀ (j : Nat) (lv : Value) (b : Nat), lvs[j]? = some lv → lv.ownBlock = some b → (∃ x, os[j]? = some x ∧ x.1.ownBlock = some b) ∨ w2.heap.size ≤ b
  ext : Ext (OutB os) w2 wr

section
variable {w2 wr ws wa w6 : World} {os : List Out} {lg lg' l : Value} {i : Nat} {lvs : List Value} {x : Out}
theorem Longs.step (h : Longs os w2 wr lg i lvs) (hi : os[i]? = some x) (hs : Sep os) (hb : ∀ b, OutB os b → b < w2.heap.size) (hil : i < os.length) (hlv : lvs.length = i)
    (g : Growing wr ws x.1 l x.2.2.length 40 (mk1 i)) (hax : Ext Nil ws wa) (hA : Appended wa w6 lg lg' 32 1 (i + 1) (lvs ++ [l])) : Longs os w2 w6 lg' (i + 1) (lvs ++ [l]) := by
  have s1 := h.ext.size
  have s2 := g.ext.size
  have s3 := hax.size
  have outLt : ∀ (j : Nat) (z : Out) b, os[j]? = some z → z.1.ownBlock = some b → b < w2.heap.size := fun j z b hj hz => hb b ⟨z, List.mem_of_getElem? hj, hz⟩
  have lgx : ∀ b, lg.ownBlock = some b → x.1.ownBlock ≠ some b := fun b h1 h2 => by have := h.new b h1; have := outLt i x b hi h2; omega
  have lgA : Own wa lg 32 1 i lvs := (h.own.ext g.ext fun b hb e => lgx b hb e).ext hax fun _ _ h => h
  have notLg : ∀ (lv : Value) (m : Nat) (ys : List Value) b, Own wa lv 5 1 m ys → lv.ownBlock = some b → lg.ownBlock ≠ some b := fun lv m ys b ho h1 h2 => by
    obtain ⟨C, hC⟩ := ho.tag b h1
    obtain ⟨D, hD⟩ := lgA.tag b h2
    rw [hC] at hD; cases hD
  have lA : Own wa l 5 1 (x.2.2.length + 40) (bv (List.replicate (x.2.2.length + 40) (mk1 i))) := g.own.ext hax fun _ _ h => h
  refine ⟨hA.own, fun b hb' => ?_, fun j z hj => ?_, fun j z lv hj hl => ?_, fun j lv b hl hb' => ?_, ?_⟩
  · rcases hA.lies with e | ⟨k, e, hk, _⟩
    · exact h.new b (e.symm.trans hb')
    · rw [e] at hb'; injection hb' with hb'; omega
  · have h1 : MsgIs wa z.1 (List.replicate z.2.2.length (mk1 j)) := by
      by_cases e : j = i
      · subst e
        obtain rfl : z = x := by rw [hi] at hj; simpa using hj.symm
        exact Own.ext g.old hax fun _ _ h => h
      · exact Own.ext (Own.ext (h.full j z hj) g.ext fun b hb1 hb2 => e (hs j i z x b hj hi hb1 hb2)) hax fun _ _ h => h
    exact Own.ext h1 hA.ext fun b hb1 hb2 => notLg _ _ _ b h1 hb1 hb2
  · have h1 : Own wa lv 5 1 (z.2.2.length + 40) (bv (List.replicate (z.2.2.length + 40) (mk1 j))) := by
      by_cases e : j = i
      · subst e
        obtain rfl : z = x := by rw [hi] at hj; simpa using hj.symm
        rw [List.getElem?_append_right (by omega), hlv, Nat.sub_self] at hl
        simp only [List.getElem?_cons_zero, Option.some.injEq] at hl
        subst hl
        exact lA
      · have hlt : j < i := by
          have := (List.getElem?_eq_some_iff.1 hl).1
          rw [List.length_append, hlv] at this
          simp at this; omega
        rw [List.getElem?_append_left (by omega)] at hl
        refine ((h.long j z lv hj hl).ext g.ext fun b hb1 hb2 => ?_).ext hax fun _ _ h => h
        rcases h.sep j lv b hl hb1 with ⟨y, hy, hy2⟩ | h2
        · exact e (hs j i y x b hy hi hy2 hb2)
        · have := outLt i x b hi hb2; omega
    exact h1.ext hA.ext fun b hb1 hb2 => notLg _ _ _ b h1 hb1 hb2
  · by_cases e : j < i
    · rw [List.getElem?_append_left (by omega)] at hl
      exact h.sep j lv b hl hb'
    · have hj : j = i := by
        have := (List.getElem?_eq_some_iff.1 hl).1
        rw [List.length_append, hlv] at this
        simp at this; omega
      subst hj
      rw [List.getElem?_append_right (by omega), hlv, Nat.sub_self] at hl
      simp only [List.getElem?_cons_zero, Option.some.injEq] at hl
      subst hl
      rcases g.place with ⟨ad, cap, e1, e2⟩ | h2
      · exact .inl ⟨x, hi, by rw [e1]; rw [e2] at hb'; cases ad <;> exact hb'⟩
      · have := h2 b hb'; right; omega
  · refine (h.ext.trans' ((g.ext.mono fun k _ hk => ⟨x, List.mem_of_getElem? hi, hk⟩).trans' hax.nilMono)).trans hA.ext fun k hk e => ?_
    have := h.new k e; omega
end
end Go.Proofs.YtbpjgdmmijehnaaDoor
