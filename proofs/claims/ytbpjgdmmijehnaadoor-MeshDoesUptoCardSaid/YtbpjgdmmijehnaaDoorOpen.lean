/-
  What a reading of an argument says of memory: lists of bytes, lists of such, lists of whatever.
-/
import Derived.Test.YtbpjgdmmijehnaaDoorRow
import Derived.ProofKit
import Derived.ChangeSlices
import Derived.ChangeArms
namespace Go.X
open Go.RowKit Go.ChangeShapes Go.WideShapes

theorem choose_list {α : Type} {p : Nat → α → Prop} : ∀ n, (∀ i, i < n → ∃ x, p i x) → ∃ L : List α, L.length = n ∧ ∀ i x, L[i]? = some x → p i x
  | 0, _ => ⟨[], rfl, fun i x h => by simp at h⟩
  | n + 1, h => by
    obtain ⟨L, h1, h2⟩ := choose_list n fun i hi => h i (by omega)
    obtain ⟨x, hx⟩ := h n (by omega)
    refine ⟨L ++ [x], by simp [h1], fun i y hy => ?_⟩
    by_cases hi : i < n
    · rw [List.getElem?_append_left (by omega)] at hy
      exact h2 i y hy
    · rw [List.getElem?_append_right (by omega), h1] at hy
      have : i - n = 0 := by
        rcases Nat.eq_zero_or_pos (i - n) with h | h
        · exact h
        · rw [List.getElem?_eq_none (by simp; omega)] at hy; cases hy
      rw [this] at hy
      simp only [List.getElem?_cons_zero, Option.some.injEq] at hy
      subst hy
      rwa [show i = n by omega]

/-- A list of bytes that lies in memory: nobody has said whose. -/
def BytesAt (w : World) (v : Value) (l : List UInt8) : Prop :=
  Src w v 1 l.length (bytesV l) ∧ (∃ ad c, v = .slice ad l.length c ∧ l.length ≤ c) ∧ (l ≠ [] → ∀ b, v.ownBlock = some b → b < w.heap.size)

theorem addr_lit {w : World} {a : Addr} {i : Nat} {v : Value} (h : w.cell? (a.add i) = some v) (h0 : a.spot = none) : w.cell? ⟨a.block, a.off + i, none⟩ = some v := by
  obtain ⟨b, o, s⟩ := a
  cases h0
  rwa [add_lit] at h
theorem addr_spot {w : World} {a : Addr} {v : Value} (h : w.cell? (a.add 0) = some v) : a.spot = none := by
  unfold Addr.add at h
  rw [if_pos rfl] at h
  unfold World.cell? at h
  split at h
  · split at h
    · cases h
    · rename_i h1; simpa using h1
  · cases h

section
variable {H : Type} {enc : TypeId × Value → H} {P : Program} {w : World} {held : Bool}

theorem u8_of (n : Int) (h : (Lit.int .u8 n).wf = true) : ((UInt8.ofNat n.toNat).toNat : Int) = n := by
  have h1 : IntKind.u8.min = 0 := rfl
  have h2 : IntKind.u8.max = 255 := rfl
  simp only [Lit.wf, h1, h2, Bool.and_eq_true, decide_eq_true_eq] at h
  rw [UInt8.toNat_ofNat']
  omega

theorem open_bytes {sp : Nat → Bool} {t e : TypeId} {fuel : Nat} {cs : List Value} {x : DataW H × List MemPlace} (ht : P.underlying t = some (.slice e)) (he : P.underlying e = some (.int .u8)) (hc : P.cellsOf e = 1)
    (h : DataW.trod enc P w 0 sp held fuel t cs = some x) :
    ∃ v l, cs = [v] ∧ BytesAt w v l ∧ l.length ≤ maxLen := by
  rcases open_ints ht he hc h with ⟨rfl, rfl⟩ | ⟨a, len, cap, zs, rfl, _, hle, hcap, hz, rfl, hcell, hwf⟩
  · exact ⟨_, [], rfl, ⟨Src.nil w 1, ⟨_, _, rfl, Nat.le_refl _⟩, fun h => absurd rfl h⟩, by simp [maxLen]⟩
  have hlz : len ≤ zs.length := by rw [hz]; split <;> omega
  let l : List UInt8 := (zs.take len).map fun n => UInt8.ofNat n.toNat
  have hl : l.length = len := by simp [l]; omega
  have hcell' : ∀ i, i < len → w.cell? (a.add i) = (bytesV l)[i]? := fun i hi => by
    rw [hcell i (by omega)]
    have hi' : i < zs.length := by omega
    have hw := hwf zs[i] (List.getElem_mem _)
    simp only [bytesV, l, List.getElem?_map, List.getElem?_take]
    rw [if_pos hi, List.getElem?_eq_getElem hi']
    simp only [Option.map_some, u8_of _ hw]
    simp [List.getD, hi']
  refine ⟨_, l, rfl, ⟨⟨by simp [bytesV], fun u hu => ?_, .inr (.inl ⟨a, cap, by rw [hl], fun j u hu => ?_⟩)⟩, ⟨some a, cap, by rw [hl], by omega⟩, fun hne b hb => ?_⟩, by rw [hl]; omega⟩
  · simp only [bytesV, List.mem_map] at hu
    obtain ⟨b, _, rfl⟩ := hu
    rfl
  · have hj : j < len := by
      have := (List.getElem?_eq_some_iff.1 hu).1
      simp [bytesV] at this; omega
    rw [hcell' j hj, hu]
  · have hb' : a.block = b := by simpa [Value.ownBlock] using hb
    have h0 : 0 < len := by rw [← hl]; exact List.length_pos_iff.2 hne
    have := hcell' 0 h0
    rw [List.getElem?_eq_getElem (by simp [bytesV]; omega)] at this
    have := World.block_lt_of_cell? w _ this
    unfold Addr.add at this
    rw [if_pos rfl, hb'] at this
    exact this

/-- Any list: each element's cells and its reading. -/
theorem open_each {sp : Nat → Bool} {t e : TypeId} {fuel : Nat} {cs : List Value} {x : DataW H × List MemPlace} (ht : P.underlying t = some (.slice e)) (h0 : 0 < P.cellsOf e)
    (h : DataW.trod enc P w 0 sp held fuel t cs = some x) :
    ∃ ad len cap m, cs = [.slice ad len cap] ∧ len ≤ maxLen ∧ (len = 0 ∨ ∃ el spare, x.1 = .slice el spare ∧ el.length = len) ∧ ∀ i, i < len → ∃ b o cs' y, ad = some ⟨b, o, none⟩ ∧ cs'.length = P.cellsOf e ∧
      (∀ j, j < P.cellsOf e → w.cell? ⟨b, o + (i * P.cellsOf e + j), none⟩ = cs'[j]?) ∧ DataW.trod enc P w 0 sp held m e cs' = some y := by
  rcases DataW.trod_slice ht h with ⟨rfl, rfl⟩ | ⟨a, len, cap, elems, rest, n, _, rfl, rfl, _, hle, hcap, hlen, hel, _, _⟩
  · exact ⟨_, _, _, 0, rfl, by simp [maxLen], .inl rfl, fun i hi => by omega⟩
  refine ⟨_, _, _, n, rfl, by omega, .inr ⟨_, _, rfl, by simpa using hlen⟩, fun i hi => ?_⟩
  have hi' := hel i hi
  rw [List.getElem?_eq_getElem (by omega), Option.bind_eq_some_iff] at hi'
  obtain ⟨cs', hcs, hy⟩ := hi'
  obtain ⟨_, hl, hc⟩ := World.cells?_some hcs
  have hs : a.spot = none := by
    have h00 := hel 0 (by omega)
    rw [List.getElem?_eq_getElem (by omega), Option.bind_eq_some_iff] at h00
    obtain ⟨cs0, hcs0, _⟩ := h00
    obtain ⟨_, hl0, hc0⟩ := World.cells?_some hcs0
    have := hc0 0 h0
    rw [List.getElem?_eq_getElem (by omega)] at this
    rw [Nat.zero_mul] at this
    have e : (a.add 0).add 0 = a.add 0 := by simp [Addr.add]
    rw [e] at this
    exact addr_spot this
  refine ⟨a.block, a.off, cs', _, by obtain ⟨b, o, s⟩ := a; cases hs; rfl, hl, fun j hj => ?_, hy⟩
  have := hc j hj
  obtain ⟨b, o, s⟩ := a
  cases hs
  rw [add_lit, add_lit] at this
  rw [← this, Nat.add_assoc]

/-- A list of lists of bytes that lies in memory. -/
def ListsAt (w : World) (v : Value) (L : List (List UInt8)) : Prop :=
  ∃ ad cap, v = .slice ad L.length cap ∧ L.length ≤ maxLen ∧ ∀ i l, L[i]? = some l → l.length ≤ maxLen ∧ ∃ b o m, ad = some ⟨b, o, none⟩ ∧ b < w.heap.size ∧ w.cell? ⟨b, o + i, none⟩ = some m ∧ BytesAt w m l

theorem open_lists {sp : Nat → Bool} {t e e2 : TypeId} {fuel : Nat} {cs : List Value} {x : DataW H × List MemPlace} (ht : P.underlying t = some (.slice e)) (hc1 : P.cellsOf e = 1) (he : P.underlying e = some (.slice e2)) (he2 : P.underlying e2 = some (.int .u8)) (hc2 : P.cellsOf e2 = 1)
    (h : DataW.trod enc P w 0 sp held fuel t cs = some x) : ∃ v L, cs = [v] ∧ ListsAt w v L ∧ (L.length = 0 ∨ ∃ el spare, x.1 = .slice el spare ∧ el.length = L.length) := by
  obtain ⟨ad, len, cap, m, rfl, hlen, hd, hel⟩ := open_each ht (by omega) h
  obtain ⟨L, hL, hp⟩ := choose_list (p := fun i (l : List UInt8) => l.length ≤ maxLen ∧ ∃ b o m, ad = some ⟨b, o, none⟩ ∧ b < w.heap.size ∧ w.cell? ⟨b, o + i, none⟩ = some m ∧ BytesAt w m l) len fun i hi => by
    obtain ⟨b, o, cs', y, rfl, hl, hc, hy⟩ := hel i hi
    obtain ⟨v, l, rfl, hb, hm⟩ := open_bytes he he2 hc2 hy
    have h1 := hc 0 (by omega)
    rw [hc1, Nat.mul_one] at h1
    exact ⟨l, hm, b, o, v, rfl, World.block_lt_of_cell? w _ h1, h1, hb⟩
  subst hL
  exact ⟨_, L, rfl, ⟨ad, cap, rfl, hlen, hp⟩, hd⟩

/-- A list of Booleans that lies in memory. -/
def BoolsAt (w : World) (v : Value) (L : List Bool) : Prop :=
  ∃ ad cap, v = .slice ad L.length cap ∧ L.length ≤ maxLen ∧ ∀ i x, L[i]? = some x → ∃ b o, ad = some ⟨b, o, none⟩ ∧ b < w.heap.size ∧ w.cell? ⟨b, o + i, none⟩ = some (.bool x)

theorem open_bools {sp : Nat → Bool} {t e : TypeId} {fuel : Nat} {cs : List Value} {x : DataW H × List MemPlace} (ht : P.underlying t = some (.slice e)) (hc1 : P.cellsOf e = 1) (he : P.underlying e = some .bool)
    (h : DataW.trod enc P w 0 sp held fuel t cs = some x) : ∃ v L, cs = [v] ∧ BoolsAt w v L := by
  obtain ⟨ad, len, cap, m, rfl, hlen, _, hel⟩ := open_each ht (by omega) h
  obtain ⟨L, hL, hp⟩ := choose_list (p := fun i (y : Bool) => ∃ b o, ad = some ⟨b, o, none⟩ ∧ b < w.heap.size ∧ w.cell? ⟨b, o + i, none⟩ = some (.bool y)) len fun i hi => by
    obtain ⟨b, o, cs', y, rfl, hl, hc, hy⟩ := hel i hi
    obtain ⟨v, rfl, _⟩ := DataW.trod_bool he hy
    have h1 := hc 0 (by omega)
    rw [hc1, Nat.mul_one] at h1
    exact ⟨v, b, o, rfl, World.block_lt_of_cell? w _ h1, h1⟩
  subst hL
  exact ⟨_, L, rfl, ad, cap, rfl, hlen, hp⟩
end

section
variable {F : Nat → Prop} {w w' : World} {v : Value}
theorem BytesAt.ext {l : List UInt8} (h : BytesAt w v l) (hx : Ext F w w') (hn : l ≠ [] → ∀ b, v.ownBlock = some b → ¬ F b) : BytesAt w' v l := by
  refine ⟨?_, h.2.1, fun h0 b hb => Nat.lt_of_lt_of_le (h.2.2 h0 b hb) hx.size⟩
  by_cases h0 : l = []
  · subst h0
    refine ⟨h.1.1, h.1.2.1, ?_⟩
    rcases h.1.2.2 with h2 | ⟨a, c, rfl, hc⟩ | h2
    · exact .inl h2
    · exact .inr (.inl ⟨a, c, rfl, fun j u hu => by simp [bytesV] at hu⟩)
    · exact .inr (.inr h2)
  · exact h.1.ext hx (hn h0)
theorem BytesAt.below {l : List UInt8} {B : Nat} (h : BytesAt w v l) (hx : Below B w w') (hn : l ≠ [] → ∀ b, v.ownBlock = some b → b < B) : BytesAt w' v l :=
  h.ext (F := fun b => B ≤ b) ⟨hx.os, hx.tape, hx.output, hx.size, fun k _ hk => hx.block k (by omega)⟩ fun h0 b hb => by have := hn h0 b hb; omega
/-- Its first k bytes. -/
theorem BytesAt.cut {ad : Option Addr} {n c : Nat} {l : List UInt8} (h : BytesAt w (.slice ad n c) l) {k : Nat} (hk : k ≤ l.length) : BytesAt w (cutV ad 1 0 k c) (l.take k) := by
  obtain ⟨⟨_, _, h3⟩, ⟨ad', c', h4, h5⟩, h6⟩ := h
  injection h4 with e1 e2 e3
  subst e1 e2 e3
  have hl : (l.take k).length = k := by simp; omega
  refine ⟨⟨by simp [bytesV], fun u hu => ?_, ?_⟩, ⟨_, _, by unfold cutV; rw [hl]; rfl, by rw [hl]; omega⟩, fun h0 b hb => ?_⟩
  · simp only [bytesV, List.mem_map] at hu
    obtain ⟨b, _, rfl⟩ := hu
    rfl
  · rcases h3 with ⟨h7, h8⟩ | ⟨a, c2, h7, h8⟩ | ⟨s, h7, _⟩
    · injection h7 with e1 e2 e3
      subst e1 e3
      have : k = 0 := by omega
      subst this
      exact .inl ⟨by simp [cutV], by simp⟩
    · injection h7 with e1 e2 e3
      subst e1 e3
      have e0 : (if c = 0 then some a else Option.map (fun x => x.add (0 * 1)) (some a)) = some a := by
        split
        · rfl
        · simp [Addr.add]
      refine .inr (.inl ⟨a, c, by unfold cutV; rw [e0, hl]; rfl, fun j u hu => h8 j u ?_⟩)
      simp only [bytesV, List.getElem?_map, List.getElem?_take] at hu ⊢
      split at hu
      · exact hu
      · simp at hu
    · cases h7
  · refine h6 (fun h => h0 (by rw [h]; simp)) b ?_
    obtain ⟨x, rfl, e⟩ := cutV_block hb
    simp [Value.ownBlock, e]
theorem ListsAt.below {L : List (List UInt8)} (h : ListsAt w v L) (hx : Below w.heap.size w w') : ListsAt w' v L := by
  obtain ⟨ad, cap, h1, h2, h3⟩ := h
  refine ⟨ad, cap, h1, h2, fun i l hi => ?_⟩
  obtain ⟨h4, b, o, m, h5, h6, h7, h8⟩ := h3 i l hi
  exact ⟨h4, b, o, m, h5, Nat.lt_of_lt_of_le h6 hx.size, by rw [hx.cell h6]; exact h7, h8.below hx h8.2.2⟩
end
end Go.X
