/-
  Slices that own their row (Own), what may be appended (Src), and the laws of append, make, slicing, loading and storing.
-/
import Derived.Test.YtggiknehmoaimaaGreatDoorBase
import Derived.Laws.AppendOwn
import Derived.Laws.BytesString
namespace Go.X
open Go.RowKit

/-- A slice type t of elements e, of sz cells and so many bytes each. -/
structure ElemT (P : Program) (t e : TypeId) (sz bytes : Nat) : Prop where
  slice : P.underlying t = some (.slice e)
  info : (P.info? e).map (fun i => (i.zero.map (·.cells.size), i.size, i.bytes)) = some (some sz, sz, bytes)
  pos : 0 < sz

theorem ElemT.parts {P : Program} {t e : TypeId} {sz bytes : Nat} (E : ElemT P t e sz bytes) : ∃ i z, P.info? e = some i ∧ i.zero = some z ∧ z.cells.size = sz ∧ i.size = sz ∧ i.bytes = bytes := by
  have h := E.info
  cases hi : P.info? e with
  | none => simp [hi] at h
  | some i =>
    simp only [hi, Option.map_some, Option.some.injEq, Prod.mk.injEq] at h
    cases hz : i.zero with
    | none => simp [hz] at h
    | some z => exact ⟨i, z, rfl, hz, by simpa [hz] using h.1, h.2.1, h.2.2⟩

/-- v is a slice of n elements of sz cells each, xs all their cells; its room is its own block's. -/
def Own (w : World) (v : Value) (e : TypeId) (sz n : Nat) (xs : List Value) : Prop :=
  xs.length = n * sz ∧ ((v = .slice none 0 0 ∧ n = 0) ∨
    ∃ b o cap C, v = .slice (some ⟨b, o, none⟩) n cap ∧ w.heap[b]? = some (.cells C e (0, 0)) ∧ n ≤ cap ∧ cap ≤ maxLen ∧ o + cap * sz ≤ C.size ∧ ∀ j, j < n * sz → C[o + j]? = xs[j]?)

/-- What may be appended: m elements, news all their cells. -/
def Src (w : World) (x : Value) (sz m : Nat) (news : List Value) : Prop :=
  news.length = m * sz ∧ (∀ u ∈ news, u.oneCell' = true) ∧ ((x = .slice none 0 0 ∧ m = 0) ∨ (∃ a c, x = .slice (some a) m c ∧ ∀ j u, news[j]? = some u → w.cell? (a.add j) = some u) ∨
    (∃ s : ByteArray, x = .string s ∧ sz = 1 ∧ m = s.size ∧ news = s.data.toList.map (fun b => .int .u8 b.toNat)))

section
variable {P : Program} {t e : TypeId} {sz bytes n m : Nat} {w w' : World} {v x : Value} {xs news : List Value}

theorem Src.len (h : Src w x sz m news) : (Builtin.lenOf x).run P w = .ok m w := by
  rcases h.2.2 with ⟨rfl, rfl⟩ | ⟨a, c, rfl, _⟩ | ⟨s, rfl, _, rfl, _⟩ <;> rfl
theorem Src.first (h : Src w x sz m news) : (Builtin.firstCells sz m x).run P w = .ok news.toArray w := by
  rcases h.2.2 with ⟨rfl, rfl⟩ | ⟨a, c, rfl, hc⟩ | ⟨s, rfl, rfl, rfl, hn⟩
  · have : news = [] := List.eq_nil_of_length_eq_zero (by simpa using h.1)
    subst this; simp [Builtin.firstCells]
  · exact run_firstCells_some w sz m a m c news h.1 hc
  · subst hn
    simp only [Builtin.firstCells, Sem.run_pure]
    congr 1
    apply Array.ext'
    simp
theorem Src.drew (h : Src w x sz m news) : Src w.drew x sz m news := h
theorem Src.nil (w : World) (sz : Nat) : Src w (.slice none 0 0) sz 0 [] := ⟨by simp, by simp, .inl ⟨rfl, rfl⟩⟩

theorem Own.nil (w : World) (e : TypeId) (sz : Nat) : Own w (.slice none 0 0) e sz 0 [] := ⟨by simp, .inl ⟨rfl, rfl⟩⟩
theorem Own.ext {F : Nat → Prop} (h : Own w v e sz n xs) (hx : Ext F w w') (hn : ∀ b, v.ownBlock = some b → ¬ F b) : Own w' v e sz n xs := by
  refine ⟨h.1, ?_⟩
  rcases h.2 with h2 | ⟨b, o, cap, C, rfl, hb, r⟩
  · exact .inl h2
  · exact .inr ⟨b, o, cap, C, rfl, hx.heap hb (hn b rfl), r⟩
theorem Own.lt (h : Own w v e sz n xs) : ∀ b, v.ownBlock = some b → b < w.heap.size := by
  intro b hb
  rcases h.2 with ⟨rfl, _⟩ | ⟨b', o, cap, C, rfl, hh, _⟩
  · simp [Value.ownBlock] at hb
  · simp only [Value.ownBlock, Option.some.injEq] at hb
    subst hb; exact lt_of_heap hh
theorem Own.tag (h : Own w v e sz n xs) : ∀ b, v.ownBlock = some b → ∃ C, w.heap[b]? = some (.cells C e (0, 0)) := by
  intro b hb
  rcases h.2 with ⟨rfl, _⟩ | ⟨b', o, cap, C, rfl, hh, _⟩
  · simp [Value.ownBlock] at hb
  · simp only [Value.ownBlock, Option.some.injEq] at hb
    subst hb; exact ⟨C, hh⟩
theorem add_lit (b o j : Nat) : (⟨b, o, none⟩ : Addr).add j = ⟨b, o + j, none⟩ := by
  rw [Addr.add_lit]
theorem Own.shape (h : Own w v e sz n xs) : (v = .slice none 0 0 ∧ n = 0 ∧ xs = []) ∨ ∃ b o cap, v = .slice (some ⟨b, o, none⟩) n cap ∧ n ≤ cap ∧ cap ≤ maxLen ∧ ∀ j u, xs[j]? = some u → w.cell? ⟨b, o + j, none⟩ = some u := by
  rcases h.2 with ⟨rfl, rfl⟩ | ⟨b, o, cap, C, rfl, hb, h1, h2, _, h3⟩
  · exact .inl ⟨rfl, rfl, List.eq_nil_of_length_eq_zero (by simpa using h.1)⟩
  · refine .inr ⟨b, o, cap, rfl, h1, h2, fun j u hu => ?_⟩
    have hj : j < n * sz := by rw [← h.1]; exact (List.getElem?_eq_some_iff.1 hu).1
    rw [cell_of_row w b (o + j) C e (0, 0) hb, h3 j hj, hu]
theorem Own.src (h : Own w v e sz n xs) (h1 : ∀ u ∈ xs, u.oneCell' = true) : Src w v sz n xs := by
  refine ⟨h.1, h1, ?_⟩
  rcases h.shape with ⟨rfl, rfl, _⟩ | ⟨b, o, cap, rfl, _, _, hc⟩
  · exact .inl ⟨rfl, rfl⟩
  · exact .inr (.inl ⟨_, cap, rfl, fun j u hu => by rw [add_lit]; exact hc j u hu⟩)
theorem Src.ext {F : Nat → Prop} (h : Src w x sz m news) (hx : Ext F w w') (hn : ∀ b, x.ownBlock = some b → ¬ F b) : Src w' x sz m news := by
  refine ⟨h.1, h.2.1, ?_⟩
  rcases h.2.2 with h2 | ⟨a, c, rfl, hc⟩ | h2
  · exact .inl h2
  · refine .inr (.inl ⟨a, c, rfl, fun j u hu => hx.cell (hc j u hu) ?_⟩)
    have : (a.add j).block = a.block := by unfold Addr.add; split <;> rfl
    rw [this]; exact hn _ rfl
  · exact .inr (.inr h2)

/-- What an append leaves. -/
structure Appended (w w' : World) (v v' : Value) (e : TypeId) (sz n : Nat) (xs : List Value) : Prop where
  own : Own w' v' e sz n xs
  ext : Ext (fun k => v.ownBlock = some k) w w'
  lies : v'.ownBlock = v.ownBlock ∨ ∃ k, v'.ownBlock = some k ∧ w.heap.size ≤ k ∧ k < w'.heap.size
  nil : v' = .slice none 0 0 → v = .slice none 0 0 ∧ n = 0
  fit : ∀ b o n0 cap, v = .slice (some ⟨b, o, none⟩) n0 cap → n ≤ cap → v' = .slice (some ⟨b, o, none⟩) n cap ∧ w'.heap.size = w.heap.size
  moved : ∀ b o n0 cap, v = .slice (some ⟨b, o, none⟩) n0 cap → cap < n → Ext Nil w w' ∧ ∃ k, v'.ownBlock = some k ∧ w.heap.size ≤ k ∧ k < w'.heap.size

theorem splice_get {C news : List Value} {q j : Nat} (hq : q + news.length ≤ C.length) : (C.take q ++ news ++ C.drop (q + news.length))[j]? = if j < q then C[j]? else if j < q + news.length then news[j - q]? else C[j]? := by
  have h1 : (C.take q).length = q := by simp; omega
  rw [List.append_assoc, List.getElem?_append, h1]
  split
  · rw [List.getElem?_take_of_lt (by omega)]
  · rw [List.getElem?_append]
    split
    · rw [if_pos (by omega)]
    · rw [if_neg (by omega), List.getElem?_drop]
      congr 1; omega

/-- **append** -/
theorem run_append (E : ElemT P t e sz bytes) {u ty : TypeId} (hu : ∃ d, P.underlying u = some d ∧ ∀ k, d ≠ .int k) (ho : Own w v e sz n xs) (hs : Src w x sz m news)
    (hb : (n + m) * bytes ≤ 140737488355328) (hm : n + m ≤ maxLen) :
    ∃ v' w', (Builtin.append_ #[t, u] ty #[v, x]).run P w = .ok v' w' ∧ Appended w w' v v' e sz (n + m) (xs ++ news) := by
  obtain ⟨i, z, hi, hz, hzs, rfl, rfl⟩ := E.parts
  obtain ⟨d, hd, hdi⟩ := hu
  have hlen : (xs ++ news).length = (n + m) * i.size := by rw [List.length_append, ho.1, hs.1, Nat.add_mul]
  have hsmall : n + m ≤ 9223372036854775807 := by simp only [maxLen] at hm; omega
  have first := hs.first (P := P)
  have firstd := hs.drew.first (P := P)
  have len := hs.len (P := P)
  rcases ho.2 with ⟨rfl, rfl⟩ | ⟨b, o, cap, C, rfl, hbk, hnc, hcm, hfit, hget⟩
  · have hx : xs = [] := List.eq_nil_of_length_eq_zero (by simpa using ho.1)
    subst hx
    by_cases hm0 : m = 0
    · subst hm0
      have hn : news = [] := List.eq_nil_of_length_eq_zero (by simpa using hs.1)
      subst hn
      refine ⟨.slice none 0 0, w, ?_, ⟨by simpa using Own.nil w e i.size, Ext.refl _ _, .inl rfl, fun _ => ⟨rfl, rfl⟩, (fun _ _ _ _ h => by cases h), (fun _ _ _ _ h => by cases h)⟩⟩
      simp only [Builtin.append_, List.getElem?_toArray, List.getElem?_cons_zero, List.getElem?_cons_succ, Sem.run_bind, run_underlying E.slice, Result.andThen_ok, sizeOf, typeInfo, run_program, hi, run_underlying hd, Sem.run_pure, Bool.false_eq_true, if_false, len]
      simp [first]
    · have hn : m ≠ 0 := hm0
      have h63' : ¬ (9223372036854775807 < (m : Int)) := by omega
      have h48' : ¬ (281474976710656 < Builtin.nextslicecap m 0 * i.bytes) := by rw [nextslicecap_zero (by omega)]; rw [Nat.zero_add] at hb; omega
      refine ⟨.slice (some ⟨w.heap.size, 0, none⟩) m (grownCap w m 0 e), w.drew.alloc (.cells (news.toArray ++ Builtin.zeroCells z.cells (grownCap w m 0 e - m)) e), ?_, ⟨?_, ?_, ?_, ?_, ?_, ?_⟩⟩
      · simp only [Builtin.append_, List.getElem?_toArray, List.getElem?_cons_zero, List.getElem?_cons_succ, Sem.run_bind, run_underlying E.slice, Result.andThen_ok, sizeOf, typeInfo, run_program, hi, run_underlying hd, Sem.run_pure, Bool.false_eq_true, if_false, len]
        simp [hi, hz, typeInfo, zeroValue, hn, h63', h48', Question.forced, run_firstCells_none, firstd, newRow, grownCap]
      · have hge := grownCap_ge w m 0 e
        refine ⟨by simpa using hlen, .inr ⟨w.heap.size, 0, grownCap w m 0 e, _, by simp, heap_alloc_new w.drew _, ?_, ?_, ?_, ?_⟩⟩
        · simpa using hge
        · have := grownCap_le_maxLen w m 0 e (by simpa using hm); exact this
        · simp only [Array.size_append, List.size_toArray, size_zeroCells, hzs, hs.1, ← Nat.add_mul, Nat.zero_add]
          exact Nat.mul_le_mul_right _ (by omega)
        · intro j hj
          simp only [Nat.zero_add, List.nil_append] at hj ⊢
          rw [Array.getElem?_append_left (by simpa [hs.1] using hj)]
          simp
      · exact ((Ext.refl _ w).drew).alloc _
      · exact .inr ⟨w.heap.size, rfl, Nat.le_refl _, by simp⟩
      · intro h; cases h
      · intro b o n0 cap h; cases h
      · intro b o n0 cap h; cases h
  · by_cases hroom : n + m ≤ cap
    · have hcl : o + n * i.size + news.length ≤ C.size := by
        rw [hs.1]
        have : (n + m) * i.size ≤ cap * i.size := Nat.mul_le_mul_right _ hroom
        rw [Nat.add_mul] at this
        omega
      have hst := run_storeCells_at P b (o + n * i.size) e news 0 C w hbk (by simpa using hcl) hs.2.1
      simp only [Nat.add_zero] at hst
      refine ⟨.slice (some ⟨b, o, none⟩) (n + m) cap, w.setRow b (C.toList.take (o + n * i.size) ++ news ++ C.toList.drop (o + n * i.size + news.length)).toArray, ?_, ⟨?_, ?_, ?_, ?_, ?_, ?_⟩⟩
      · simp only [Builtin.append_, List.getElem?_toArray, List.getElem?_cons_zero, List.getElem?_cons_succ, Sem.run_bind, run_underlying E.slice, Result.andThen_ok, sizeOf, typeInfo, run_program, hi, run_underlying hd, Sem.run_pure, Bool.false_eq_true, if_false, len, hroom, if_true, first, add_lit, hst, Bool.not_false]
      · refine ⟨hlen, .inr ⟨b, o, cap, _, rfl, setRow_heap w b C _ e _ hbk, hroom, hcm, ?_, ?_⟩⟩
        · simp only [List.size_toArray, List.length_append, List.length_take, List.length_drop, Array.length_toList]; omega
        · intro j hj
          rw [List.getElem?_toArray, splice_get (by simpa using hcl), hs.1]
          rw [Nat.add_mul] at hj
          by_cases h1 : j < n * i.size
          · rw [if_pos (by omega), List.getElem?_append_left (by rw [ho.1]; exact h1), ← hget j h1]; simp
          · rw [if_neg (by omega), if_pos (by omega), List.getElem?_append_right (by rw [ho.1]; omega), ho.1]
            congr 1; omega
      · exact (Ext.refl _ w).trans' ⟨rfl, rfl, rfl, by simp [World.setRow], fun k _ hk => setRow_other w b k _ (fun e => hk (by simp [Value.ownBlock, e]))⟩
      · exact .inl rfl
      · intro h; cases h
      · intro b' o' n0 cap' h _
        injection h with e1 _ e3
        injection e1 with e1
        injection e1 with e4 e5
        subst e3 e4 e5
        exact ⟨rfl, by simp [World.setRow]⟩
      · intro b' o' n0 cap' h hlt
        injection h with _ _ e3
        subst e3
        omega
    · have holds : ∀ j u, xs[j]? = some u → w.cell? ((⟨b, o, none⟩ : Addr).add j) = some u := fun j u hu => by
        have hj : j < n * i.size := by rw [← ho.1]; exact (List.getElem?_eq_some_iff.1 hu).1
        rw [add_lit, cell_of_row w b (o + j) C e (0, 0) hbk, hget j hj, hu]
      have hfo := run_firstCells_some (P := P) w.drew i.size n ⟨b, o, none⟩ n cap xs ho.1 (by simpa using holds)
      have h63' : ¬ (9223372036854775807 < ((n : Int) + (m : Int))) := by omega
      have h48' : ¬ (281474976710656 < Builtin.nextslicecap (n + m) cap * i.bytes) := by
        have := growslice_fits (bytes := i.bytes) (show cap < n + m by omega) hb; omega
      have hge := grownCap_ge w (n + m) cap e
      refine ⟨.slice (some ⟨w.heap.size, 0, none⟩) (n + m) (grownCap w (n + m) cap e), w.drew.alloc (.cells ((xs ++ news).toArray ++ Builtin.zeroCells z.cells (grownCap w (n + m) cap e - (n + m))) e), ?_, ⟨?_, ?_, ?_, ?_, ?_, ?_⟩⟩
      · simp only [Builtin.append_, List.getElem?_toArray, List.getElem?_cons_zero, List.getElem?_cons_succ, Sem.run_bind, run_underlying E.slice, Result.andThen_ok, sizeOf, typeInfo, run_program, hi, run_underlying hd, Sem.run_pure, Bool.false_eq_true, if_false, len, hroom]
        simp [hi, hz, typeInfo, zeroValue, h63', h48', Question.forced, hfo, firstd, newRow, grownCap]
        congr 2
        apply Array.ext'
        simp [List.append_assoc]
      · refine ⟨hlen, .inr ⟨w.heap.size, 0, _, _, rfl, heap_alloc_new w.drew _, hge, grownCap_le_maxLen w (n + m) cap e hm, ?_, ?_⟩⟩
        · simp only [Array.size_append, List.size_toArray, size_zeroCells, hzs, hlen, ← Nat.add_mul, Nat.zero_add]
          exact Nat.mul_le_mul_right _ (by omega)
        · intro j hj
          simp only [Nat.zero_add]
          rw [Array.getElem?_append_left (by rw [List.size_toArray, hlen]; exact hj)]
          simp
      · exact ((Ext.refl _ w).drew).alloc _
      · exact .inr ⟨w.heap.size, rfl, Nat.le_refl _, by simp⟩
      · intro h; cases h
      · intro b' o' n0 cap' h hfit
        injection h with _ _ e3
        subst e3
        exact absurd hfit hroom
      · intro _ _ _ _ _ _
        exact ⟨((Ext.refl _ w).drew).alloc _, w.heap.size, rfl, Nat.le_refl _, by simp⟩

/-- append, as an operation of a walk -/
theorem wp_append {o : Oper} {a : Act} {K : Act → World → Prop} {Q : Exit → Act → World → Prop} (s y : Operand) (u : TypeId)
    (hop : o.op = .call { callee := .builtin .append, args := #[s, y], argTypes := #[t, u] }) (E : ElemT P t e sz bytes) (hu : ∃ d, P.underlying u = some d ∧ ∀ k, d ≠ .int k)
    (ho : Own w v e sz n xs) (hs : Src w x sz m news) (hv : a.eval s = v) (hy : a.eval y = x) (hb : (n + m) * bytes ≤ 140737488355328) (hm : n + m ≤ maxLen)
    (h : ∀ v' w', Appended w w' v v' e sz (n + m) (xs ++ news) → K (a.put o.dst v') w') : o.wp P a w K Q := by
  obtain ⟨v', w', hr, hA⟩ := run_append (P := P) (ty := o.type) E hu ho hs hb hm
  unfold Oper.wp execOp
  simp only [hop, resolve, invoke, builtin, Sem.run_bind, Sem.run_pure, Result.andThen_ok, List.map_toArray, List.map_cons, List.map_nil, hv, hy, hr]
  exact h v' w' hA
theorem wpList_append {ops : Array Oper} {rest : List Oper} {o : Oper} {a : Act} {Q : Exit → Act → World → Prop} (hgd : o.guard = none) (s y : Operand) (u : TypeId)
    (hop : o.op = .call { callee := .builtin .append, args := #[s, y], argTypes := #[t, u] }) (E : ElemT P t e sz bytes) (hu : ∃ d, P.underlying u = some d ∧ ∀ k, d ≠ .int k)
    (ho : Own w v e sz n xs) (hs : Src w x sz m news) (hv : a.eval s = v) (hy : a.eval y = x) (hb : (n + m) * bytes ≤ 140737488355328) (hm : n + m ≤ maxLen)
    (h : ∀ v' w', Appended w w' v v' e sz (n + m) (xs ++ news) → wpList P ops Q rest (a.put o.dst v') w') : wpList P ops Q (o :: rest) a w :=
  wpList_plain hgd fun _ hK => wp_append s y u hop E hu ho hs hv hy hb hm fun v' w' hA => hK _ _ (h v' w' hA)

theorem Own.slice (h : Own w v e sz n xs) : ∃ ad c, v = .slice ad n c := by
  rcases h.2 with ⟨rfl, rfl⟩ | ⟨b, o, cap, C, rfl, _⟩
  · exact ⟨_, _, rfl⟩
  · exact ⟨_, _, rfl⟩
theorem Own.slice2 (h : Own w v e sz n xs) : ∃ ad c, v = .slice ad n c ∧ n ≤ c ∧ (0 < n → ∃ x, ad = some x) := by
  rcases h.2 with ⟨rfl, rfl⟩ | ⟨b, o, cap, C, rfl, _, h1, _⟩
  · exact ⟨_, _, rfl, Nat.le_refl _, fun h => by omega⟩
  · exact ⟨_, _, rfl, h1, fun _ => ⟨_, rfl⟩⟩
theorem Own.one (h : Own w v e sz n xs) : v.oneCell' = true := by
  rcases h.2 with ⟨rfl, _⟩ | ⟨b, o, cap, C, rfl, _⟩ <;> rfl
/-- The elements of a new block, for an append. -/
theorem src_new (w : World) (C : List Value) (e : TypeId) (h1 : ∀ u ∈ C, u.oneCell' = true) : Src (w.alloc (.cells C.toArray e)) (.slice (some ⟨w.heap.size, 0, none⟩) C.length C.length) 1 C.length C :=
  ⟨by simp, h1, .inr (.inl ⟨_, _, rfl, fun j u hu => by
    rw [add_lit, cell_of_row _ _ _ _ _ _ (heap_alloc_new w _)]; simpa using hu⟩)⟩

/-- A new block is its slice's own. -/
theorem own_new (w : World) (C : Array Value) (e : TypeId) (sz n cap : Nat) (xs : List Value) (h1 : xs.length = n * sz) (h2 : n ≤ cap) (h3 : cap ≤ maxLen) (h4 : cap * sz ≤ C.size) (h5 : ∀ j, j < n * sz → C[j]? = xs[j]?) :
    Own (w.alloc (.cells C e)) (.slice (some ⟨w.heap.size, 0, none⟩) n cap) e sz n xs :=
  ⟨h1, .inr ⟨_, 0, cap, C, rfl, heap_alloc_new w _, h2, h3, by omega, by simpa using h5⟩⟩

/-- A store at a place (elements of one cell). -/
theorem Own.set {b o cap i : Nat} (h : Own w (.slice (some ⟨b, o, none⟩) n cap) e 1 n xs) (hi : i < n) (u : Value) : Own (w.setCell ⟨b, o + i, none⟩ u) (.slice (some ⟨b, o, none⟩) n cap) e 1 n (xs.set i u) := by
  refine ⟨by rw [List.length_set]; exact h.1, .inr ?_⟩
  rcases h.2 with ⟨hv, _⟩ | ⟨b', o', c, C, hv, hb, h3, h4, h5, h6⟩
  · cases hv
  · injection hv with e1 _ e3
    injection e1 with e1
    injection e1 with e4 e5
    subst e3 e4 e5
    refine ⟨b, o, cap, C.setIfInBounds (o + i) u, rfl, ?_, h3, h4, by simpa using h5, fun j hj => ?_⟩
    · simp [World.setCell, Array.getElem?_modify, hb]
    · rw [Array.getElem?_setIfInBounds, List.getElem?_set]
      have := h6 j hj
      by_cases hij : i = j
      · subst hij
        have h7 : o + i < C.size := by omega
        have h8 : i < xs.length := by rw [h.1]; exact hj
        simp [h7, h8]
      · rw [if_neg (by omega), if_neg hij, this]
theorem Own.frozen {b o cap : Nat} (h : Own w (.slice (some ⟨b, o, none⟩) n cap) e sz m xs) (j : Nat) : w.frozen? ⟨b, j, none⟩ = false := by
  rcases h.2 with ⟨hv, _⟩ | ⟨b', o', c, C, hv, hb, _⟩
  · cases hv
  · injection hv with e1
    injection e1 with e1
    injection e1 with e4
    subst e4
    simp [World.frozen?, hb]

/-- What v[l:h] is. -/
def cutV (ad : Option Addr) (sz l h cap : Nat) : Value := .slice (if cap = l then ad else ad.map (·.add (l * sz))) (h - l) (cap - l)

/-- v[l:h] -/
theorem run_slice (E : ElemT P t e sz bytes) (ad : Option Addr) (n cap l h : Nat) (lo hi : Option Value) (hlo : (lo = none ∧ l = 0) ∨ ∃ k, lo = some (.int k l)) (hhi : (hi = none ∧ h = n) ∨ ∃ k, hi = some (.int k h))
    (h1 : l ≤ h) (h2 : h ≤ cap) (w : World) : (Instr.sliceAt t (.slice ad n cap) lo hi none).run P w = .ok (cutV ad sz l h cap) w := by
  obtain ⟨i, z, hii, hz, hzs, rfl, rfl⟩ := E.parts
  have hb : ∀ (k : IntKind) (a b : Nat) (c : BoundsCode) (w : World), a ≤ b → (Instr.sliceBound (.int k a) b c).run P w = .ok a w := fun k a b c w hab => by
    simp only [Instr.sliceBound, Sem.run_bind]
    show ((asIntOf (.int k a)).run P w).andThen _ = _
    simp [asIntOf]
    omega
  simp only [Instr.sliceAt, Sem.run_bind, run_underlying E.slice, Result.andThen_ok, Instr.slice, Instr.sliceBounds, sizeOf, typeInfo, run_program, hii, Sem.run_pure]
  rcases hlo with ⟨rfl, rfl⟩ | ⟨k1, rfl⟩ <;> rcases hhi with ⟨rfl, rfl⟩ | ⟨k2, rfl⟩ <;> simp [hb, h1, h2, cutV]

theorem exec_slice {o : Oper} {ρ : Operand → Value} {x : Operand} {lo hi : Option Operand} (ho : o.op = .slice t x lo hi none) (E : ElemT P t e sz bytes) {ad : Option Addr} {n cap l h : Nat} (hx : ρ x = .slice ad n cap)
    (hlo : (lo.map ρ = none ∧ l = 0) ∨ ∃ k, lo.map ρ = some (.int k l)) (hhi : (hi.map ρ = none ∧ h = n) ∨ ∃ k, hi.map ρ = some (.int k h)) (h1 : l ≤ h) (h2 : h ≤ cap) (w : World) :
    (execOp ρ o).run P w = .ok (.value (cutV ad sz l h cap)) w := by
  unfold execOp
  rw [ho]
  simp only [Sem.run_bind, hx, Option.map_none]
  rw [run_slice E ad n cap l h _ _ hlo hhi h1 h2 w]
  rfl

theorem Own.cut {ad : Option Addr} {cap l h : Nat} (ho : Own w (.slice ad n cap) e sz n xs) (h1 : l ≤ h) (h2 : h ≤ n) : Own w (cutV ad sz l h cap) e sz (h - l) ((xs.drop (l * sz)).take ((h - l) * sz)) := by
  have hl : l * sz + (h - l) * sz ≤ n * sz := by rw [← Nat.add_mul]; exact Nat.mul_le_mul_right _ (by omega)
  refine ⟨by rw [List.length_take, List.length_drop, ho.1]; omega, ?_⟩
  rcases ho.2 with ⟨hv, rfl⟩ | ⟨b, o, c, C, hv, hb, h3, h4, h5, h6⟩
  · cases hv
    have : l = 0 := by omega
    subst this
    have : h = 0 := by omega
    subst this
    exact .inl ⟨rfl, rfl⟩
  · injection hv with e1 e2 e3
    subst e1 e3
    have hlc : l * sz ≤ cap * sz := Nat.mul_le_mul_right _ (by omega)
    refine .inr ⟨b, (if cap = l then o else o + l * sz), cap - l, C, ?_, hb, by omega, by omega, ?_, ?_⟩
    · unfold cutV
      split <;> simp [add_lit]
    · rw [Nat.sub_mul]
      split
      · subst_vars; omega
      · omega
    · intro j hj
      rw [List.getElem?_take_of_lt hj, List.getElem?_drop]
      have := h6 (l * sz + j) (by omega)
      split
      · rename_i hc
        have : h - l = 0 := by omega
        rw [this] at hj; omega
      · rw [← this]; congr 1; omega
theorem cutV_block {ad : Option Addr} {sz l h cap b : Nat} (hb : (cutV ad sz l h cap).ownBlock = some b) : ∃ x, ad = some x ∧ x.block = b := by
  unfold cutV at hb
  split at hb
  · cases ad with
    | none => simp [Value.ownBlock] at hb
    | some x => exact ⟨x, rfl, by simpa [Value.ownBlock] using hb⟩
  · cases ad with
    | none => simp [Value.ownBlock] at hb
    | some x =>
      refine ⟨x, rfl, ?_⟩
      have : (x.add (l * sz)).block = x.block := by unfold Addr.add; split <;> rfl
      simpa [Value.ownBlock, this] using hb

/-- What a copy into new memory is. -/
def Cloned (w : World) (e : TypeId) (sz m : Nat) (news : List Value) (en : Ending) (w' : World) : Prop :=
  ∃ v', en = .returned v' ∧ Own w' v' e sz m news ∧ Ext Nil w w' ∧ ∀ b, v'.ownBlock = some b → w.heap.size ≤ b

/-- Bytes as the cells of a row. -/
def bytesV (l : List UInt8) : List Value := l.map (fun b => .int .u8 b.toNat)
/-- 'string(b)' -/
theorem run_toString {src dst : TypeId} {se : TypeId} {l : List UInt8} (hsrc : P.underlying src = some (.slice se)) (hse : P.underlying se = some (.int .u8)) (hdst : P.underlying dst = some .string) (h : Src w v 1 l.length (bytesV l)) (hv : ∀ s, v ≠ .string s) :
    (convert src dst v).run P w = .ok (.string ⟨l.toArray⟩) w := by
  have key : (Conv.bytesToString v).run P w = .ok (.string ⟨l.toArray⟩) w := by
    rcases h.2.2 with ⟨rfl, h0⟩ | ⟨a, c, rfl, hc⟩ | ⟨s, rfl, _⟩
    · have : l = [] := List.eq_nil_of_length_eq_zero h0
      subst this; rfl
    · have e1 : bytesV l = (l.map (fun b => (b.toNat : Int))).map (Value.int .u8) := by simp [bytesV]
      have := run_loadCells_list (P := P) w a (bytesV l) hc
      rw [e1, List.length_map, List.length_map] at this
      rw [run_bytesToString w a l.length c _ this]
      congr 2
      have : ∀ (l : List UInt8) (s : ByteArray), (l.map (fun b => (b.toNat : Int))).foldl (fun r n => r.push (UInt8.ofNat n.toNat)) s = ⟨s.data ++ l.toArray⟩ := by
        intro l
        induction l with
        | nil => intro s; simp
        | cons x l ih =>
          intro s
          rw [List.map_cons, List.foldl_cons, ih]
          simp [ByteArray.push]
      rw [this]
      congr 1
      exact Array.empty_append
    · exact absurd rfl (hv s)
  rcases h.2.2 with ⟨rfl, _⟩ | ⟨a, c, rfl, _⟩ | ⟨s, rfl, _⟩
  · simp only [convert, Sem.run_bind, run_underlying hsrc, run_underlying hdst, run_underlying hse, Result.andThen_ok]; exact key
  · simp only [convert, Sem.run_bind, run_underlying hsrc, run_underlying hdst, run_underlying hse, Result.andThen_ok]; exact key
  · exact absurd rfl (hv s)
end
end Go.X
