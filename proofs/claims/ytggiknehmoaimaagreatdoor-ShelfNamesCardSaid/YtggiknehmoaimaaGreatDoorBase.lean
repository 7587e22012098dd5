/-
  Plain laws over any program: how the world may turn between two moments (Ext), what a map holds (HasMap), and what the operations on maps do to it.
-/
import Derived.WalkKit
import Derived.WalkSpells
import Derived.WalkLawsBesides
import Derived.BigQuiet
namespace Go.X
open Go.RowKit

/-- Outside the blocks of F nothing that was there has turned; what is new is new. -/
structure Ext (F : Nat → Prop) (w w' : World) : Prop where
  os : w'.os = w.os
  tape : w'.tape = w.tape
  output : w'.output = w.output
  size : w.heap.size ≤ w'.heap.size
  block : ∀ k, k < w.heap.size → ¬ F k → w'.heap[k]? = w.heap[k]?

def Nil : Nat → Prop := fun _ => False

namespace Ext
variable {F G : Nat → Prop} {a b c w w' : World}
theorem refl (F : Nat → Prop) (w : World) : Ext F w w := ⟨rfl, rfl, rfl, Nat.le_refl _, fun _ _ _ => rfl⟩
theorem mono (h : Ext F a b) (hs : ∀ k, k < a.heap.size → F k → G k) : Ext G a b :=
  ⟨h.os, h.tape, h.output, h.size, fun k hk hn => h.block k hk fun hf => hn (hs k hk hf)⟩
theorem trans (h : Ext F a b) (k : Ext G b c) (hs : ∀ k, k < a.heap.size → G k → F k) : Ext F a c :=
  ⟨k.os.trans h.os, k.tape.trans h.tape, k.output.trans h.output, Nat.le_trans h.size k.size,
   fun i hi hn => (k.block i (Nat.lt_of_lt_of_le hi h.size) fun hg => hn (hs i hi hg)).trans (h.block i hi hn)⟩
theorem trans' (h : Ext F a b) (k : Ext F b c) : Ext F a c := h.trans k fun _ _ h => h
theorem drew (h : Ext F a w) : Ext F a w.drew := ⟨h.os, h.tape, h.output, h.size, h.block⟩
theorem drewN (h : Ext F a w) (n : Nat) : Ext F a (w.drewN n) := h.trans' ⟨rfl, rfl, rfl, Nat.le_refl _, fun _ _ _ => rfl⟩
theorem alloc (h : Ext F a w) (o : Obj) : Ext F a (w.alloc o) :=
  h.trans' ⟨rfl, rfl, rfl, by simp, fun k hk _ => Below.heap_alloc _ _ _ hk⟩
theorem setCell (h : Ext F a w) {p : Addr} (hp : p.block < a.heap.size → F p.block) (u : Value) : Ext F a (w.setCell p u) :=
  h.trans (G := fun k => k = p.block) ⟨rfl, rfl, rfl, by simp [World.setCell], fun k _ hn => Below.heap_setCell _ _ _ _ hn⟩ fun k hk e => by subst e; exact hp hk
theorem below (h : Ext F w w') {B : Nat} (hB : B ≤ w.heap.size) (hF : ∀ k, F k → B ≤ k) : Below B w w' :=
  ⟨h.os, h.tape, h.output, h.size, fun k hk => h.block k (by omega) fun hf => by have := hF k hf; omega⟩
theorem of_below (h : Below w.heap.size w w') : Ext F w w' := ⟨h.os, h.tape, h.output, h.size, fun k hk _ => h.block k hk⟩
theorem heap {x : Obj} (h : Ext F w w') {k : Nat} (hk : w.heap[k]? = some x) (hn : ¬ F k) : w'.heap[k]? = some x :=
  (h.block k (Array.getElem?_eq_some_iff.1 hk).1 hn).trans hk
theorem cell (h : Ext F w w') {p : Addr} {v : Value} (hc : w.cell? p = some v) (hn : ¬ F p.block) : w'.cell? p = some v :=
  (World.cell?_of_block (h.block p.block (World.block_lt_of_cell? w p hc) hn)).trans hc
theorem nilMono (h : Ext Nil w w') : Ext F w w' := h.mono fun _ _ h => h.elim
end Ext

theorem lt_of_heap {w : World} {k : Nat} {x : Obj} (h : w.heap[k]? = some x) : k < w.heap.size := (Array.getElem?_eq_some_iff.1 h).1

/-! ### one block turned -/
def _root_.Go.World.setObj (w : World) (b : Nat) (o : Obj) : World := { w with heap := w.heap.setIfInBounds b o }
section
variable {w : World} {b k : Nat} {o : Obj}
@[simp] theorem size_setObj : (w.setObj b o).heap.size = w.heap.size := by simp [World.setObj]
theorem heap_setObj_same (h : b < w.heap.size) : (w.setObj b o).heap[b]? = some o := by simp [World.setObj, h]
theorem heap_setObj_other (h : k ≠ b) : (w.setObj b o).heap[k]? = w.heap[k]? := by
  simp only [World.setObj]; rw [Array.getElem?_setIfInBounds_ne (Ne.symm h)]
theorem Ext.setObj {F : Nat → Prop} {a : World} (h : Ext F a w) (hp : b < a.heap.size → F b) (o : Obj) : Ext F a (w.setObj b o) :=
  h.trans (G := fun k => k = b) ⟨rfl, rfl, rfl, by simp, fun k _ hn => heap_setObj_other hn⟩ fun k hk e => by subst e; exact hp hk
theorem run_getObj {P : Program} (h : w.heap[b]? = some o) (hn : ∀ c e f, o ≠ .cells c e f) : (getObj b).run P w = .ok o w := by
  unfold getObj Sem.run
  rw [h]
  cases o <;> first | rfl | exact absurd rfl (hn _ _ _)
theorem run_setObj {P : Program} {o' : Obj} (h : w.heap[b]? = some o) (hn : ∀ c e f, o ≠ .cells c e f) : (setObj b o').run P w = .ok () (w.setObj b o') := by
  unfold Go.setObj Sem.run
  rw [h]
  cases o <;> first | rfl | exact absurd rfl (hn _ _ _)
end

/-! ### maps -/
/-- What is asked of a key's type: kd k is the key k as a value. -/
structure KeyT {κ : Type} [DecidableEq κ] (P : Program) (kt : TypeId) (kd : κ → Value) : Prop where
  desc : ∃ d, P.underlying kt = some d ∧ ∀ k k', Instr.sameNow d (kd k) (kd k') = none ∨ Instr.sameNow d (kd k) (kd k') = some (decide (k = k'))
  check : ∀ k e w, (Instr.checkKey e 10000 kt (kd k)).run P w = .ok () w
  eq : ∀ k k' w, (Op.equal kt (kd k) (kd k')).run P w = .ok (decide (k = k')) w
  bits : ∀ k, Instr.sameBits 10000 (kd k) (kd k) = true

abbrev Ent (κ : Type) := κ × Value × Nat
def ent {κ : Type} (kd : κ → Value) (x : Ent κ) : MapEntry := ⟨kd x.1, x.2.1, x.2.2⟩

/-- Block b is a map that holds the entries L. -/
structure HasMap {κ : Type} (w : World) (b : Nat) (kd : κ → Value) (L : List (Ent κ)) : Prop where
  heap : ∃ clock, w.heap[b]? = some (.map (L.map (ent kd)).toArray clock) ∧ ∀ x ∈ L, x.2.2 < clock
  keys : (L.map (·.1)).Nodup
  born : (L.map (·.2.2)).Nodup

section
variable {κ : Type} [DecidableEq κ]
/-- The value at a key. -/
def get (L : List (Ent κ)) (k : κ) : Option Value := (L.find? (fun x => x.1 = k)).map (·.2.1)
/-- A store at a key. -/
def put (L : List (Ent κ)) (k : κ) (v : Value) (clock : Nat) : List (Ent κ) :=
  if (get L k).isSome then L.map (fun x => if x.1 = k then (x.1, v, x.2.2) else x) else L ++ [(k, v, clock)]
def del (L : List (Ent κ)) (k : κ) : List (Ent κ) := L.filter (fun x => x.1 ≠ k)

theorem get_cons (x : Ent κ) (L : List (Ent κ)) (k : κ) : get (x :: L) k = if x.1 = k then some x.2.1 else get L k := by
  unfold get; rw [List.find?_cons]; by_cases h : x.1 = k <;> simp [h]
theorem get_none {L : List (Ent κ)} {k : κ} : get L k = none ↔ ∀ x ∈ L, x.1 ≠ k := by
  simp [get]
theorem get_mem {L : List (Ent κ)} {k : κ} {v : Value} (h : get L k = some v) : ∃ n, (k, v, n) ∈ L := by
  unfold get at h
  cases hf : L.find? (fun x => x.1 = k) with
  | none => simp [hf] at h
  | some x =>
    have h1 := List.find?_some hf
    have h2 := List.mem_of_find?_eq_some hf
    obtain ⟨a, b, c⟩ := x
    simp [hf] at h h1
    subst h h1
    exact ⟨c, h2⟩
theorem get_append (L M : List (Ent κ)) (k : κ) : get (L ++ M) k = (get L k).or (get M k) := by
  induction L with
  | nil => simp [get]
  | cons x L ih => rw [List.cons_append, get_cons, get_cons, ih]; split <;> simp
theorem get_of_mem {L : List (Ent κ)} (hn : (L.map (·.1)).Nodup) {k : κ} {v : Value} {n : Nat} (h : (k, v, n) ∈ L) : get L k = some v := by
  induction L with
  | nil => cases h
  | cons x L ih =>
    simp only [List.map_cons, List.nodup_cons] at hn
    rw [get_cons]
    rcases List.mem_cons.1 h with h | h
    · subst h; simp
    · have : x.1 ≠ k := fun e => hn.1 (List.mem_map.2 ⟨_, h, e.symm⟩)
      rw [if_neg this]; exact ih hn.2 h

theorem get_upd (L : List (Ent κ)) (k j : κ) (v : Value) (hs : (get L k).isSome) :
    get (L.map (fun x => if x.1 = k then (x.1, v, x.2.2) else x)) j = if j = k then some v else get L j := by
  induction L with
  | nil => simp [get] at hs
  | cons x L ih =>
    rw [List.map_cons, get_cons, get_cons]
    rw [get_cons] at hs
    by_cases hx : x.1 = k
    · simp only [hx, if_true]
      by_cases hj : j = k
      · simp [hj]
      · rw [if_neg (fun e => hj e.symm), if_neg hj, if_neg (fun e => hj e.symm)]
        by_cases hs' : (get L k).isSome
        · rw [ih hs', if_neg hj]
        · have hall : ∀ y ∈ L, y.1 ≠ k := get_none.1 (by simpa using hs')
          have : L.map (fun x => if x.1 = k then (x.1, v, x.2.2) else x) = L := by
            conv => rhs; rw [← List.map_id L]
            exact List.map_congr_left fun y hy => by simp [hall y hy]
          rw [this]
    · rw [if_neg hx] at hs
      simp only [hx, if_false]
      rw [ih hs]
      by_cases hj : j = k
      · subst hj; simp [hx]
      · simp [hj]
theorem get_put (L : List (Ent κ)) (k j : κ) (v : Value) (c : Nat) : get (put L k v c) j = if j = k then some v else get L j := by
  unfold put
  split
  · exact get_upd L k j v ‹_›
  · rename_i h
    have hk : get L k = none := by simpa using h
    rw [get_append, get_cons]
    by_cases hj : j = k
    · subst hj; simp [hk]
    · rw [if_neg (fun e => hj e.symm), if_neg hj]; simp [get]
theorem get_del (L : List (Ent κ)) (k j : κ) : get (del L k) j = if j = k then none else get L j := by
  unfold del
  induction L with
  | nil => simp [get]
  | cons x L ih =>
    rw [List.filter_cons]
    by_cases hx : x.1 = k
    · simp only [hx, ne_eq, not_true, decide_false, Bool.false_eq_true, if_false]
      rw [ih, get_cons]
      by_cases hj : j = k
      · simp [hj]
      · rw [if_neg hj, if_neg hj, if_neg (by rw [hx]; exact fun e => hj e.symm)]
    · simp only [hx, ne_eq, not_false_iff, decide_true, if_true]
      rw [get_cons, get_cons, ih]
      by_cases hj : j = k
      · subst hj; simp [hx]
      · simp [hj]
theorem map_upd_fst (L : List (Ent κ)) (k : κ) (v : Value) : (L.map (fun x => if x.1 = k then (x.1, v, x.2.2) else x)).map (·.1) = L.map (·.1) := by
  rw [List.map_map]; exact List.map_congr_left fun x _ => by simp only [Function.comp]; split <;> rfl
theorem map_upd_born (L : List (Ent κ)) (k : κ) (v : Value) : (L.map (fun x => if x.1 = k then (x.1, v, x.2.2) else x)).map (·.2.2) = L.map (·.2.2) := by
  rw [List.map_map]; exact List.map_congr_left fun x _ => by simp only [Function.comp]; split <;> rfl
end

/-! ### what the operations on maps do -/
section
variable {κ : Type} [DecidableEq κ] {P : Program} {kt mt et : TypeId} {kd : κ → Value} {w : World} {b : Nat} {L : List (Ent κ)}

/-- The first entry at a key: its place, its value. -/
def idx (k : κ) : List (Ent κ) → Nat → Option (Nat × Value)
  | [], _ => none
  | x :: L, i => if x.1 = k then some (i, x.2.1) else idx k L (i + 1)

theorem idx_get (k : κ) : ∀ (L : List (Ent κ)) (i : Nat), (idx k L i).map (·.2) = get L k
  | [], _ => rfl
  | x :: L, i => by
    rw [idx, get_cons]
    by_cases h : x.1 = k
    · simp [h]
    · simp [h, idx_get k L (i + 1)]

theorem idx_some (k : κ) : ∀ (L : List (Ent κ)) (i j : Nat) (v : Value), idx k L i = some (j, v) → ∃ n A B, L = A ++ (k, v, n) :: B ∧ j = i + A.length ∧ ∀ x ∈ A, x.1 ≠ k
  | [], _, _, _, h => by cases h
  | x :: L, i, j, v, h => by
    rw [idx] at h
    split at h
    · rename_i hx
      simp only [Option.some.injEq, Prod.mk.injEq] at h
      obtain ⟨rfl, rfl⟩ := h
      exact ⟨x.2.2, [], L, by simp [← hx], by simp, by simp⟩
    · rename_i hx
      obtain ⟨n, A, B, rfl, rfl, hA⟩ := idx_some k L (i + 1) j v h
      exact ⟨n, x :: A, B, rfl, by simp; omega, by simp; exact ⟨hx, fun a y z hy => hA _ hy⟩⟩

theorem run_findAsking (K : KeyT P kt kd) (k : κ) (w : World) : ∀ (L : List (Ent κ)) (i : Nat), (Instr.findAsking kt (kd k) (L.map (ent kd)) i).run P w = .ok (idx k L i) w
  | [], _ => rfl
  | x :: L, i => by
    simp only [List.map_cons, Instr.findAsking, Sem.run_bind]
    rw [show (ent kd x).key = kd x.1 from rfl, K.eq]
    by_cases h : x.1 = k
    · simp [h, idx, ent]
    · have h' : ¬ k = x.1 := fun e => h e.symm
      simp [h, h', idx, run_findAsking K k w L (i + 1)]

theorem findNow_idx {d : TypeDesc} (k : κ) (hd : ∀ k k', Instr.sameNow d (kd k) (kd k') = none ∨ Instr.sameNow d (kd k) (kd k') = some (decide (k = k'))) :
    ∀ (L : List (Ent κ)) (i : Nat) r, Instr.findNow d (kd k) (L.map (ent kd)) i = some r → r = idx k L i
  | [], _, r, h => by simp [Instr.findNow] at h; simp [idx, h.symm]
  | x :: L, i, r, h => by
    simp only [List.map_cons, Instr.findNow] at h
    rw [show (ent kd x).key = kd x.1 from rfl] at h
    rcases hd k x.1 with e | e
    · rw [e] at h; cases h
    · rw [e] at h
      by_cases hx : x.1 = k
      · simp [hx] at h; simp [idx, hx, h.symm, ent]
      · have h' : ¬ k = x.1 := fun e => hx e.symm
        simp [h'] at h
        rw [idx, if_neg hx]
        exact findNow_idx k hd L (i + 1) r h

theorem run_findKey (K : KeyT P kt kd) (k : κ) (w : World) (L : List (Ent κ)) : (Instr.findKey kt (kd k) (L.map (ent kd))).run P w = .ok (idx k L 0) w := by
  obtain ⟨d, hd, hs⟩ := K.desc
  unfold Instr.findKey
  rw [Sem.run_bind, run_underlying hd, Result.andThen_ok]
  cases h : Instr.findNow d (kd k) (L.map (ent kd)) 0 with
  | none => exact run_findAsking K k w L 0
  | some r => rw [findNow_idx k hs L 0 r h]; rfl

/-- 'm[k]' -/
theorem run_lookup (K : KeyT P kt kd) (hm : P.underlying mt = some (.map kt et)) {z : Value} (hz : ∀ w, (zeroValue et).run P w = .ok z w) (H : HasMap w b kd L) (k : κ) (c : Bool) :
    (Instr.lookup mt (.map (some b)) (kd k) c).run P w = .ok (if c then .tuple #[(get L k).getD z, .bool (get L k).isSome] else (get L k).getD z) w := by
  obtain ⟨clock, hb, _⟩ := H.heap
  have hi := idx_get k L 0
  simp only [Instr.lookup, Sem.run_bind, run_underlying hm, Result.andThen_ok, run_getObj hb (fun _ _ _ h => by cases h), Sem.run_pure, K.check, run_findKey K]
  cases h : idx k L 0 with
  | none => rw [h] at hi; simp only [Option.map_none] at hi; rw [← hi]; cases c <;> simp [hz]
  | some r => rw [h] at hi; simp only [Option.map_some] at hi; rw [← hi]; cases c <;> simp
/-- 'm[k]' of a nil map -/
theorem run_lookup_nil (K : KeyT P kt kd) (hm : P.underlying mt = some (.map kt et)) {z : Value} (hz : ∀ w, (zeroValue et).run P w = .ok z w) (k : κ) (c : Bool) (w : World) :
    (Instr.lookup mt (.map none) (kd k) c).run P w = .ok (if c then .tuple #[z, .bool false] else z) w := by
  have hf := run_findKey K k w []
  simp only [List.map_nil, idx] at hf
  simp only [Instr.lookup, Sem.run_bind, run_underlying hm, Result.andThen_ok, Sem.run_pure, K.check, hf]
  cases c <;> simp [hz]

theorem modify_at {α : Type} (f : α → α) (A : List α) (x : α) (B : List α) : ((A ++ x :: B).toArray.modify A.length f) = (A ++ f x :: B).toArray := by
  apply Array.ext'
  simp only [Array.toList_modify]
  induction A with
  | nil => rfl
  | cons y A ih => simp only [List.cons_append, List.length_cons, List.modify_succ_cons, ih]

theorem put_some {L : List (Ent κ)} {k : κ} {v : Value} {n : Nat} {A B : List (Ent κ)} (hL : L = A ++ (k, v, n) :: B) (hn : (L.map (·.1)).Nodup) (u : Value) (c : Nat) :
    put L k u c = A ++ (k, u, n) :: B := by
  have hs : (get L k).isSome := by rw [get_of_mem hn (n := n) (v := v) (by rw [hL]; simp)]; rfl
  unfold put
  rw [if_pos hs, hL, List.map_append, List.map_cons, if_pos rfl]
  rw [hL, List.map_append, List.map_cons, List.nodup_append] at hn
  obtain ⟨_, h2, h3⟩ := hn
  have hA : ∀ x ∈ A, x.1 ≠ k := fun x hx e => h3 _ (List.mem_map.2 ⟨x, hx, rfl⟩) _ (List.mem_cons_self) e
  have hB : ∀ x ∈ B, x.1 ≠ k := fun x hx e => (List.nodup_cons.1 h2).1 (List.mem_map.2 ⟨x, hx, e⟩)
  have ha : A.map (fun x : Ent κ => if x.1 = k then (x.1, u, x.2.2) else x) = A := by
    conv => rhs; rw [← List.map_id A]
    exact List.map_congr_left fun y hy => by simp [hA y hy]
  have hb : B.map (fun x : Ent κ => if x.1 = k then (x.1, u, x.2.2) else x) = B := by
    conv => rhs; rw [← List.map_id B]
    exact List.map_congr_left fun y hy => by simp [hB y hy]
  rw [ha, hb]

theorem put_none {L : List (Ent κ)} {k : κ} (h : get L k = none) (u : Value) (c : Nat) : put L k u c = L ++ [(k, u, c)] := by
  unfold put; rw [if_neg (by rw [h]; simp)]

/-- What a store leaves. -/
structure Stored (w w' : World) (b : Nat) (kd : κ → Value) (L L' : List (Ent κ)) (k : κ) (v : Value) : Prop where
  has : HasMap w' b kd L'
  get : ∀ j, get L' j = if j = k then some v else X.get L j
  keys : L'.map (·.1) = if (X.get L k).isSome then L.map (·.1) else L.map (·.1) ++ [k]
  ext : Ext (fun x => x = b) w w'
  size : w'.heap.size = w.heap.size

theorem hasMap_put {clock : Nat} {L : List (Ent κ)} (H : HasMap w b kd L) (hb : w.heap[b]? = some (.map (L.map (ent kd)).toArray clock)) (hc : ∀ x ∈ L, x.2.2 < clock) (k : κ) (v : Value) :
    Stored w (w.setObj b (.map ((put L k v clock).map (ent kd)).toArray (if (get L k).isSome then clock else clock + 1))) b kd L (put L k v clock) k v := by
  have hlt := lt_of_heap hb
  refine ⟨⟨⟨_, heap_setObj_same hlt, ?_⟩, ?_, ?_⟩, fun j => get_put L k j v clock, ?_, (Ext.refl (fun x => x = b) w).setObj (fun _ => rfl) _, size_setObj⟩
  · intro x hx
    unfold put at hx
    split at hx
    · rw [if_pos ‹_›]
      obtain ⟨y, hy, rfl⟩ := List.mem_map.1 hx
      have := hc y hy
      split <;> exact this
    · rw [if_neg ‹_›]
      rcases List.mem_append.1 hx with h | h
      · have := hc x h; omega
      · simp only [List.mem_singleton] at h; subst h; exact Nat.lt_succ_self _
  · unfold put
    split
    · rw [map_upd_fst]; exact H.keys
    · rename_i h
      rw [List.map_append, List.nodup_append]
      refine ⟨H.keys, by simp, ?_⟩
      rintro x hx y hy rfl
      obtain ⟨z, hz, rfl⟩ := List.mem_map.1 hx
      simp only [List.map_cons, List.map_nil, List.mem_singleton] at hy
      exact get_none.1 (by simpa using h) z hz hy
  · unfold put
    split
    · rw [map_upd_born]; exact H.born
    · rw [List.map_append, List.nodup_append]
      refine ⟨H.born, by simp, ?_⟩
      rintro x hx y hy rfl
      obtain ⟨z, hz, rfl⟩ := List.mem_map.1 hx
      simp only [List.map_cons, List.map_nil, List.mem_singleton] at hy
      have := hc z hz; omega
  · unfold put
    split
    · rw [map_upd_fst]
    · simp

theorem run_keyThatStays (K : KeyT P kt kd) (k : κ) (w : World) : (Instr.keyThatStays (kd k) (kd k)).run P w = .ok (kd k) w := by
  simp [Instr.keyThatStays, K.bits]

/-- 'm[k] = v' -/
theorem run_mapUpdate (K : KeyT P kt kd) (hm : P.underlying mt = some (.map kt et)) (H : HasMap w b kd L) (k : κ) (v : Value) :
    ∃ w' L', (Instr.mapUpdate mt (.map (some b)) (kd k) v).run P w = .ok () w' ∧ Stored w w' b kd L L' k v := by
  obtain ⟨clock, hb, hc⟩ := H.heap
  refine ⟨_, _, ?_, hasMap_put H hb hc k v⟩
  have hi := idx_get k L 0
  simp only [Instr.mapUpdate, Sem.run_bind, run_underlying hm, Result.andThen_ok, run_getObj hb (fun _ _ _ h => by cases h), K.check, run_findKey K]
  cases h : idx k L 0 with
  | none =>
    rw [h] at hi; simp only [Option.map_none] at hi
    simp only [put_none hi.symm, ← hi, Option.isSome_none, Bool.false_eq_true, if_false]
    rw [run_setObj hb (fun _ _ _ h => by cases h)]
    simp [ent]
  | some r =>
    obtain ⟨j, u⟩ := r
    obtain ⟨n, A, B, hL, rfl, hA⟩ := idx_some k L 0 j u h
    rw [h] at hi; simp only [Option.map_some] at hi
    simp only [put_some hL H.keys, ← hi, Option.isSome_some, if_true, Nat.zero_add]
    have hj : ((L.map (ent kd)).toArray)[A.length]? = some (ent kd (k, u, n)) := by rw [hL]; simp
    simp only [hj, Option.map_some, Option.getD_some, show (ent kd (k, u, n)).key = kd k from rfl, Sem.run_bind, run_keyThatStays K, Result.andThen_ok]
    rw [run_setObj hb (fun _ _ _ h => by cases h), hL, List.map_append, List.map_cons]
    have := modify_at (fun e : MapEntry => { e with key := kd k, val := v }) (A.map (ent kd)) (ent kd (k, u, n)) (B.map (ent kd))
    rw [List.length_map] at this
    rw [this]
    simp [ent]

/-- 'delete(m, k)' -/
theorem run_delete (K : KeyT P kt kd) (hm : P.underlying mt = some (.map kt et)) (H : HasMap w b kd L) (k : κ) (ats : Array TypeId) (t : TypeId) (ha : ats[0]? = some mt) :
    ∃ w', (Builtin.delete_ ats t #[.map (some b), kd k]).run P w = .ok (.tuple #[]) w' ∧ HasMap w' b kd (del L k) ∧ Ext (fun x => x = b) w w' ∧ w'.heap.size = w.heap.size := by
  obtain ⟨clock, hb, hc⟩ := H.heap
  have hlt := lt_of_heap hb
  have hdel : HasMap (w.setObj b (.map ((del L k).map (ent kd)).toArray clock)) b kd (del L k) := by
    have hsub : List.Sublist (del L k) L := List.filter_sublist
    exact ⟨⟨clock, heap_setObj_same hlt, fun x hx => hc x (hsub.subset hx)⟩, (hsub.map _).nodup H.keys, (hsub.map _).nodup H.born⟩
  refine ⟨_, ?_, hdel, (Ext.refl (fun x => x = b) w).setObj (fun _ => rfl) _, size_setObj⟩
  have hi := idx_get k L 0
  simp only [Builtin.delete_, ha, List.getElem?_toArray, List.getElem?_cons_zero, List.getElem?_cons_succ, Sem.run_bind, run_underlying hm, Result.andThen_ok, run_getObj hb (fun _ _ _ h => by cases h), K.check, run_findKey K]
  cases h : idx k L 0 with
  | none =>
    rw [h] at hi; simp only [Option.map_none] at hi
    have he : del L k = L := by
      unfold del
      rw [List.filter_eq_self]
      intro x hx; simpa using get_none.1 hi.symm x hx
    rw [Sem.run_bind, run_setObj hb (fun _ _ _ h => by cases h), he]
    simp
  | some r =>
    obtain ⟨j, u⟩ := r
    obtain ⟨n, A, B, hL, rfl, hA⟩ := idx_some k L 0 j u h
    have he : del L k = A ++ B := by
      have hn := H.keys
      rw [hL, List.map_append, List.map_cons, List.nodup_append] at hn
      obtain ⟨_, h2, _⟩ := hn
      unfold del
      rw [hL, List.filter_append, List.filter_cons]
      have ha : A.filter (fun x : Ent κ => decide (x.1 ≠ k)) = A := List.filter_eq_self.2 fun x hx => by simpa using hA x hx
      have hb : B.filter (fun x : Ent κ => decide (x.1 ≠ k)) = B := List.filter_eq_self.2 fun x hx => by
        simpa using fun e : x.1 = k => (List.nodup_cons.1 h2).1 (List.mem_map.2 ⟨x, hx, e⟩)
      rw [ha, hb]; simp
    simp only [Nat.zero_add]
    rw [Sem.run_bind, run_setObj hb (fun _ _ _ h => by cases h), he, hL]
    have hx : (List.map (ent kd) (A ++ (k, u, n) :: B)).toArray.eraseIdxIfInBounds A.length = (List.map (ent kd) (A ++ B)).toArray := by
      apply Array.ext'
      simp [Array.eraseIdxIfInBounds, List.eraseIdx_append_of_length_le]
    rw [hx]
    simp

/-- 'm[k] = append(m[k], ..)', its first half -/
theorem run_mapEntry (K : KeyT P kt kd) (hm : P.underlying mt = some (.map kt et)) {z : Value} (hz : ∀ w, (zeroValue et).run P w = .ok z w) (H : HasMap w b kd L) (k : κ) :
    ∃ w' L', ∃ n : Nat, (Instr.mapEntry mt (.map (some b)) (kd k)).run P w = .ok (.tuple #[(get L k).getD z, .int .i64 n]) w' ∧ Stored w w' b kd L L' k ((get L k).getD z) ∧ (k, (get L k).getD z, n) ∈ L' := by
  obtain ⟨clock, hb, hc⟩ := H.heap
  have hi := idx_get k L 0
  cases h : idx k L 0 with
  | none =>
    rw [h] at hi; simp only [Option.map_none] at hi
    refine ⟨_, _, clock, ?_, hasMap_put H hb hc k _, by rw [put_none hi.symm]; simp⟩
    simp only [Instr.mapEntry, Sem.run_bind, run_underlying hm, Result.andThen_ok, run_getObj hb (fun _ _ _ h => by cases h), K.check, run_findKey K, h, hz]
    rw [run_setObj hb (fun _ _ _ h => by cases h)]
    simp [put_none hi.symm, ← hi, ent, goInt]
  | some r =>
    obtain ⟨j, u⟩ := r
    obtain ⟨n, A, B, hL, rfl, hA⟩ := idx_some k L 0 j u h
    rw [h] at hi; simp only [Option.map_some] at hi
    have hp : put L k ((get L k).getD z) clock = L := by rw [put_some hL H.keys, ← hi, Option.getD_some, hL]
    refine ⟨_, _, n, ?_, hasMap_put H hb hc k _, by rw [hp, ← hi, hL]; simp⟩
    have hj : ((L.map (ent kd)).toArray)[A.length]? = some (ent kd (k, u, n)) := by rw [hL]; simp
    simp only [Instr.mapEntry, Sem.run_bind, run_underlying hm, Result.andThen_ok, run_getObj hb (fun _ _ _ h => by cases h), K.check, run_findKey K, h, Nat.zero_add, hj, Option.map_some, Option.getD_some, show (ent kd (k, u, n)).key = kd k from rfl, run_keyThatStays K]
    rw [run_setObj hb (fun _ _ _ h => by cases h), hp]
    have he : (L.map (ent kd)).toArray.modify A.length (fun e : MapEntry => { e with key := kd k }) = (L.map (ent kd)).toArray := by
      rw [hL, List.map_append, List.map_cons]
      have := modify_at (fun e : MapEntry => { e with key := kd k }) (A.map (ent kd)) (ent kd (k, u, n)) (B.map (ent kd))
      rw [List.length_map] at this
      rw [this]; simp [ent]
    rw [he]
    simp [← hi, ent, goInt]

omit [DecidableEq κ] in
theorem born_unique {L : List (Ent κ)} (hn : (L.map (·.2.2)).Nodup) {x y : Ent κ} (hx : x ∈ L) (hy : y ∈ L) (h : x.2.2 = y.2.2) : x = y := by
  induction L with
  | nil => cases hx
  | cons z L ih =>
    simp only [List.map_cons, List.nodup_cons] at hn
    rcases List.mem_cons.1 hx with rfl | hx'
    · rcases List.mem_cons.1 hy with rfl | hy'
      · rfl
      · exact absurd (List.mem_map.2 ⟨y, hy', h.symm⟩) hn.1
    · rcases List.mem_cons.1 hy with rfl | hy'
      · exact absurd (List.mem_map.2 ⟨x, hx', h⟩) hn.1
      · exact ih hn.2 hx' hy'

/-- .. and its second -/
theorem run_entryStore (H : HasMap w b kd L) {k : κ} {u : Value} {n : Nat} (hmem : (k, u, n) ∈ L) (v : Value) :
    ∃ w' L', (Instr.entryStore mt (.map (some b)) (.int .i64 n) v).run P w = .ok () w' ∧ Stored w w' b kd L L' k v := by
  obtain ⟨clock, hb, hc⟩ := H.heap
  refine ⟨_, _, ?_, hasMap_put H hb hc k v⟩
  obtain ⟨A, B, hL⟩ := List.append_of_mem hmem
  have hg : get L k = some u := get_of_mem H.keys hmem
  have hA : ∀ x ∈ A, ¬ ((ent kd x).born : Int) = (n : Int) := fun x hx e => by
    have hn := H.keys
    rw [hL, List.map_append, List.map_cons, List.nodup_append] at hn
    have hx' : x = (k, u, n) := born_unique H.born (by rw [hL]; exact List.mem_append_left _ hx) hmem (Int.ofNat.inj e)
    exact hn.2.2 _ (List.mem_map.2 ⟨x, hx, rfl⟩) _ (List.mem_cons_self) (by rw [hx'])
  have hfi : ((L.map (ent kd)).toArray).findIdx? (fun e => ((e.born : Int) == (n : Int))) = some A.length := by
    rw [List.findIdx?_toArray, hL, List.map_append, List.findIdx?_append]
    have h1 : List.findIdx? (fun e : MapEntry => ((e.born : Int) == (n : Int))) (A.map (ent kd)) = none := by
      rw [List.findIdx?_eq_none_iff]
      intro x hx
      obtain ⟨y, hy, rfl⟩ := List.mem_map.1 hx
      simpa using hA y hy
    rw [h1]
    simp [List.findIdx?_cons, ent]
  have hi : (asInt (.int .i64 n)).run P w = .ok (n : Int) w := rfl
  simp only [Instr.entryStore, Sem.run_bind, Result.andThen_ok, run_getObj hb (fun _ _ _ h => by cases h), hi, hfi, put_some hL H.keys, hg, Option.isSome_some, if_true]
  rw [run_setObj hb (fun _ _ _ h => by cases h), hL, List.map_append, List.map_cons]
  have := modify_at (fun e : MapEntry => { e with val := v }) (A.map (ent kd)) (ent kd (k, u, n)) (B.map (ent kd))
  rw [List.length_map] at this
  rw [this]
  simp [ent]

omit [DecidableEq κ] in
theorem HasMap.ext {F : Nat → Prop} {w' : World} (H : HasMap w b kd L) (h : Ext F w w') (hn : ¬ F b) : HasMap w' b kd L :=
  let ⟨c, hb, hc⟩ := H.heap
  ⟨⟨c, h.heap hb hn, hc⟩, H.keys, H.born⟩
omit [DecidableEq κ] in
theorem hasMap_new (w : World) (kd : κ → Value) : HasMap (w.alloc (.map #[] 0)) w.heap.size kd [] :=
  ⟨⟨0, heap_alloc_new w _, by simp⟩, by simp, by simp⟩
omit [DecidableEq κ] in
theorem HasMap.lt (H : HasMap w b kd L) : b < w.heap.size := let ⟨_, hb, _⟩ := H.heap; lt_of_heap hb
end

end Go.X
