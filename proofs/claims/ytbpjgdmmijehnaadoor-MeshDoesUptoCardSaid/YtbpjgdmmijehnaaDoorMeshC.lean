/-
  The contracts of New, Len, Send.
-/
import Derived.Test.YtbpjgdmmijehnaaDoorMeshB
namespace Go.Proofs.YtbpjgdmmijehnaaDoor
open Go.RowKit Go.X

/-- A call of a mesh's has answered v; under way are R' then. -/
def Did (v : Value) (w : World) (a : Nat) (n : Int) (R' : Lk → List (List UInt8)) (F : Nat → Prop) (e : Ending) (w' : World) : Prop :=
  e = .returned v ∧ IsMesh w' a n 0 R' (Grow F w w') ∧ Ext F w w'

theorem Grow.of {F : Nat → Prop} {w w' : World} {b : Nat} (h : F b) : Grow F w w' b := .inl h
theorem grow_same {F : Nat → Prop} {w w' : World} (h : w'.heap.size = w.heap.size) : Grow F w w' = F := by
  funext b; exact propext ⟨fun h' => h'.elim id (by omega), .inl⟩

section
variable {w : World} {a : Nat} {n : Int} {R : Lk → List (List UInt8)} {F : Nat → Prop}
set_option maxHeartbeats 400000 in
theorem len_any (h : IsMesh w a n 0 R F) (x y : Int) :
    Calls Tryd.prog 12 #[.pointer (some ⟨a, 0, none⟩), .int .i64 x, .int .i64 y] w (Did (.int .i64 (R (x, y)).length) w a n R F) := by
  have H := Lib.hid h; clear h
  go_enter_defers Tryd.func12, Tryd.ntmps12
  go_wp2_with fail
  refine (lock_mesh H.out).mono ?_
  rintro e w1 ⟨rfl, h1, hx1, hs1⟩
  have H1 := h1
  obtain ⟨q, mb, es, ms, h1⟩ := h1
  have m3 := h1.cell.2.2.2.1
  obtain ⟨ad, cap, hrv⟩ := row_shape h1 (x, y)
  have hl := look_mesh h1 (x, y) w1 (Ext.refl _ _)
  rw [hrv] at hl
  clear hrv
  have Hs1 := Lib.hid hs1; clear hs1
  go_wp2
  refine leaves_cons (f := 25) (args := #[.pointer (some ⟨a, 0, none⟩)]) (by simp) (by simp [go_sem]) ?_
  refine (unlock_mesh .returning H1).mono ?_
  rintro e u' w2 ⟨rfl, rfl, h2, hx2, hs2⟩
  exact ⟨_, results_tmp rfl _ _ _, rfl, by rw [grow_same (hs2.trans Hs1.out)]; exact h2, hx1.trans' hx2⟩

/-- The ends of a call: what it turned, before and behind the deferred Unlock. -/
theorem did_door {w w2 w8 w9 : World} {R' : Lk → List (List UInt8)} {v : Value} (hx : Ext F w w2) (hy : Ext F w2 w8) (h9 : IsMesh w9 a n 0 R' (Grow F w2 w8)) (hx9 : Ext (Grow F w2 w8) w8 w9) : Did v w a n R' F (.returned v) w9 := by
  have h1 := hx.size
  have h2 := hy.size
  refine ⟨rfl, h9.wide (fun b hb => hb.imp id fun hb => ⟨by omega, by have := hx9.size; omega⟩) fun b hb => hb.elim (fun hb => h9.bound b (.inl hb)) (·.2), ?_⟩
  exact (hx.trans' hy).trans hx9 fun k hk hg => hg.elim id fun hg => by omega
/-- .. where the call has only read. -/
theorem did_read {w w2 w9 : World} {v : Value} (hx : Ext F w w2) (h9 : IsMesh w9 a n 0 R F) (hx9 : Ext F w2 w9) : Did v w a n R F (.returned v) w9 :=
  ⟨rfl, h9.wide (fun _ => .inl) fun k hk => hk.elim (fun hk => h9.bound k hk) (·.2), hx.trans' hx9⟩

/-- Bytes that are handed in. -/
def BytesArg (w : World) (v : Value) (b : List UInt8) : Prop := Src w v 1 b.length (bv b) ∧ ∃ ad c, v = .slice ad b.length c

def sendV (n : Int) (R : Lk → List (List UInt8)) (k : Lk) (b : List UInt8) : Int :=
  if thereB n k then (if 2097194 < b.length then 4 else if 1024 ≤ (R k).length then 3 else 0) else 1
def sendR (n : Int) (R : Lk → List (List UInt8)) (k : Lk) (b : List UInt8) : Lk → List (List UInt8) :=
  if sendV n R k b = 0 then upd R k (R k ++ [b]) else R

theorem get_rv (es : List (Ent Lk)) (k : Lk) : (get es k).getD nilS = rv es k := rfl

/-- A message more behind the others: the memory's part. -/
theorem MeshAt.pushed {w w5 w6 w7 w8 : World} {lk : Int} {q : Int} {mb : Nat} {es es1 es2 : List (Ent Lk)} {ms : Lk → List Value} {k : Lk} {m : Value} {b : List UInt8} {v' : Value}
    (h : MeshAt w a n lk R F q mb es ms) (hx : Ext Nil w w5) (hm : MsgIs w5 m b) (hnew : ∀ b, m.ownBlock = some b → w.heap.size ≤ b)
    (h6 : Stored w5 w6 mb kdl es es1 k (rv es k)) (h7 : Appended w6 w7 (rv es k) v' 32 1 ((ms k).length + 1) (ms k ++ [m])) (h8 : Stored w7 w8 mb kdl es1 es2 k v') :
    MeshAt w8 a n lk (upd R k (R k ++ [b])) (Grow F w w8) q mb es2 (upd ms k (ms k ++ [m])) ∧ Ext F w w8 := by
  have hsz : w.heap.size ≤ w5.heap.size := hx.size
  have hmlt := fun b hb => Own.lt hm b hb
  have hG : Ext (fun x => x = mb ∨ (rv es k).ownBlock = some x) w w8 :=
    (((hx.mono (G := fun x => x = mb ∨ (rv es k).ownBlock = some x) fun _ _ h => h.elim).trans h6.ext fun _ _ e => .inl e).trans h7.ext fun _ _ e => .inr e).trans h8.ext fun _ _ e => .inl e
  have hmsep : ∀ x, m.ownBlock = some x → x ≠ mb ∧ (rv es k).ownBlock ≠ some x := fun x hb =>
    ⟨fun e => by have := hnew x hb; have := h.map.lt; omega, fun e => by have := hnew x hb; have := (h.row k).lt x e; omega⟩
  have hown8 : Own w8 v' 32 1 ((ms k).length + 1) (ms k ++ [m]) := h7.own.ext h8.ext fun x hb e => by
    rcases h7.lies with h' | ⟨y, h', h1, _⟩
    · exact h.ne_m_row (h'.symm.trans hb) e
    · have e2 : y = x := by simpa using h'.symm.trans hb
      have := h6.size; have := h.map.lt; omega
  refine ⟨?_, hG.mono fun k _ e => e.elim (fun e => e ▸ h.fm) (h.frow _ _)⟩
  refine h.turn hG (fun x hx => hx.elim .inl fun e => .inr (.inl e)) h8.has (fun j => ?_) (by simpa using hown8) (by simp [h.len k]) ?_ ?_ ?_ ?_
  · rw [h8.get, h6.get]
    split
    · rfl
    · rfl
  · intro i m' x hm' hx'
    rw [List.getElem?_append] at hm' hx'
    rw [h.len k] at hm'
    split at hm'
    · rename_i hi
      rw [if_pos hi] at hx'
      exact Own.ext (h.msg k i m' x hm' hx') hG fun y hb e => e.elim (h.ne_m_msg hm' hb) (h.ne_row_msg hm' hb)
    · rename_i hi
      rw [if_neg hi] at hx'
      have h0 : i - (R k).length = 0 := by
        have := (List.getElem?_eq_some_iff.1 hm').1
        simp at this; omega
      simp only [h0, List.getElem?_cons_zero, Option.some.injEq] at hm' hx'
      subst hm' hx'
      exact Own.ext (Own.ext (Own.ext hm h6.ext fun y hb e => (hmsep y hb).1 e) h7.ext fun y hb e => (hmsep y hb).2 e) h8.ext fun y hb e => (hmsep y hb).1 e
  · intro x hb
    rcases h7.lies with h' | ⟨y, h', h1, _⟩
    · exact .inl (h'.symm.trans hb)
    · have e2 : y = x := by simpa using h'.symm.trans hb
      have := h6.size; right; omega
  · intro i m' x hm' hb
    rw [List.getElem?_append] at hm'
    split at hm'
    · exact .inl ⟨i, m', hm', hb⟩
    · have h0 : i - (ms k).length = 0 := by
        have := (List.getElem?_eq_some_iff.1 hm').1
        simp at this; omega
      simp only [h0, List.getElem?_cons_zero, Option.some.injEq] at hm'
      subst hm'
      exact .inr (hnew x hb)
  · intro i i' m1 m2 x h1 h2 hb1 hb2
    rw [List.getElem?_append] at h1 h2
    have last : ∀ (i : Nat) (m' : Value), ¬ i < (ms k).length → [m][i - (ms k).length]? = some m' → i = (ms k).length ∧ m' = m := fun i m' hi hm' => by
      have h0 : i - (ms k).length = 0 := by
        have := (List.getElem?_eq_some_iff.1 hm').1
        simp at this; omega
      rw [h0] at hm'
      simp at hm'
      exact ⟨by omega, hm'.symm⟩
    split at h1 <;> split at h2
    · exact (h.msgSep _ _ _ _ _ _ _ h1 h2 hb1 hb2).2
    · rename_i _ c2
      obtain ⟨_, rfl⟩ := last i' m2 c2 h2
      obtain ⟨l, _, hl⟩ := h.msgE h1
      have := Own.lt hl x hb1; have := hnew x hb2; omega
    · rename_i c1 _
      obtain ⟨_, rfl⟩ := last i m1 c1 h1
      obtain ⟨l, _, hl⟩ := h.msgE h2
      have := Own.lt hl x hb2; have := hnew x hb1; omega
    · rename_i c1 c2
      have e1 := (last i m1 c1 h1).1
      have e2 := (last i' m2 c2 h2).1
      omega
end
end Go.Proofs.YtbpjgdmmijehnaaDoor
