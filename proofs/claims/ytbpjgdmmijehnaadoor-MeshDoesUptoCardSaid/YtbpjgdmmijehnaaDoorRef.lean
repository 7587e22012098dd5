/-
  The document's mesh in memory, and its small functions.
-/
import Derived.Test.YtbpjgdmmijehnaaDoorMeshL
import Derived.Test.YtbpjgdmmijehnaaDoorOpen
namespace Go.Proofs.YtbpjgdmmijehnaaDoor
open Go.RowKit Go.X

/-- A link's number. -/
def num (k : Lk) : Nat := (9 * k.1 + k.2).toNat
theorem there_is {n : Int} {k : Lk} (h : thereB n k = true) : 1 ≤ k.1 ∧ k.1 ≤ n ∧ 1 ≤ k.2 ∧ k.2 ≤ n ∧ k.1 ≠ k.2 := of_decide_eq_true h
theorem num_lt {n : Int} {k : Lk} (hn : n ≤ 8) (h : thereB n k = true) : num k < 81 := by have := there_is h; unfold num; omega
theorem num_inj {n : Int} {k j : Lk} (hn : n ≤ 8) (h : thereB n k = true) (h' : thereB n j = true) (e : num k = num j) : k = j := by
  have := there_is h; have := there_is h'
  unfold num at e
  obtain ⟨a, b⟩ := k; obtain ⟨c, d⟩ := j
  simp only at *
  have h1 : a = c := by omega
  have h2 : b = d := by omega
  rw [h1, h2]

def rvR (rows : Array Value) (j : Nat) : Value := (rows[j]?).getD nilS

structure RefAt (w : World) (r : Nat) (n : Int) (R : Lk → List (List UInt8)) (F : Nat → Prop) (rb : Nat) (rows : Array Value) (ms : Nat → List Value) : Prop where
  cells : w.heap[r]? = some (.cells #[.int .i64 n, .slice (some ⟨rb, 0, none⟩) 81 81] 74 (0, 0))
  hrows : w.heap[rb]? = some (.cells rows 88 (0, 0))
  size : rows.size = 81
  few : n ≤ 8
  row : ∀ j, Own w (rvR rows j) 32 1 (ms j).length (ms j)
  len : ∀ k, thereB n k = true → (ms (num k)).length = (R k).length
  msg : ∀ (k : Lk) (i : Nat) (m : Value) (l : List UInt8), thereB n k = true → (ms (num k))[i]? = some m → (R k)[i]? = some l → MsgIs w m l
  rest : ∀ k, thereB n k = false → R k = []
  rowSep : ∀ (j j' b : Nat), (rvR rows j).ownBlock = some b → (rvR rows j').ownBlock = some b → j = j'
  fr : F r
  fb : F rb
  frow : ∀ j b, (rvR rows j).ownBlock = some b → F b
  fmsg : ∀ (k : Lk) (i : Nat) (m : Value) (b : Nat), thereB n k = true → (ms (num k))[i]? = some m → m.ownBlock = some b → F b
  bound : ∀ b, F b → b < w.heap.size

def IsRef (w : World) (r : Nat) (n : Int) (R : Lk → List (List UInt8)) (F : Nat → Prop) : Prop := ∃ rb rows ms, RefAt w r n R F rb rows ms

section
variable {w w' : World} {r : Nat} {n : Int} {R : Lk → List (List UInt8)} {F G : Nat → Prop} {rb : Nat} {rows : Array Value} {ms : Nat → List Value}
theorem RefAt.rowTag (h : RefAt w r n R F rb rows ms) {j b : Nat} (hb : (rvR rows j).ownBlock = some b) : ∃ C, w.heap[b]? = some (.cells C 32 (0, 0)) := (h.row j).tag b hb
theorem RefAt.msgE (h : RefAt w r n R F rb rows ms) {k : Lk} (hk : thereB n k = true) {i : Nat} {m : Value} (hm : (ms (num k))[i]? = some m) : ∃ l, (R k)[i]? = some l ∧ MsgIs w m l := by
  have hi : i < (R k).length := by rw [← h.len k hk]; exact (List.getElem?_eq_some_iff.1 hm).1
  exact ⟨_, List.getElem?_eq_getElem hi, h.msg k i m _ hk hm (List.getElem?_eq_getElem hi)⟩
theorem RefAt.msgTag (h : RefAt w r n R F rb rows ms) {k : Lk} (hk : thereB n k = true) {i : Nat} {m : Value} {b : Nat} (hm : (ms (num k))[i]? = some m) (hb : m.ownBlock = some b) : ∃ C, w.heap[b]? = some (.cells C 5 (0, 0)) :=
  let ⟨_, _, h2⟩ := h.msgE hk hm; Own.tag h2 b hb
theorem RefAt.ne_rb (h : RefAt w r n R F rb rows ms) : r ≠ rb := fun e => by
  have h1 := h.cells; have h2 := h.hrows; rw [e] at h1; rw [h1] at h2; cases h2
theorem RefAt.ne_r_row (h : RefAt w r n R F rb rows ms) {j b : Nat} (hb : (rvR rows j).ownBlock = some b) : b ≠ r := fun e => by
  obtain ⟨C, hC⟩ := h.rowTag hb; have h1 := h.cells; rw [← e, hC] at h1; cases h1
theorem RefAt.ne_b_row (h : RefAt w r n R F rb rows ms) {j b : Nat} (hb : (rvR rows j).ownBlock = some b) : b ≠ rb := fun e => by
  obtain ⟨C, hC⟩ := h.rowTag hb; have h1 := h.hrows; rw [← e, hC] at h1; cases h1
theorem RefAt.ne_b_msg (h : RefAt w r n R F rb rows ms) {k : Lk} (hk : thereB n k = true) {i : Nat} {m : Value} {b : Nat} (hm : (ms (num k))[i]? = some m) (hb : m.ownBlock = some b) : b ≠ rb := fun e => by
  obtain ⟨C, hC⟩ := h.msgTag hk hm hb; have h1 := h.hrows; rw [← e, hC] at h1; cases h1
theorem RefAt.ne_row_msg (h : RefAt w r n R F rb rows ms) {k : Lk} (hk : thereB n k = true) {i j : Nat} {m : Value} {b : Nat} (hm : (ms (num k))[i]? = some m) (hb : m.ownBlock = some b) : (rvR rows j).ownBlock ≠ some b := fun e => by
  obtain ⟨C, hC⟩ := h.msgTag hk hm hb; obtain ⟨D, hD⟩ := h.rowTag e; rw [hC] at hD; cases hD
theorem RefAt.ext (h : RefAt w r n R F rb rows ms) (hx : Ext G w w') (hn : ∀ b, F b → ¬ G b) : RefAt w' r n R F rb rows ms :=
  { h with
    cells := hx.heap h.cells (hn r h.fr)
    hrows := hx.heap h.hrows (hn rb h.fb)
    row := fun j => (h.row j).ext hx fun b hb => hn b (h.frow j b hb)
    msg := fun k i m l hk hm hl => Own.ext (h.msg k i m l hk hm hl) hx fun b hb => hn b (h.fmsg k i m b hk hm hb)
    bound := fun b hb => Nat.lt_of_lt_of_le (h.bound b hb) hx.size }
theorem RefAt.wide (h : RefAt w r n R F rb rows ms) (hs : ∀ b, F b → G b) (hb : ∀ b, G b → b < w.heap.size) : RefAt w r n R G rb rows ms :=
  { h with fr := hs _ h.fr, fb := hs _ h.fb, frow := fun j b hb => hs _ (h.frow j b hb), fmsg := fun k i m b hk hm hb => hs _ (h.fmsg k i m b hk hm hb), bound := hb }
theorem IsRef.ext (h : IsRef w r n R F) (hx : Ext G w w') (hn : ∀ b, F b → ¬ G b) : IsRef w' r n R F := let ⟨_, _, _, h⟩ := h; ⟨_, _, _, h.ext hx hn⟩
theorem IsRef.wide (h : IsRef w r n R F) (hs : ∀ b, F b → G b) (hb : ∀ b, G b → b < w.heap.size) : IsRef w r n R G := let ⟨_, _, _, h⟩ := h; ⟨_, _, _, h.wide hs hb⟩
theorem IsRef.bound (h : IsRef w r n R F) : ∀ b, F b → b < w.heap.size := let ⟨_, _, _, h⟩ := h; h.bound
theorem IsRef.grown (h : IsRef w r n R F) (hx : Ext Nil w w') : IsRef w' r n R F := h.ext hx fun _ _ h => h

def updN {β : Type} (f : Nat → β) (k : Nat) (v : β) (j : Nat) : β := if j = k then v else f j
/-- One link's row is another one. -/
theorem RefAt.turn (h : RefAt w r n R F rb rows ms) {k : Lk} (hk : thereB n k = true) {v : Value} {l : List Value} {L : List (List UInt8)}
    (hx : Ext G w w') (hG : ∀ b, G b → b = rb ∨ (rvR rows (num k)).ownBlock = some b)
    (hrows : w'.heap[rb]? = some (.cells (rows.setIfInBounds (num k) v) 88 (0, 0)))
    (hrow : Own w' v 32 1 l.length l) (hlen : l.length = L.length)
    (hmsg : ∀ (i : Nat) (m : Value) (x : List UInt8), l[i]? = some m → L[i]? = some x → MsgIs w' m x ∧ ∀ b, m.ownBlock = some b → F b ∨ w.heap.size ≤ b)
    (hrb : ∀ b, v.ownBlock = some b → (rvR rows (num k)).ownBlock = some b ∨ w.heap.size ≤ b) :
    RefAt w' r n (upd R k L) (Grow F w w') rb (rows.setIfInBounds (num k) v) (updN ms (num k) l) := by
  have hlt := num_lt h.few hk
  have hrv : ∀ j, rvR (rows.setIfInBounds (num k) v) j = if j = num k then v else rvR rows j := fun j => by
    unfold rvR
    rw [Array.getElem?_setIfInBounds]
    by_cases e : num k = j
    · rw [if_pos e, if_pos e.symm, if_pos (by rw [h.size]; exact hlt)]; rfl
    · rw [if_neg e, if_neg (fun e' => e e'.symm)]
  have notG : ∀ j, j ≠ num k → ∀ b, (rvR rows j).ownBlock = some b → ¬ G b := fun j hj b hb g => by
    rcases hG b g with e | e
    · exact h.ne_b_row hb e
    · exact hj (h.rowSep _ _ _ hb e)
  have rlt : ∀ j b, (rvR rows j).ownBlock = some b → b < w.heap.size := fun j b hb => (h.row j).lt b hb
  have hnum : ∀ j, thereB n j = true → j ≠ k → num j ≠ num k := fun j hj hne e => hne (num_inj h.few hj hk e)
  refine { cells := hx.heap h.cells fun g => ?_, hrows := hrows, size := by simp [h.size], few := h.few, row := ?_, len := ?_, msg := ?_, rest := ?_, rowSep := ?_, fr := .inl h.fr, fb := .inl h.fb, frow := ?_, fmsg := ?_, bound := ?_ }
  · rcases hG r g with e | e
    · exact h.ne_rb e
    · exact h.ne_r_row e rfl
  · intro j
    rw [hrv]; unfold updN
    split
    · exact hrow
    · rename_i hj; exact (h.row j).ext hx (notG j hj)
  · intro j hj
    unfold upd updN
    by_cases e : j = k
    · subst e; simp [hlen]
    · rw [if_neg e, if_neg (hnum j hj e)]; exact h.len j hj
  · intro j i m x hj hm hl
    unfold upd at hl
    unfold updN at hm
    by_cases e : j = k
    · subst e
      simp only [if_true] at hm hl
      exact (hmsg i m x hm hl).1
    · rw [if_neg (hnum j hj e)] at hm
      rw [if_neg e] at hl
      exact Own.ext (h.msg j i m x hj hm hl) hx fun b hb g => (hG b g).elim (h.ne_b_msg hj hm hb) (h.ne_row_msg hj hm hb)
  · intro j hj
    unfold upd
    rw [if_neg (fun e => by rw [e, hk] at hj; cases hj)]
    exact h.rest j hj
  · intro j j' b hb hb'
    rw [hrv] at hb hb'
    split at hb <;> split at hb'
    · simp [*]
    · rename_i e1 e2
      rcases hrb b hb with h1 | h1
      · exact absurd (h.rowSep _ _ _ hb' h1) e2
      · have := rlt j' b hb'; omega
    · rename_i e1 e2
      rcases hrb b hb' with h1 | h1
      · exact absurd (h.rowSep _ _ _ hb h1) e1
      · have := rlt j b hb; omega
    · exact h.rowSep _ _ _ hb hb'
  · intro j b hb
    rw [hrv] at hb
    split at hb
    · rcases hrb b hb with h1 | h1
      · exact .inl (h.frow _ _ h1)
      · exact .inr ⟨h1, hrow.lt b hb⟩
    · exact .inl (h.frow _ _ hb)
  · intro j i m b hj hm hb
    unfold updN at hm
    by_cases e : j = k
    · subst e
      simp only [if_true] at hm
      have hi : i < L.length := by rw [← hlen]; exact (List.getElem?_eq_some_iff.1 hm).1
      obtain ⟨h1, h2⟩ := hmsg i m _ hm (List.getElem?_eq_getElem hi)
      exact (h2 b hb).imp id fun h => ⟨h, Own.lt h1 b hb⟩
    · rw [if_neg (hnum j hj e)] at hm
      exact .inl (h.fmsg j i m b hj hm hb)
  · intro b hb
    rcases hb with hb | hb
    · exact Nat.lt_of_lt_of_le (h.bound b hb) hx.size
    · exact hb.2

theorem RefAt.cellN (h : RefAt w r n R F rb rows ms) : w.cell? ⟨r, 0, none⟩ = some (.int .i64 n) ∧ w.cell? ⟨r, 1, none⟩ = some (.slice (some ⟨rb, 0, none⟩) 81 81) := by
  refine ⟨?_, ?_⟩ <;> (rw [cell_of_row w r _ _ _ (0, 0) h.cells]; rfl)
theorem RefAt.cellR (h : RefAt w r n R F rb rows ms) {j : Nat} (hj : j < 81) : w.cell? ⟨rb, j, none⟩ = some (rvR rows j) := by
  rw [cell_of_row w rb _ _ _ (0, 0) h.hrows]
  unfold rvR
  rw [Array.getElem?_eq_getElem (by rw [h.size]; exact hj)]; rfl
theorem RefAt.frozenR (h : RefAt w r n R F rb rows ms) (j : Nat) : w.frozen? ⟨rb, j, none⟩ = false := by
  simp [World.frozen?, h.hrows]
theorem RefAt.setR (h : RefAt w r n R F rb rows ms) (j : Nat) (v : Value) : (w.setCell ⟨rb, j, none⟩ v).heap[rb]? = some (.cells (rows.setIfInBounds j v) 88 (0, 0)) := by
  simp [World.setCell, Array.getElem?_modify, h.hrows]
end

set_option maxHeartbeats 1000000 in
theorem there_ref (r : Nat) (n x y : Int) (w : World) (hn : w.cell? ⟨r, 0, none⟩ = some (.int .i64 n)) :
    Calls Tryd.prog 52 #[.pointer (some ⟨r, 0, none⟩), .int .i64 x, .int .i64 y] w fun e w' => e = .returned (.bool (thereB n (x, y))) ∧ w = w' := by
  by_cases h1 : 1 ≤ x
  case neg =>
    have d1 : decide (1 ≤ x) = false := by simpa using h1
    have e := Lib.hid h1
    clear h1
    go_enter Tryd.func52, Tryd.ntmps52
    go_wp2
    go_ret
    exact ⟨by rw [show thereB n (x, y) = false from by unfold thereB; first | exact decide_eq_false (by have := e.out; show ¬ (1 ≤ x ∧ x ≤ n ∧ 1 ≤ y ∧ y ≤ n ∧ x ≠ y); omega) | exact decide_eq_true (by have := e.out; show (1 ≤ x ∧ x ≤ n ∧ 1 ≤ y ∧ y ≤ n ∧ x ≠ y); omega)]; rfl, rfl⟩
  by_cases h2 : x ≤ n
  case neg =>
    have d2 : decide (x ≤ n) = false := by simpa using h2
    have e := Lib.hid h2
    clear h2
    go_enter Tryd.func52, Tryd.ntmps52
    go_wp2
    go_ret
    exact ⟨by rw [show thereB n (x, y) = false from by unfold thereB; first | exact decide_eq_false (by have := e.out; show ¬ (1 ≤ x ∧ x ≤ n ∧ 1 ≤ y ∧ y ≤ n ∧ x ≠ y); omega) | exact decide_eq_true (by have := e.out; show (1 ≤ x ∧ x ≤ n ∧ 1 ≤ y ∧ y ≤ n ∧ x ≠ y); omega)]; rfl, rfl⟩
  by_cases h3 : 1 ≤ y
  case neg =>
    have d3 : decide (1 ≤ y) = false := by simpa using h3
    have e := Lib.hid h3
    clear h3
    go_enter Tryd.func52, Tryd.ntmps52
    go_wp2
    go_ret
    exact ⟨by rw [show thereB n (x, y) = false from by unfold thereB; first | exact decide_eq_false (by have := e.out; show ¬ (1 ≤ x ∧ x ≤ n ∧ 1 ≤ y ∧ y ≤ n ∧ x ≠ y); omega) | exact decide_eq_true (by have := e.out; show (1 ≤ x ∧ x ≤ n ∧ 1 ≤ y ∧ y ≤ n ∧ x ≠ y); omega)]; rfl, rfl⟩
  by_cases h4 : y ≤ n
  case neg =>
    have d4 : decide (y ≤ n) = false := by simpa using h4
    have e := Lib.hid h4
    clear h4
    go_enter Tryd.func52, Tryd.ntmps52
    go_wp2
    go_ret
    exact ⟨by rw [show thereB n (x, y) = false from by unfold thereB; first | exact decide_eq_false (by have := e.out; show ¬ (1 ≤ x ∧ x ≤ n ∧ 1 ≤ y ∧ y ≤ n ∧ x ≠ y); omega) | exact decide_eq_true (by have := e.out; show (1 ≤ x ∧ x ≤ n ∧ 1 ≤ y ∧ y ≤ n ∧ x ≠ y); omega)]; rfl, rfl⟩
  by_cases h5 : x = y
  case pos =>
    have d5 : ((x : Int) != y) = false := by simp [h5]
    have e := Lib.hid h5
    clear h5
    go_enter Tryd.func52, Tryd.ntmps52
    go_wp2
    go_ret
    exact ⟨by rw [show thereB n (x, y) = false from by unfold thereB; first | exact decide_eq_false (by have := e.out; show ¬ (1 ≤ x ∧ x ≤ n ∧ 1 ≤ y ∧ y ≤ n ∧ x ≠ y); omega) | exact decide_eq_true (by have := e.out; show (1 ≤ x ∧ x ≤ n ∧ 1 ≤ y ∧ y ≤ n ∧ x ≠ y); omega)]; rfl, rfl⟩
  case neg =>
    have d5 : ((x : Int) != y) = true := by simp [h5]
    have e := Lib.hid h5
    clear h5
    go_enter Tryd.func52, Tryd.ntmps52
    go_wp2
    go_ret
    exact ⟨by rw [show thereB n (x, y) = true from by unfold thereB; first | exact decide_eq_false (by have := e.out; show ¬ (1 ≤ x ∧ x ≤ n ∧ 1 ≤ y ∧ y ≤ n ∧ x ≠ y); omega) | exact decide_eq_true (by have := e.out; show (1 ≤ x ∧ x ≤ n ∧ 1 ≤ y ∧ y ≤ n ∧ x ≠ y); omega)]; rfl, rfl⟩

set_option maxHeartbeats 1000000 in
theorem row_ref {w : World} {r rb : Nat} {n x y : Int} (hn : n ≤ 8) (hc : w.cell? ⟨r, 1, none⟩ = some (.slice (some ⟨rb, 0, none⟩) 81 81)) (ht : thereB n (x, y) = true) :
    Calls Tryd.prog 53 #[.pointer (some ⟨r, 0, none⟩), .int .i64 x, .int .i64 y] w fun e w' => e = .returned (.pointer (some ⟨rb, num (x, y), none⟩)) ∧ w = w' := by
  have h := there_is ht
  obtain ⟨h1, h2, h3, h4, _⟩ := h
  simp only at h1 h2 h3 h4
  have h5 : 0 ≤ 9 * x + y := by omega
  have h6 : 9 * x + y < 81 := by omega
  have e1 : IntKind.i64.wrap (9 * x) = 9 * x := by rw [IntKind.wrap_i64]; omega
  have e2 : IntKind.i64.wrap (9 * x + y) = 9 * x + y := by rw [IntKind.wrap_i64]; omega
  go_enter Tryd.func53, Tryd.ntmps53
  go_wp2
  go_ret
  exact ⟨by unfold num; rfl, rfl⟩

set_option maxHeartbeats 400000 in
theorem round_ref (i n : Int) (w : World) (h0 : 0 < n) (h1 : n ≤ 4000000) :
    Calls Tryd.prog 51 #[.int .i64 i, .int .i64 n] w fun e w' => e = .returned (.int .i64 (i % n)) ∧ w = w' := by
  have hne : (n == 0) = false := by rw [beq_eq_false_iff_ne]; omega
  have h2 := Int.tmod_lt_of_pos i h0
  have h3 : -n < i.tmod n := by
    have := Int.tmod_lt_of_pos (-i) h0
    rw [Int.neg_tmod] at this; omega
  have hr : (i.tmod n + n) % n = i % n := by
    rw [Int.add_emod_right]
    rw [Int.tmod_def, Int.sub_emod, Int.mul_emod_right]; simp
  by_cases hneg : i.tmod n < 0
  case pos =>
    have hq : Hid (i.tmod n + n = i % n) := by
      show i.tmod n + n = i % n
      rw [← hr, Int.emod_eq_of_lt (by omega) (by omega)]
    clear hr
    go_enter Tryd.func51, Tryd.ntmps51
    go_wp2
    go_ret
    exact ⟨show Ending.returned (.int .i64 (i.tmod n + n)) = _ by rw [hq.out], rfl⟩
  case neg =>
    have hq : Hid (i.tmod n = i % n) := by
      show i.tmod n = i % n
      rw [← hr, Int.add_emod_right, Int.emod_eq_of_lt (by omega) (by omega)]
    clear hr
    go_enter Tryd.func51, Tryd.ntmps51
    go_wp2
    go_ret
    exact ⟨show Ending.returned (.int .i64 (i.tmod n)) = _ by rw [hq.out], rfl⟩

set_option maxHeartbeats 1000000 in
theorem copied_ref {w : World} {v : Value} {l : List UInt8} (hv : BytesAt w v l) (hl : l.length ≤ 4000000) :
    Calls Tryd.prog 50 #[v] w fun e w' => ∃ m, e = .returned m ∧ MsgIs w' m l ∧ Ext Nil w w' ∧ ∀ b, m.ownBlock = some b → w.heap.size ≤ b := by
  obtain ⟨hs, ⟨ad, c, rfl, _⟩, _⟩ := hv
  have hlen : (bytesV l).length = l.length := by simp [bytesV]
  go_enter Tryd.func50, Tryd.ntmps50
  go_wp2_with (at_builtin; refine wpList_append rfl _ _ _ rfl elByte ⟨_, Tryd.underlying32, fun _ h => by cases h⟩ (own_new w #[] 5 1 0 0 [] rfl (Nat.le_refl _) (Nat.zero_le _) (by simp) (by simp)) (hs.ext0 (F := Nil) ((Ext.refl _ _).alloc _) fun _ _ _ h => h) rfl rfl (by omega) (by unfold maxLen; omega) ?_; intro v' w' hA)
  go_ret
  have h1 := hA.own
  rw [Nat.zero_add] at h1
  refine ⟨_, rfl, h1, (((Ext.refl Nil w).alloc (.cells #[] 5)).trans hA.ext ?_), ?_⟩
  · intro k hk h
    have h' : w.heap.size = k := by simpa [Value.ownBlock] using h
    exact absurd hk (by omega)
  · intro b hb
    rcases hA.lies with h | ⟨k, h, h2, _⟩
    · have : w.heap.size = b := by simpa [Value.ownBlock] using h.symm.trans hb
      exact Nat.le_of_eq this
    · have : k = b := by simpa using h.symm.trans hb
      simp at h2
      omega
end Go.Proofs.YtbpjgdmmijehnaaDoor
