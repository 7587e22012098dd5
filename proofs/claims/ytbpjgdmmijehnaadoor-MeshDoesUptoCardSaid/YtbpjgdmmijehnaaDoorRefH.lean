/-
  The document's mesh: New.
-/
import Derived.Test.YtbpjgdmmijehnaaDoorRefG
namespace Go.Proofs.YtbpjgdmmijehnaaDoor
open Go.RowKit Go.X

def NewR (n : Int) (w : World) (e : Ending) (w' : World) : Prop :=
  if 1 ≤ n ∧ n ≤ 8 then ∃ r, e = .returned (.tuple #[.pointer (some ⟨r, 0, none⟩), .int .i64 0]) ∧ IsRef w' r n (fun _ => []) (fun b => w.heap.size ≤ b ∧ b < w'.heap.size) ∧ Ext Nil w w'
  else e = .returned (.tuple #[.pointer none, .int .i64 1]) ∧ w = w'

set_option maxRecDepth 100000 in
set_option maxHeartbeats 1000000 in
theorem new_ref (n : Int) (w : World) : Calls Tryd.prog 18 #[.int .i64 n] w (NewR n w) := by
  by_cases h1 : n < 1
  · go_enter Tryd.func18, Tryd.ntmps18
    go_wp2
    go_ret2
    unfold NewR
    rw [if_neg (by omega)]
    exact ⟨rfl, rfl⟩
  by_cases h2 : 8 < n
  · go_enter Tryd.func18, Tryd.ntmps18
    go_wp2
    go_ret2
    unfold NewR
    rw [if_neg (by omega)]
    exact ⟨rfl, rfl⟩
  have hms : (Instr.makeSlice 72 (.int .i64 81) (.int .i64 81)).run Tryd.prog w = .ok (.slice (some ⟨w.heap.size, 0, none⟩) 81 81) (w.alloc (.cells (Array.replicate 81 nilS) 88)) := by
    have hi : ∃ i z, Tryd.prog.info? 88 = some i ∧ i.zero = some z ∧ i.size = 1 ∧ i.bytes = 24 ∧ madeCells z.cells (81 * i.size) = Array.replicate 81 nilS := by
      have h : (Tryd.prog.info? 88).bind (fun i => i.zero.map fun z => (i.size, i.bytes, madeCells z.cells (81 * i.size))) = some (1, 24, Array.replicate 81 nilS) := by kernel_rfl
      cases h0 : Tryd.prog.info? 88 with
      | none => rw [h0] at h; cases h
      | some i =>
        rw [h0] at h
        cases hz : i.zero with
        | none => simp [hz] at h
        | some z =>
          simp only [Option.bind_some, hz, Option.map_some, Option.some.injEq, Prod.mk.injEq] at h
          exact ⟨i, z, rfl, hz, h.1, h.2.1, h.2.2⟩
    obtain ⟨i, z, hi, hz, h1, h2, h3⟩ := hi
    have := run_makeSlice (P := Tryd.prog) w 72 88 i z Tryd.underlying72 hi hz .i64 .i64 81 81 (by decide) (by decide) (by rw [h1]; decide) (by rw [h2]; decide) (by decide)
    rw [show ((81 : Int)).toNat = 81 from rfl, h3] at this
    exact this
  go_enter Tryd.func18, Tryd.ntmps18
  go_wp2
  go_ret2
  unfold NewR
  rw [if_pos (by omega)]
  have hx : Ext Nil w ((w.alloc (.cells (Array.replicate 81 nilS) 88)).alloc (.cells #[.int .i64 n, .slice (some ⟨w.heap.size, 0, none⟩) 81 81] 74)) := ((Ext.refl Nil w).alloc _).alloc _
  have hrv : ∀ j, rvR (Array.replicate 81 nilS) j = nilS := fun j => by
    unfold rvR
    rw [Array.getElem?_replicate]
    split <;> rfl
  refine ⟨w.heap.size + 1, rfl, ⟨w.heap.size, Array.replicate 81 nilS, fun _ => [], ?_⟩, hx⟩
  exact {
    cells := by
      have := heap_alloc_new (w.alloc (.cells (Array.replicate 81 nilS) 88)) (.cells #[.int .i64 n, .slice (some ⟨w.heap.size, 0, none⟩) 81 81] 74)
      rwa [World.size_alloc] at this
    hrows := by
      have h1 : Ext Nil (w.alloc (.cells (Array.replicate 81 nilS) 88)) ((w.alloc (.cells (Array.replicate 81 nilS) 88)).alloc (.cells #[.int .i64 n, .slice (some ⟨w.heap.size, 0, none⟩) 81 81] 74)) := (Ext.refl _ _).alloc _
      exact h1.heap (heap_alloc_new w (.cells (Array.replicate 81 nilS) 88)) id
    size := by simp
    few := by omega
    row := fun j => by rw [hrv]; exact Own.nil _ _ _
    len := fun _ _ => rfl
    msg := fun k i m l _ hm => by simp at hm
    rest := fun _ _ => rfl
    rowSep := fun j j' b hb => by rw [hrv] at hb; cases hb
    fr := ⟨by omega, by simp⟩
    fb := ⟨Nat.le_refl _, by simp; omega⟩
    frow := fun j b hb => by rw [hrv] at hb; cases hb
    fmsg := fun k i m b _ hm => by simp at hm
    bound := fun b hb => hb.2 }
end Go.Proofs.YtbpjgdmmijehnaaDoor
