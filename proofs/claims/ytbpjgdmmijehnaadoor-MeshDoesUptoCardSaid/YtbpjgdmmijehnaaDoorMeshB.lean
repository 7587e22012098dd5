/-
  What Mesh.asked answers.
-/
import Derived.Test.YtbpjgdmmijehnaaDoorMeshA
namespace Go.Proofs.YtbpjgdmmijehnaaDoor
open Go.RowKit Go.X

/-- What is wrong with a link, and with numbers of messages on it. -/
def askedV (n : Int) (R : Lk → List (List UInt8)) (k : Lk) (ls : List Int) : Int :=
  if thereB n k then (if ls.all (fun i => decide (0 ≤ i ∧ i < (R k).length)) then 0 else 2) else 1

/-- It answers v and turns nothing. -/
def Answers (v : Value) (w : World) (e : Ending) (w' : World) : Prop := e = .returned v ∧ Ext Nil w w'

/-- The numbers of a list in memory. -/
def Ints (w : World) (v : Value) (ls : List Int) : Prop := ∃ ad cap, v = .slice ad ls.length cap ∧ ∀ i x, ls[i]? = some x → ∃ b o, ad = some ⟨b, o, none⟩ ∧ w.cell? ⟨b, o + i, none⟩ = some (.int .i64 x)

theorem row_shape {w : World} {a : Nat} {n lk : Int} {R : Lk → List (List UInt8)} {F : Nat → Prop} {q : Int} {mb : Nat} {es : List (Ent Lk)} {ms : Lk → List Value} (h : MeshAt w a n lk R F q mb es ms) (k : Lk) :
    ∃ ad cap, rv es k = .slice ad (R k).length cap := by
  rw [← h.len k]
  rcases (h.row k).shape with ⟨e, h1, _⟩ | ⟨b, o, cap, e, _⟩
  · exact ⟨none, 0, by rw [e, h1]⟩
  · exact ⟨_, cap, e⟩

theorem look_mesh {w : World} {a : Nat} {n lk : Int} {R : Lk → List (List UInt8)} {F : Nat → Prop} {q : Int} {mb : Nat} {es : List (Ent Lk)} {ms : Lk → List Value} (h : MeshAt w a n lk R F q mb es ms) (k : Lk) :
    ∀ w', Ext Nil w w' → (Instr.lookup 57 (.map (some mb)) (.agg #[.int .i64 k.1, .int .i64 k.2]) false).run Tryd.prog w' = .ok (rv es k) w' :=
  fun _ hx => X.run_lookup linkKey Tryd.underlying57 zeroRow (h.map.ext hx id) k false

set_option maxHeartbeats 1000000 in
theorem asked_any {w : World} {a : Nat} {n lk : Int} {R : Lk → List (List UInt8)} {F : Nat → Prop} (h : IsMesh w a n lk R F) (x y : Int) (v : Value) (ls : List Int) (hv : Ints w v ls) (hlen : ls.length ≤ 1000) :
    Calls Tryd.prog 26 #[.pointer (some ⟨a, 0, none⟩), .agg #[.int .i64 x, .int .i64 y], v] w (Answers (.int .i64 (askedV n R (x, y) ls)) w) := by
  obtain ⟨q, mb, es, ms, h⟩ := h
  obtain ⟨ad, cap, rfl, hc⟩ := hv
  have hsz := World.block_lt_of_cell? w _ h.cell.1
  have hc2 := h.cell.2.2.1
  cases hth : thereB n (x, y) with
  | false =>
    have hth' := Lib.hid hth
    go_enter Tryd.func26, Tryd.ntmps26
    go_wp2_with (go_at_call 45; refine (there_any a n x y _ (by simp [World.cell?_alloc_past, hsz, hc2])).mono ?_; rintro e w1 ⟨rfl, hx1⟩; rw [hth'.out])
    go_ret
    exact ⟨by unfold askedV; rw [hth'.out]; rfl, ((Ext.refl _ _).alloc _).extN hx1⟩
  | true =>
    have hth' := Lib.hid hth
    clear hth
    go_enter Tryd.func26, Tryd.ntmps26
    go_wp2_with (go_at_call 45; refine (there_any a n x y _ (by simp [World.cell?_alloc_past, hsz, hc2])).mono ?_; rintro e w1 ⟨rfl, hx1⟩; rw [hth'.out])
    have hx2 : Ext Nil w w1 := ((Ext.refl _ _).alloc _).extN hx1
    have hs1 : w.heap.size < w1.heap.size := by have := hx1.size; simp at this; omega
    have c1 : w1.cell? ⟨w.heap.size, 0, none⟩ = some (.int .i64 x) := by rw [hx1.cells _ _ (by simp)]; simp
    have c2 : w1.cell? ⟨w.heap.size, 1, none⟩ = some (.int .i64 y) := by rw [hx1.cells _ _ (by simp)]; simp
    have Hx2 := Lib.hid hx2
    clear hx1 hx2 hc2
    obtain ⟨kb, hkb⟩ : ∃ kb, kb = w.heap.size := ⟨_, rfl⟩
    rw [← hkb] at c1 c2 hs1 hsz ⊢
    clear hkb
    go_loopw [15] (fun i wr => ∃ j : Nat, j ≤ ls.length ∧ i = .int .i64 j ∧ Ext Nil w1 wr ∧ ∀ i' x', i' < j → ls[i']? = some x' → 0 ≤ x' ∧ x' < (R (x, y)).length) (fun i _ => ls.length - (intOf i).toNat)
    case atStart => exact ⟨0, Nat.zero_le _, rfl, Ext.refl _ _, by omega⟩
    case round =>
      obtain ⟨j, hj, rfl, hxr, hok⟩ := hrel
      have hxw : Ext Nil w wr := Hx2.out.extN hxr
      have m3 : wr.cell? ⟨a, 3, none⟩ = some (.map (some mb)) := hxw.cell h.cell.2.2.2.1 id
      have k1 : wr.cell? ⟨kb, 0, none⟩ = some (.int .i64 x) := hxr.cell c1 id
      have k2 : wr.cell? ⟨kb, 1, none⟩ = some (.int .i64 y) := hxr.cell c2 id
      by_cases hlt : j < ls.length
      case neg =>
        have hall : askedV n R (x, y) ls = 0 := by
          unfold askedV
          rw [hth'.out, if_pos rfl, if_pos]
          rw [List.all_eq_true]
          intro z hz
          obtain ⟨i', hi', rfl⟩ := List.getElem_of_mem hz
          exact decide_eq_true (hok i' _ (by omega) (List.getElem?_eq_getElem hi'))
        go_wp2
        go_ret
        exact ⟨by rw [hall]; rfl, hxw⟩
      case pos =>
        obtain ⟨z, hz⟩ : ∃ z, ls[j]? = some z := ⟨_, List.getElem?_eq_getElem hlt⟩
        obtain ⟨b, o, rfl, hcell⟩ := hc j z hz
        have hcr : wr.cell? ⟨b, o + j, none⟩ = some (.int .i64 z) := hxw.cell hcell id
        obtain ⟨ad2, cap2, hrv⟩ := row_shape h (x, y)
        have hl := look_mesh h (x, y)
        rw [hrv] at hl
        have hl2 : ∀ nn, (Instr.lookup 57 (.map (some mb)) (.agg #[.int .i64 x, .int .i64 y]) false).run Tryd.prog (wr.drewN nn) = .ok (.slice ad2 (R (x, y)).length cap2) (wr.drewN nn) := fun nn => hl _ (hxw.drewN nn)
        clear hl
        have Hz := Lib.hid hz
        have Hrv := Lib.hid hrv
        clear hz hrv hcell c1 c2 hc
        by_cases h0 : z < 0
        case pos =>
          have hbad : askedV n R (x, y) ls = 2 := by
            unfold askedV
            rw [hth'.out, if_pos rfl, if_neg]
            intro hall
            have := List.all_eq_true.1 hall z (List.mem_of_getElem? Hz.out)
            simp at this; omega
          go_wp2
          go_quiet (fail)
          go_wp2
          go_ret
          exact ⟨by rw [hbad]; rfl, hxw.drewN _⟩
        case neg =>
          have d0 : decide (z < 0) = false := by simpa using h0
          by_cases h1 : ((R (x, y)).length : Int) ≤ z
          case pos =>
            have hbad : askedV n R (x, y) ls = 2 := by
              unfold askedV
              rw [hth'.out, if_pos rfl, if_neg]
              intro hall
              have := List.all_eq_true.1 hall z (List.mem_of_getElem? Hz.out)
              simp at this; omega
            go_wp2
            go_quiet (fail)
            go_wp2
            go_ret
            exact ⟨by rw [hbad]; rfl, hxw.drewN _⟩
          case neg =>
            have d1 : decide (((R (x, y)).length : Int) ≤ z) = false := by simpa using h1
            go_wp2
            go_quiet (fail)
            go_wp2
            go_roundw
            case rel =>
              refine ⟨j + 1, by omega, by go_num, hxr.drewN _, fun i' x' hi' hx' => ?_⟩
              by_cases e : i' = j
              · subst e
                have := Hz.out.symm.trans hx'
                simp only [Option.some.injEq] at this
                subst this; omega
              · exact hok i' x' (by omega) hx'
            case measure => simp [intOf]; omega
end Go.Proofs.YtbpjgdmmijehnaaDoor
