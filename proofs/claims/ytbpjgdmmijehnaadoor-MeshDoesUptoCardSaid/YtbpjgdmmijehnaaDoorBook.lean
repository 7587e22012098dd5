/-
  The book of what came out: holds, full.
-/
import Derived.Test.YtbpjgdmmijehnaaDoorSend
namespace Go.Proofs.YtbpjgdmmijehnaaDoor
open Go.RowKit Go.X

abbrev Out := Value × Value × List UInt8
structure BookAt (w : World) (bk : Nat) (os : List Out) (q : Int) (vo vw : Value) (K : Nat → Prop) : Prop where
  cells : w.heap[bk]? = some (.cells #[vo, vw, .int .i64 q] 51 (0, 0))
  outs : Own w vo 32 1 os.length (os.map (·.1))
  wants : Own w vw 32 1 os.length (os.map (·.2.1))
  msg : ∀ x ∈ os, MsgIs w x.1 x.2.2 ∧ MsgIs w x.2.1 x.2.2 ∧ x.2.2.length ≤ 2097194
  sep : ∀ (i j : Nat) (x y : Out) (b : Nat), os[i]? = some x → os[j]? = some y → x.1.ownBlock = some b → y.1.ownBlock = some b → i = j
  ow : ∀ b, vo.ownBlock = some b → vw.ownBlock ≠ some b
  kb : K bk
  ko : ∀ b, vo.ownBlock = some b → K b
  kw : ∀ b, vw.ownBlock = some b → K b
  km : ∀ x ∈ os, ∀ b, (x.1.ownBlock = some b ∨ x.2.1.ownBlock = some b) → K b
  bound : ∀ b, K b → b < w.heap.size

section
variable {w w' : World} {bk : Nat} {os : List Out} {q : Int} {vo vw v : Value} {K G : Nat → Prop} {e : TypeId} {n : Nat} {xs : List Value}
theorem BookAt.cell (h : BookAt w bk os q vo vw K) : w.cell? ⟨bk, 0, none⟩ = some vo ∧ w.cell? ⟨bk, 1, none⟩ = some vw ∧ w.cell? ⟨bk, 2, none⟩ = some (.int .i64 q) := by
  refine ⟨?_, ?_, ?_⟩ <;> (rw [cell_of_row w bk _ _ _ (0, 0) h.cells]; rfl)
theorem BookAt.ext (h : BookAt w bk os q vo vw K) (hx : Ext G w w') (hn : ∀ b, K b → ¬ G b) : BookAt w' bk os q vo vw K :=
  { h with
    cells := hx.heap h.cells (hn bk h.kb)
    outs := h.outs.ext hx fun b hb => hn b (h.ko b hb)
    wants := h.wants.ext hx fun b hb => hn b (h.kw b hb)
    msg := fun x hx' => let ⟨h1, h2, h3⟩ := h.msg x hx'; ⟨Own.ext h1 hx fun b hb => hn b (h.km x hx' b (.inl hb)), Own.ext h2 hx fun b hb => hn b (h.km x hx' b (.inr hb)), h3⟩
    bound := fun b hb => Nat.lt_of_lt_of_le (h.bound b hb) hx.size }
theorem own_elem {i : Nat} (h : Own w v e 1 n xs) (hi : i < n) : ∃ b o cap u, v = .slice (some ⟨b, o, none⟩) n cap ∧ n ≤ cap ∧ xs[i]? = some u ∧ w.cell? ⟨b, o + i, none⟩ = some u := by
  have hx : xs[i]? = some (xs[i]'(by have := h.1; omega)) := List.getElem?_eq_getElem _
  rcases h.shape with ⟨_, h1, _⟩ | ⟨b, o, cap, h1, h2, _, h3⟩
  · omega
  · exact ⟨b, o, cap, _, h1, h2, hx, h3 i _ hx⟩

set_option maxRecDepth 100000 in
set_option maxHeartbeats 2000000 in
theorem holds_any (h : BookAt w bk os q vo vw K) (hlen : os.length ≤ 1000) :
    Calls Tryd.prog 21 #[.pointer (some ⟨bk, 0, none⟩)] w (Answers (.bool true) w) := by
  obtain ⟨c0, c1, _⟩ := h.cell
  obtain ⟨ado, co, rfl, _⟩ := h.outs.slice2
  obtain ⟨adw, cw, rfl, _⟩ := h.wants.slice2
  have H := Lib.hid h; clear h
  have C0 := Lib.hid c0
  have C1 := Lib.hid c1
  clear c0 c1
  go_enter Tryd.func21, Tryd.ntmps21
  go_wp2_with fail
  go_loopw [3] (fun i wr => ∃ k : Nat, i = .int .i64 k ∧ k ≤ os.length ∧ Ext Nil w wr) (fun i _ => os.length - (intOf i).toNat)
  case atStart => exact ⟨0, rfl, by omega, Ext.refl _ _⟩
  case round =>
    obtain ⟨k, rfl, hk, hxr⟩ := hrel
    have c0 := hxr.cell C0.out id
    have c1 := hxr.cell C1.out id
    have Hxr := Lib.hid hxr
    clear hxr
    by_cases hlt : k < os.length
    case pos =>
      obtain ⟨b1, o1, cap1, u1, e1, _, hu1, hc1⟩ := own_elem H.out.outs hlt
      obtain ⟨b2, o2, cap2, u2, e2, _, hu2, hc2⟩ := own_elem H.out.wants hlt
      injection e1 with e1 _ e1'
      injection e2 with e2 _ e2'
      subst e1 e1' e2 e2'
      obtain ⟨x, hx⟩ : ∃ x, os[k]? = some x := ⟨_, List.getElem?_eq_getElem hlt⟩
      rw [List.getElem?_map, hx] at hu1 hu2
      simp only [Option.map_some, Option.some.injEq] at hu1 hu2
      obtain ⟨m1, m2, _⟩ := H.out.msg x (List.mem_of_getElem? hx)
      rw [hu1] at m1
      rw [hu2] at m2
      obtain ⟨ad1, cc1, rfl⟩ := Own.slice m1
      obtain ⟨ad2, cc2, rfl⟩ := Own.slice m2
      have hs : ∀ nn, Calls Tryd.prog 11 #[.slice ad1 x.2.2.length cc1, .slice ad2 x.2.2.length cc2] (wr.drewN nn) fun e w' => e = .returned (.bool true) ∧ w' = wr.drewN nn := fun nn => by
        have m1' := (Own.ext m1 (Hxr.out.drewN nn) fun _ _ h => h).src (bv_one _)
        have m2' := (Own.ext m2 (Hxr.out.drewN nn) fun _ _ h => h).src (bv_one _)
        have := same_any (l := x.2.2) (m := x.2.2) ⟨m1', ad1, cc1, rfl⟩ ⟨m2', ad2, cc2, rfl⟩
        rw [beq_self_eq_true] at this
        exact this.mono fun _ _ h => ⟨h.1, h.2.symm⟩
      have d1 := Hxr.out.cell hc1 id
      have d2 := Hxr.out.cell hc2 id
      have Hs := Lib.hid hs
      clear hs m1 m2 hu1 hu2 hc1 hc2 hx
      go_wp2_with fail
      go_quiet ((go_at_call 11; exact Calls.quiet_of_same (Hs.out _)))
      go_wp2
      go_roundw
      case rel => exact ⟨k + 1, by go_num, by omega, Hxr.out.drewN _⟩
      case measure => simp [intOf]; omega
    case neg =>
      go_wp2
      go_ret
      exact ⟨rfl, Hxr.out⟩

/-- The mark of a number. -/
def mk1 (i : Nat) : UInt8 := UInt8.ofNat (i % 251 + 1)
theorem mk1_nat (i : Nat) : ((mk1 i).toNat : Int) = (i : Int) % 251 + 1 := by
  unfold mk1; rw [UInt8.toNat_ofNat']; omega
set_option maxRecDepth 100000 in
set_option maxHeartbeats 2000000 in
theorem full_any (i L : Nat) (h : Own w v 5 1 L (bv (List.replicate L (mk1 i)))) (hL : L ≤ 4000000) (hi : i ≤ 1000) :
    Calls Tryd.prog 42 #[v, .int .i64 i] w fun e w' => e = .returned (.bool true) ∧ w = w' := by
  obtain ⟨ad, co, rfl⟩ := h.slice
  have H := Lib.hid h; clear h
  have e1 : 0 ≤ (i : Int) % 251 := by omega
  have e2 : (i : Int) % 251 < 251 := by omega
  go_enter Tryd.func42, Tryd.ntmps42
  go_wp2_with fail
  go_loop [5] (fun j => ∃ k : Nat, j = .int .i64 k ∧ k ≤ L) (fun j => L - (intOf j).toNat)
  case atStart => exact ⟨0, rfl, by omega⟩
  case round =>
    obtain ⟨k, rfl, hk⟩ := hrel
    by_cases hlt : k < L
    case pos =>
      obtain ⟨b1, o1, cap1, u1, e1, _, hu1, hc1⟩ := own_elem H.out hlt
      injection e1 with e1 _ e1'
      subst e1 e1'
      have : u1 = .int .u8 ((i : Int) % 251 + 1) := by
        rw [← mk1_nat]
        simpa [bv, hlt] using hu1.symm
      subst this
      clear hu1
      go_wp2
      go_round
      case rel => exact ⟨k + 1, by go_num, by omega⟩
      case measure => simp [intOf]; omega
    case neg =>
      go_wp2
      go_ret
      exact ⟨rfl, rfl⟩
end
end Go.Proofs.YtbpjgdmmijehnaaDoor
