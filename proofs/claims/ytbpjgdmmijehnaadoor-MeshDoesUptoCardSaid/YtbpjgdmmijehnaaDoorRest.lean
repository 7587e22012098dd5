/-
  A pair of meshes: lens, rest.
-/
import Derived.Test.YtbpjgdmmijehnaaDoorStep
namespace Go.Proofs.YtbpjgdmmijehnaaDoor
open Go.RowKit Go.X

section
variable {w w' w0 w1 w2 wr : World} {m r bk : Nat} {n : Int} {R R' : Lk → List (List UInt8)} {F G Fp K : Nat → Prop} {os : List Out} {q : Int} {vo vw idle : Value} {v : Value} {e : Ending}
theorem take_two (T : Two w m r n bk F) (hi : IdleAt w idle) (hF0 : ¬ F 0) (kind x y i0 j0 q0 : Int) (c : UInt8) (adb : Option Addr) (lb cb : Nat) :
    Calls Tryd.prog 31 #[pairV m r, stepV kind x y i0 j0 q0 c (.slice adb lb cb), .pointer (some ⟨bk, 0, none⟩)] w (Kept (.bool true) w m r n bk F) := by
  obtain ⟨R, Fp, os, q, vo, vw, K, hfew, hh, B, hlen, hq0, hq1, hd, hsub, hbound⟩ := T
  exact (take_pair hh hfew B hlen hq0 hq1 hd hi (fun h => hF0 (hsub 0 (.inl h))) (fun h => hF0 (hsub 0 (.inr h))) kind x y i0 j0 q0 c adb lb cb).mono fun e w' h => h.wide hsub hbound
theorem Two.bound (T : Two w m r n bk F) : ∀ b, F b → b < w.heap.size := let ⟨_, _, _, _, _, _, _, _, _, _, _, _, _, _, _, h⟩ := T; h
theorem Two.wide (T : Two w m r n bk F) (hF : ∀ b, F b → G b) (hG : ∀ b, G b → b < w.heap.size) : Two w m r n bk G :=
  let ⟨R, Fp, os, q, vo, vw, K, a1, a2, a3, a4, a5, a6, a7, a8, _⟩ := T; ⟨R, Fp, os, q, vo, vw, K, a1, a2, a3, a4, a5, a6, a7, fun b hb => hF b (a8 b hb), hG⟩
theorem Two.ext (T : Two w m r n bk F) (hx : Ext G w w') (hn : ∀ b, F b → ¬ G b) : Two w' m r n bk F :=
  let ⟨R, Fp, os, q, vo, vw, K, a1, a2, a3, a4, a5, a6, a7, a8, a9⟩ := T
  ⟨R, Fp, os, q, vo, vw, K, a1, a2.ext hx fun b hb => hn b (a8 b (.inl hb)), a3.ext hx fun b hb => hn b (a8 b (.inr hb)), a4, a5, a6, a7, a8, fun b hb => Nat.lt_of_lt_of_le (a9 b hb) hx.size⟩
theorem Two.ref (T : Two w m r n bk F) : w.cell? ⟨r, 0, none⟩ = some (.int .i64 n) ∧ n ≤ 8 :=
  let ⟨_, _, _, _, _, _, _, _, ⟨_, _, _, ⟨_, _, _, M⟩, _⟩, _⟩ := T; ⟨M.cellN.1, M.few⟩
/-- On and on, since w0. -/
structure Going (w0 wr : World) (m r : Nat) (n : Int) (bk : Nat) (F : Nat → Prop) : Prop where
  two : Two wr m r n bk (Grow F w0 wr)
  ext : Ext F w0 wr
theorem Going.step (h : Going w0 w1 m r n bk F) (k : Kept v w1 m r n bk (Grow F w0 w1) e w2) : e = .returned v ∧ Going w0 w2 m r n bk F := by
  obtain ⟨k1, k2, k3⟩ := k
  have s1 := h.ext.size
  have s2 := k3.size
  refine ⟨k1, k2.wide (fun b hb => grow_grow s1 s2 hb) fun b hb => ?_, h.ext.trans k3 fun b hk hg => hg.elim id fun h => by omega⟩
  rcases hb with hb | hb
  · have := h.two.bound b (.inl hb); omega
  · exact hb.2
theorem Going.begin (T : Two w0 m r n bk F) : Going w0 w0 m r n bk F :=
  ⟨T.wide (fun _ h => .inl h) fun b hb => hb.elim (T.bound b) (·.2), Ext.refl _ _⟩
theorem Going.quiet (h : Going w0 w1 m r n bk F) (hx : Ext Nil w1 w2) : Going w0 w2 m r n bk F := by
  have s2 := hx.size
  have s1 := h.ext.size
  refine ⟨(h.two.ext hx fun _ _ h => h).wide (fun b hb => hb.imp id fun h => ⟨h.1, by omega⟩) fun b hb => ?_, h.ext.trans' hx.nilMono⟩
  rcases hb with hb | hb
  · have := h.two.bound b (.inl hb); omega
  · exact hb.2
theorem Going.kept (h : Going w0 w2 m r n bk F) : Kept v w0 m r n bk F (.returned v) w2 := ⟨rfl, h.two, h.ext⟩
/-- A call of the pair's own two. -/
theorem Going.two_calls (h : Going w0 w1 m r n bk F) {f : FuncId} {args : Array Value} (hc : ∀ R Fp, Few R → Half w1 m r n R R Fp → (∀ b, Fp b → Grow F w0 w1 b) → Calls Tryd.prog f args w1 (Stepped v w1 m r n Fp)) :
    Calls Tryd.prog f args w1 fun e w2 => e = .returned v ∧ Going w0 w2 m r n bk F := by
  obtain ⟨R, Fp, os, q, vo, vw, K, hfew, hh, B, hlen, hq0, hq1, hd, hsub, hbound⟩ := h.two
  refine (hc R Fp hfew hh fun b hb => hsub b (.inl hb)).mono fun e w2 hs => ?_
  exact h.step ((kept_stepped B hlen hq0 hq1 hd (fun b hb => hbound b (hsub b (.inl hb))) hs).wide hsub hbound)

set_option maxRecDepth 100000 in
set_option maxHeartbeats 4000000 in
theorem lens_any (T : Two w m r n bk F) : Calls Tryd.prog 20 #[pairV m r] w (Kept (.bool true) w m r n bk F) := by
  have HT := Lib.hid T; clear T
  unfold pairV
  go_enter Tryd.func20, Tryd.ntmps20
  go_wp2_with fail
  have hx0 : Ext Nil w (w.alloc (.cells #[.pointer (some ⟨m, 0, none⟩), .pointer (some ⟨r, 0, none⟩)] 48)) := (Ext.refl Nil w).alloc _
  have p0 := heap_alloc_new w (.cells #[.pointer (some ⟨m, 0, none⟩), .pointer (some ⟨r, 0, none⟩)] 48)
  obtain ⟨pb, hpb⟩ : ∃ pb, pb = w.heap.size := ⟨_, rfl⟩
  rw [← hpb] at p0 ⊢
  generalize w.alloc (.cells #[.pointer (some ⟨m, 0, none⟩), .pointer (some ⟨r, 0, none⟩)] 48) = w0 at hx0 p0 ⊢
  have HFb : Hid (∀ b, F b → b < w.heap.size) := HT.out.bound
  have HT0 : Hid (Two w0 m r n bk F) := HT.out.ext hx0 fun _ _ h => h
  have Hp : Hid (∀ wr, Ext F w0 wr → wr.cell? ⟨pb, 0, none⟩ = some (.pointer (some ⟨m, 0, none⟩)) ∧ wr.cell? ⟨pb, 1, none⟩ = some (.pointer (some ⟨r, 0, none⟩))) := fun wr hx => by
    have h := hx.heap p0 fun h => by have := HFb.out pb h; omega
    refine ⟨?_, ?_⟩ <;> (rw [cell_of_row wr pb _ _ _ (0, 0) h]; rfl)
  have Hx0 := Lib.hid hx0
  clear hpb p0 hx0
  go_loopw [3] (fun i wr => ∃ k : Int, i = .int .i64 k ∧ -1 ≤ k ∧ k ≤ 10 ∧ Going w0 wr m r n bk F) (fun i _ => (10 - intOf i).toNat)
  case atStart => exact ⟨-1, rfl, by omega, by omega, Going.begin HT0.out⟩
  case round =>
    obtain ⟨i, rfl, hi1, hi2, hg⟩ := hrel
    have Hg := Lib.hid hg
    clear hg
    by_cases hlt : i < 10
    case neg =>
      go_wp2
      go_ret
      exact Kept.since Hg.out.kept Hx0.out HFb.out
    go_wp2_with fail
    go_loopw [4] (fun j wr => ∃ k : Int, j = .int .i64 k ∧ -1 ≤ k ∧ k ≤ 10 ∧ Going w0 wr m r n bk F) (fun j _ => (10 - intOf j).toNat)
    case atStart => exact ⟨-1, rfl, by omega, by omega, Hg.out⟩
    case round =>
      obtain ⟨j, rfl, hj1, hj2, hg⟩ := hrel
      have Hg := Lib.hid hg
      clear hg
      by_cases hlt2 : j < 10
      case neg =>
        go_wp2
        go_roundw
        case rel => exact ⟨i + 1, by go_num, by omega, by omega, Hg.out⟩
        case measure => simp [intOf]; omega
      obtain ⟨c0, c1⟩ := Hp.out _ Hg.out.ext
      obtain ⟨R, Fp, os, q, vo, vw, K, hfew, hh, B, hlen, hq0, hq1, hd, hsub, hbound⟩ := Hg.out.two
      have Hh := Lib.hid hh
      have HBk := Lib.hid B
      have Hd := Lib.hid hd
      have Hsub := Lib.hid hsub
      have Hbd := Lib.hid hbound
      have Hfew := Lib.hid hfew
      clear hh B hd hsub hbound hfew
      go_wp2_with fail
      refine (half_mesh Hh.out (fun Fm hm _ => len_any hm i j)).mono ?_
      rintro e w3 ⟨rfl, h3, hx3⟩
      have hst := (kept_stepped (v := .bool true) HBk.out hlen hq0 hq1 Hd.out (fun b hb => Hbd.out b (Hsub.out b (.inl hb))) (stepped_len hx3 h3 Hfew.out)).wide Hsub.out Hbd.out
      have Hg3 := Lib.hid (Hg.out.step hst).2
      have H3 := Lib.hid h3
      clear hst h3 hx3 c0 c1
      obtain ⟨c0, c1⟩ := Hp.out _ Hg3.out.ext
      go_wp2_with fail
      refine (half_len H3.out i j).mono ?_
      rintro e w4 ⟨rfl, rfl⟩
      go_wp2
      go_roundw
      case rel => exact ⟨j + 1, by go_num, by omega, by omega, Hg3.out⟩
      case measure => simp [intOf]; omega

set_option maxRecDepth 100000 in
set_option maxHeartbeats 4000000 in
theorem rest_any (T : Two w m r n bk F) (hi : IdleAt w idle) (hF0 : ¬ F 0) : Calls Tryd.prog 22 #[pairV m r, .pointer (some ⟨bk, 0, none⟩)] w (Kept (.bool true) w m r n bk F) := by
  have HT := Lib.hid T; clear T
  have Hi := Lib.hid hi; clear hi
  have HF0 := Lib.hid hF0; clear hF0
  unfold pairV
  go_enter Tryd.func22, Tryd.ntmps22
  go_wp2_with fail
  have hx0 : Ext Nil w (w.alloc (.cells #[.pointer (some ⟨m, 0, none⟩), .pointer (some ⟨r, 0, none⟩)] 48)) := (Ext.refl Nil w).alloc _
  have p0 := heap_alloc_new w (.cells #[.pointer (some ⟨m, 0, none⟩), .pointer (some ⟨r, 0, none⟩)] 48)
  obtain ⟨pb, hpb⟩ : ∃ pb, pb = w.heap.size := ⟨_, rfl⟩
  rw [← hpb] at p0 ⊢
  generalize w.alloc (.cells #[.pointer (some ⟨m, 0, none⟩), .pointer (some ⟨r, 0, none⟩)] 48) = w0 at hx0 p0 ⊢
  have HFb : Hid (∀ b, F b → b < w.heap.size) := HT.out.bound
  have HT0 : Hid (Two w0 m r n bk F) := HT.out.ext hx0 fun _ _ h => h
  have Hi0 : Hid (∀ wr, Ext F w0 wr → IdleAt wr idle) := fun wr hx => ⟨Hi.out.1, hx.cell (hx0.cell Hi.out.2 id) HF0.out⟩
  have h0s := hx0.size
  have H0 : Hid (∀ wr, ¬ Grow F w0 wr 0) := fun wr h => h.elim HF0.out fun h => by have := Hi.out.pos; omega
  have Hp : Hid (∀ wr, Ext F w0 wr → wr.cell? ⟨pb, 0, none⟩ = some (.pointer (some ⟨m, 0, none⟩)) ∧ wr.cell? ⟨pb, 1, none⟩ = some (.pointer (some ⟨r, 0, none⟩))) := fun wr hx => by
    have h := hx.heap p0 fun h => by have := HFb.out pb h; omega
    refine ⟨?_, ?_⟩ <;> (rw [cell_of_row wr pb _ _ _ (0, 0) h]; rfl)
  have Hx0 := Lib.hid hx0
  have hn8 := HT.out.ref.2
  clear hpb p0 hx0 h0s
  go_loopw [5] (fun i wr => ∃ k : Int, i = .int .i64 k ∧ 1 ≤ k ∧ k ≤ 9 ∧ Going w0 wr m r n bk F) (fun i _ => (9 - intOf i).toNat)
  case atStart => exact ⟨1, rfl, by omega, by omega, Going.begin HT0.out⟩
  case round =>
    obtain ⟨i, rfl, hi1, hi2, hg⟩ := hrel
    have Hg := Lib.hid hg
    clear hg
    have n0 := Hg.out.two.ref.1
    obtain ⟨c0, c1⟩ := Hp.out _ Hg.out.ext
    by_cases hlt : i ≤ n
    case neg =>
      go_wp2
      go_ret
      exact Kept.since Hg.out.kept Hx0.out HFb.out
    go_wp2_with fail
    clear n0 c0 c1
    go_loopw [6] (fun j wr => ∃ k : Int, j = .int .i64 k ∧ 1 ≤ k ∧ k ≤ 9 ∧ Going w0 wr m r n bk F) (fun j _ => (9 - intOf j).toNat)
    case atStart => exact ⟨1, rfl, by omega, by omega, Hg.out⟩
    case round =>
      obtain ⟨j, rfl, hj1, hj2, hg⟩ := hrel
      have Hg := Lib.hid hg
      clear hg
      have n0 := Hg.out.two.ref.1
      obtain ⟨c0, c1⟩ := Hp.out _ Hg.out.ext
      by_cases hlt2 : j ≤ n
      case neg =>
        go_wp2
        go_roundw
        case rel => exact ⟨i + 1, by go_num, by omega, by omega, Hg.out⟩
        case measure => simp [intOf]; omega
      obtain ⟨L, hL1, hL⟩ : ∃ L : Nat, L ≤ 1024 ∧ Calls Tryd.prog 41 #[.pointer (some ⟨r, 0, none⟩), .int .i64 i, .int .i64 j] wr fun e w' => e = .returned (.int .i64 L) ∧ wr = w' := by
        obtain ⟨R, Fp, os, q, vo, vw, K, hfew, hh, _⟩ := Hg.out.two
        exact ⟨_, (hfew (i, j)).1, half_len hh i j⟩
      have HL := Lib.hid hL
      clear hL
      go_wp2_with fail
      refine HL.out.mono ?_
      rintro e w3 ⟨rfl, rfl⟩
      go_wp2_with fail
      clear n0 c0 c1
      go_loopw [7] (fun l wr => ∃ k : Nat, l = .int .i64 k ∧ k ≤ 1024 ∧ Going w0 wr m r n bk F) (fun l _ => (intOf l).toNat)
      case atStart => exact ⟨L, rfl, hL1, Hg.out⟩
      case round =>
        obtain ⟨k, rfl, hk, hg⟩ := hrel
        have Hg := Lib.hid hg
        clear hg
        obtain ⟨c0, c1⟩ := Hp.out _ Hg.out.ext
        by_cases hk0 : 0 < (k : Int)
        case pos =>
          go_wp2_with fail
          refine (take_two Hg.out.two (Hi0.out _ Hg.out.ext) (H0.out _) 0 i j 0 0 0 0 none 0 0).mono ?_
          intro e w4 hk4
          obtain ⟨rfl, hg4⟩ := Hg.out.step hk4
          have Hg4 := Lib.hid hg4
          clear hk4 hg4 c0 c1
          go_wp2
          go_roundw
          case rel => exact ⟨k - 1, by congr 1; omega, by omega, Hg4.out⟩
          case measure => simp [intOf]; omega
        case neg =>
          obtain rfl : k = 0 := by omega
          by_cases hij : i = j
          case pos =>
            have hb : (i == j) = true := by simpa using hij
            have Hij := Lib.hid hij
            clear hij c0 c1
            go_wp2
            go_roundw
            case rel => exact ⟨j + 1, by go_num, by omega, by omega, Hg.out⟩
            case measure => simp [intOf]; omega
          case neg =>
            have hb : (i == j) = false := by simpa using hij
            have Hij := Lib.hid hij
            clear hij
            go_wp2_with fail
            refine (take_two Hg.out.two (Hi0.out _ Hg.out.ext) (H0.out _) 0 i j 0 0 0 0 none 0 0).mono ?_
            intro e w4 hk4
            obtain ⟨rfl, hg4⟩ := Hg.out.step hk4
            have Hg4 := Lib.hid hg4
            clear hk4 hg4 c0 c1
            go_wp2
            go_roundw
            case rel => exact ⟨j + 1, by go_num, by omega, by omega, Hg4.out⟩
            case measure => simp [intOf]; omega
end
end Go.Proofs.YtbpjgdmmijehnaaDoor
