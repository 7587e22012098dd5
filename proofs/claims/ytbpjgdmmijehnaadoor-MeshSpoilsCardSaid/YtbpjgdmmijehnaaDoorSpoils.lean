/-
  Proved: the card of MeshSpoils: whatever the input, the law returns true, and nothing that was there has turned. Condition: the listed variable reads as the program's own text lays it (tied).
-/
import Derived.Test.YtbpjgdmmijehnaaDoorSt
namespace Go.Proofs.YtbpjgdmmijehnaaDoor
open Go Go.RowKit Go.X Go.ChangeShapes Go.WideShapes

theorem sendV_few {R : Lk → List (List UInt8)} (h : (R (1, 2)).length < 1024) (b : List UInt8) : sendV 2 R (1, 2) b = if (2097194 : Int) < b.length then 4 else 0 := by
  unfold sendV
  have h1 : ¬ 1024 ≤ (R (1, 2)).length := by omega
  rw [if_pos (by decide), if_neg h1]
  split <;> split <;> first | rfl | omega
theorem sendR_few (R : Lk → List (List UInt8)) (b : List UInt8) (k : Lk) : ((sendR 2 R (1, 2) b) k).length ≤ (R k).length + 1 := by
  unfold sendR
  split
  · unfold upd
    split
    · rename_i h; simp [h]
    · omega
  · omega

set_option maxRecDepth 100000 in
set_option maxHeartbeats 4000000 in
theorem spoils_long {W : World} {idle vb vo : Value} {b other : List UInt8} (hi : IdleAt W idle) (hb : BytesAt W vb b) (ho : BytesAt W vo other) (place n : Int) (by_ : UInt8)
    (hlong : 2097194 < b.length ∨ 2097194 < other.length) :
    Calls Tryd.prog 5 #[vb, vo, .int .i64 place, .int .u8 by_.toNat, .int .i64 n] W fun e w' => e = .returned (.bool true) ∧ Ext Nil W w' := by
  obtain ⟨ad1, c1, rfl, _⟩ := hb.2.1
  obtain ⟨ad2, c2, rfl, _⟩ := ho.2.1
  have Hi := Lib.hid hi; clear hi
  have Hb := Lib.hid hb; clear hb
  have Ho := Lib.hid ho; clear ho
  have hcases : ((2097194 : Int) < b.length ∧ (2097194 : Int) < other.length) ∨ ((2097194 : Int) < b.length ∧ ¬ (2097194 : Int) < other.length) ∨ (¬ (2097194 : Int) < b.length ∧ (2097194 : Int) < other.length) := by omega
  clear hlong
  go_enter Tryd.func5, Tryd.ntmps5
  go_wp2_with fail
  refine (fixed_any Hi.out).mono ?_
  rintro e w1 ⟨rfl, hx1⟩
  have hB := Lib.hid (hx1.below (Nat.le_refl _) fun _ h => h.elim)
  clear hx1
  go_wp2_with fail
  refine (new_st hB.out (n := 2) (by decide)).mono ?_
  rintro e w2 ⟨a, rfl, h2⟩
  have H2 := Lib.hid ((h2.old Ho.out).old Hb.out); clear h2
  rcases hcases with ⟨hl1, hl2⟩ | ⟨hl1, hl2⟩ | ⟨hl1, hl2⟩
  all_goals
    go_wp2_with fail
    refine (send_st H2.out 1 2 (.slice ad1 b.length c1) b (.head _)).mono ?_
    rintro e w3 ⟨rfl, h3⟩
    rw [sendV_few (by decide)]
    have H3 := Lib.hid h3; clear h3
    go_wp2_with fail
    refine (send_st H3.out 1 2 (.slice ad2 other.length c2) other (.tail _ (.head _))).mono ?_
    rintro e w4 ⟨rfl, h4⟩
    rw [sendV_few (Nat.lt_of_le_of_lt (sendR_few R0 b (1, 2)) (by decide))]
    have H4 := Lib.hid h4; clear h4
    go_wp2
    go_ret
    refine ⟨?_, H4.out.ext⟩
    first | rfl | simp [hl1]

/-- The state, as far as one link is asked. -/
def St2 (W : World) (a : Nat) (L : List (List UInt8)) (outs : List (Value × List UInt8)) (w : World) : Prop := ∃ R, R (1, 2) = L ∧ St W a 2 R outs w

theorem upd_at {β : Type} (f : Lk → β) (k : Lk) (v : β) : upd f k v k = v := if_pos rfl

theorem flipB_twice (l : List UInt8) (place : Int) (c : UInt8) : flipB (flipB l place c) place c = l := by
  unfold flipB
  simp only [List.length_set]
  by_cases h : (place % l.length).toNat < l.length
  · have e1 : (l.set (place % l.length).toNat (l.getD (place % l.length).toNat 0 ^^^ c)).getD (place % l.length).toNat 0 = l.getD (place % l.length).toNat 0 ^^^ c := by
      simp [List.getD, h]
    rw [e1, UInt8.xor_assoc, UInt8.xor_self, UInt8.xor_zero, List.set_set]
    exact set_same (by simp [List.getD, h])
  · rw [List.set_eq_of_length_le (by simp; omega), List.set_eq_of_length_le (by omega)]
theorem flipB_length (l : List UInt8) (place : Int) (c : UInt8) : (flipB l place c).length = l.length := by simp [flipB]
theorem clipB_is (l : List UInt8) (m : Int) : (clipB l m).length ≤ l.length ∧ clipB l m = l.take (clipB l m).length ∧ ¬ ((clipB l m).length = l.length ∧ 0 < l.length) := by
  unfold clipB
  refine ⟨by simp; omega, by simp, fun h => ?_⟩
  have h1 := h.1
  rw [List.length_take] at h1
  have := Int.emod_lt_of_pos m (show (0 : Int) < l.length by omega)
  have := Int.emod_nonneg m (show (l.length : Int) ≠ 0 by omega)
  omega

section
variable {W w : World} {a : Nat} {outs : List (Value × List UInt8)} {L : List (List UInt8)} {idle : Value}
theorem send_2 (h : St2 W a L outs w) (hL : L.length < 1024) (v : Value) (l : List UInt8) (hl : (l.length : Int) ≤ 2097194) (hv : (v, l) ∈ outs) :
    Calls Tryd.prog 9 #[.pointer (some ⟨a, 0, none⟩), .int .i64 1, .int .i64 2, v] w fun e w' => e = .returned (.int .i64 0) ∧ St2 W a (L ++ [l]) outs w' := by
  obtain ⟨R, rfl, h⟩ := h
  refine (send_st h 1 2 v l hv).mono fun e w' ⟨h1, h2⟩ => ?_
  rw [sendV_few hL, if_neg (Int.not_lt.2 hl)] at h1
  refine ⟨h1, _, ?_, h2⟩
  unfold sendR
  rw [sendV_few hL, if_neg (Int.not_lt.2 hl), if_pos rfl, upd_at]
theorem flip_2 {x y : List UInt8} (h : St2 W a [x, y] outs w) (hx : (x.length : Int) ≤ 2097194) (hy : (y.length : Int) ≤ 2097194) (place : Int) (by_ : UInt8) :
    Calls Tryd.prog 14 #[.pointer (some ⟨a, 0, none⟩), .int .i64 1, .int .i64 2, .int .i64 1, .int .i64 place, .int .u8 by_.toNat] w fun e w' =>
      e = .returned (.int .i64 (if by_ = 0 ∨ y.length = 0 then 1 else 0)) ∧ St2 W a [x, if by_ = 0 ∨ y.length = 0 then y else flipB y place by_] outs w' := by
  obtain ⟨R, hR, h⟩ := h
  refine (flip_st h 1 2 1 place by_ (by rw [hR]; intro l hl; simp at hl; rcases hl with rfl | rfl <;> omega)).mono fun e w' ⟨h1, h2⟩ => ?_
  have e0 : askedV 2 R (1, 2) [1] = 0 := by unfold askedV; rw [if_pos (by decide), hR]; rfl
  have e1 : flipV 2 R (1, 2) 1 by_ = if by_ = 0 ∨ y.length = 0 then 1 else 0 := by
    unfold flipV; rw [e0, if_pos rfl, hR]; rfl
  rw [e1] at h1
  refine ⟨h1, _, ?_, h2⟩
  unfold flipR
  rw [e1]
  split
  · rw [if_neg (by decide), hR]
  · rw [if_pos rfl, upd_at, hR]; rfl
theorem twice_2 {x y : List UInt8} (h : St2 W a [x, y] outs w) (hx : (x.length : Int) ≤ 2097194) (hy : (y.length : Int) ≤ 2097194) :
    Calls Tryd.prog 15 #[.pointer (some ⟨a, 0, none⟩), .int .i64 1, .int .i64 2, .int .i64 1] w fun e w' => e = .returned (.int .i64 0) ∧ St2 W a [x, y, y] outs w' := by
  obtain ⟨R, hR, h⟩ := h
  refine (twice_st h 1 2 1 (by rw [hR]; intro l hl; simp at hl; rcases hl with rfl | rfl <;> omega)).mono fun e w' ⟨h1, h2⟩ => ?_
  have e0 : askedV 2 R (1, 2) [1] = 0 := by unfold askedV; rw [if_pos (by decide), hR]; rfl
  have e1 : twiceV 2 R (1, 2) 1 = 0 := by
    unfold twiceV; rw [e0, if_pos rfl, hR]; rfl
  rw [e1] at h1
  refine ⟨h1, _, ?_, h2⟩
  unfold twiceR
  rw [e1, if_pos rfl, upd_at, hR]; rfl
theorem clip_2 {x y z : List UInt8} (h : St2 W a [x, y, z] outs w) (hx : (x.length : Int) ≤ 2097194) (hy : (y.length : Int) ≤ 2097194) (hz : (z.length : Int) ≤ 2097194) (n : Int) :
    Calls Tryd.prog 16 #[.pointer (some ⟨a, 0, none⟩), .int .i64 1, .int .i64 2, .int .i64 1, .int .i64 n] w fun e w' => e = .returned (.int .i64 0) ∧ St2 W a [x, clipB y n, z] outs w' := by
  obtain ⟨R, hR, h⟩ := h
  refine (clip_st h 1 2 1 n (by rw [hR]; intro l hl; simp at hl; rcases hl with rfl | rfl | rfl <;> omega)).mono fun e w' ⟨h1, h2⟩ => ?_
  have e0 : askedV 2 R (1, 2) [1] = 0 := by unfold askedV; rw [if_pos (by decide), hR]; rfl
  rw [e0] at h1
  refine ⟨h1, _, ?_, h2⟩
  unfold clipR
  rw [e0, if_pos rfl, upd_at, hR]; rfl
theorem swap_2 {x y z : List UInt8} (h : St2 W a [x, y, z] outs w) :
    Calls Tryd.prog 17 #[.pointer (some ⟨a, 0, none⟩), .int .i64 1, .int .i64 2, .int .i64 0, .int .i64 2] w fun e w' => e = .returned (.int .i64 0) ∧ St2 W a [z, y, x] outs w' := by
  obtain ⟨R, hR, h⟩ := h
  refine (swap_st h 1 2 0 2).mono fun e w' ⟨h1, h2⟩ => ?_
  have e0 : askedV 2 R (1, 2) [0, 2] = 0 := by unfold askedV; rw [if_pos (by decide), hR]; rfl
  rw [e0] at h1
  refine ⟨h1, _, ?_, h2⟩
  unfold swapR
  rw [e0, if_pos rfl, upd_at, hR]; rfl
theorem len_2 (h : St2 W a L outs w) :
    Calls Tryd.prog 12 #[.pointer (some ⟨a, 0, none⟩), .int .i64 1, .int .i64 2] w fun e w' => e = .returned (.int .i64 L.length) ∧ St2 W a L outs w' := by
  obtain ⟨R, rfl, h⟩ := h
  exact (len_st h 1 2).mono fun e w' ⟨h1, h2⟩ => ⟨h1, _, rfl, h2⟩
theorem take_2 {l : List UInt8} (h : St2 W a (l :: L) outs w) (hL : L.length < 1024) (hi : IdleAt W idle) :
    Calls Tryd.prog 10 #[.pointer (some ⟨a, 0, none⟩), .int .i64 1, .int .i64 2] w fun e w' => ∃ ad c, e = .returned (.tuple #[.slice ad l.length c, .nilIface]) ∧ St2 W a L ((.slice ad l.length c, l) :: outs) w' := by
  obtain ⟨R, hR, h⟩ := h
  exact (take_some h hi 1 2 (by rw [hR]; simp; omega) (by decide) hR).mono fun e w' ⟨ad, c, h1, h2⟩ => ⟨ad, c, h1, _, upd_at _ _ _, h2⟩
theorem St2.at (h : St2 W a L outs w) {x : Value × List UInt8} (hx : x ∈ outs) : BytesAt w x.1 x.2 := let ⟨_, _, h⟩ := h; h.at hx
theorem St2.ext (h : St2 W a L outs w) : Ext Nil W w := let ⟨_, _, h⟩ := h; h.ext
end

def flipOne (by_ : UInt8) (b : List UInt8) : Int := if by_ = 0 ∨ b.length = 0 then 1 else 0
theorem flipOne_yes {by_ : UInt8} {b : List UInt8} (h : by_.toNat = 0 ∨ b = []) : flipOne by_ b = 1 := if_pos (h.imp UInt8.toNat_inj.1 fun h => by rw [h]; rfl)
theorem flipOne_no {by_ : UInt8} {b : List UInt8} (h : ¬ by_.toNat = 0 ∧ ¬ b = []) : flipOne by_ b = 0 :=
  if_neg fun h' => h'.elim (fun e => h.1 (by rw [e]; rfl)) fun e => h.2 (List.eq_nil_of_length_eq_zero e)

set_option maxRecDepth 100000 in
set_option maxHeartbeats 8000000 in
theorem spoils_short {W : World} {idle vb vo : Value} {b other : List UInt8} (hi : IdleAt W idle) (hb : BytesAt W vb b) (ho : BytesAt W vo other) (place n : Int) (by_ : UInt8)
    (hl1 : (b.length : Int) ≤ 2097194) (hl2 : (other.length : Int) ≤ 2097194) :
    Calls Tryd.prog 5 #[vb, vo, .int .i64 place, .int .u8 by_.toNat, .int .i64 n] W fun e w' => e = .returned (.bool true) ∧ Ext Nil W w' := by
  obtain ⟨ad1, c1, rfl, hc1⟩ := hb.2.1
  obtain ⟨ad2, c2, rfl, _⟩ := ho.2.1
  have Hi := Lib.hid hi; clear hi
  have Hb := Lib.hid hb; clear hb
  have Ho := Lib.hid ho; clear ho
  have Hl1 := Lib.hid hl1
  have Hl2 := Lib.hid hl2
  have Hc1 := Lib.hid hc1; clear hc1
  go_enter Tryd.func5, Tryd.ntmps5
  go_wp2_with fail
  refine (fixed_any Hi.out).mono ?_
  rintro e w1 ⟨rfl, hx1⟩
  have hB := Lib.hid (hx1.below (Nat.le_refl _) fun _ h => h.elim)
  clear hx1
  go_wp2_with fail
  refine (new_st hB.out (n := 2) (by decide)).mono ?_
  rintro e w2 ⟨a, rfl, h2⟩
  have H2 : Hid (St2 W a [] [(.slice ad1 b.length c1, b), (.slice ad2 other.length c2, other)] w2) := ⟨_, rfl, (h2.old Ho.out).old Hb.out⟩
  clear h2
  go_wp2_with fail
  clear hl1 hl2
  refine (send_2 H2.out (by decide) _ _ Hl2.out (.tail _ (.head _))).mono ?_
  rintro e w3 ⟨rfl, h3⟩
  have H3 : Hid (St2 W a [other] _ w3) := h3
  clear h3
  go_wp2_with fail
  refine (send_2 H3.out (by simp) _ _ Hl1.out (.head _)).mono ?_
  rintro e w4 ⟨rfl, h4⟩
  have H4 : Hid (St2 W a [other, b] _ w4) := h4
  clear h4
  go_wp2_with fail
  obtain ⟨fv, hfv⟩ : ∃ fv : Int, fv = flipOne by_ b := ⟨_, rfl⟩
  have Hfv := Lib.hid hfv
  clear hfv
  refine (flip_2 H4.out Hl2.out Hl1.out place by_).mono ?_
  rw [show (if by_ = 0 ∨ b.length = 0 then (1 : Int) else 0) = fv from Hfv.out.symm]
  rintro e w5 ⟨rfl, h5⟩
  have H5 := Lib.hid h5
  clear h5
  go_wp2_with fail
  have hf : Calls Tryd.prog 14 #[.pointer (some ⟨a, 0, none⟩), .int .i64 1, .int .i64 2, .int .i64 1, .int .i64 place, .int .u8 by_.toNat] w5 fun e w' =>
      e = .returned (.int .i64 fv) ∧ St2 W a [other, b] [(.slice ad1 b.length c1, b), (.slice ad2 other.length c2, other)] w' := by
    refine (flip_2 H5.out Hl2.out (by split <;> (try simp only [flipB_length]) <;> exact Hl1.out) place by_).mono fun e w' ⟨h1, h2⟩ => ?_
    rw [Hfv.out]
    unfold flipOne
    by_cases hz : by_ = 0 ∨ b.length = 0
    · simp only [if_pos hz] at h1 h2 ⊢
      exact ⟨h1, h2⟩
    · simp only [if_neg hz, flipB_length, flipB_twice] at h1 h2 ⊢
      exact ⟨h1, h2⟩
  refine hf.mono ?_
  clear hf
  rintro e w6 ⟨rfl, h6⟩
  have H6 := Lib.hid h6
  clear h6
  go_wp2_with fail
  all_goals
    have e0 : fv = 1 ∧ (by_.toNat = 0 ∨ b = []) ∨ fv = 0 ∧ (¬ by_.toNat = 0 ∧ ¬ b = []) := by
      rw [Hfv.out]
      by_cases h : by_.toNat = 0 ∨ b = []
      · exact .inl ⟨flipOne_yes h, h⟩
      · exact .inr ⟨flipOne_no ⟨fun h' => h (.inl h'), fun h' => h (.inr h')⟩, fun h' => h (.inl h'), fun h' => h (.inr h')⟩
    have e1 : (fv = 1 ∧ (by_.toNat = 0 ∨ b = [])) ∨ (fv = 0 ∧ (¬ by_.toNat = 0 ∧ ¬ b = [])) := e0
    clear e0
    first
    | (have h0 := ‹by_.toNat = 0›; rcases e1 with ⟨rfl, _⟩ | ⟨_, h1, _⟩; rotate_left; exact absurd h0 h1)
    | (have h0 := ‹((by_.toNat : Int) == 0) = true ∨ ((b.length : Int) == 0) = true›; rcases e1 with ⟨rfl, _⟩ | ⟨_, h1, h2⟩; rotate_left; exact absurd h0 (by simp [h1, h2]))
    | (have h0 := ‹((by_.toNat : Int) == 0) = false ∧ ((b.length : Int) == 0) = false›; rcases e1 with ⟨_, h1⟩ | ⟨rfl, _⟩; exact absurd h0 (by rcases h1 with h1 | h1 <;> simp [h1]))
    clear Hfv
    refine (twice_2 H6.out Hl2.out Hl1.out).mono ?_
    rintro e w7 ⟨rfl, h7⟩
    have H7 := Lib.hid h7
    clear h7
    go_wp2_with fail
    refine (clip_2 H7.out Hl2.out Hl1.out Hl1.out n).mono ?_
    rintro e w8 ⟨rfl, h8⟩
    obtain ⟨y, hy⟩ : ∃ y, y = clipB b n := ⟨_, rfl⟩
    have hy1 := clipB_is b n
    rw [← hy] at h8 hy1
    obtain ⟨hy1, hy2, hy3⟩ := hy1
    clear hy
    have H8 := Lib.hid h8
    clear h8
    have Hy2 := Lib.hid hy2.symm
    clear hy2
    have Hy1 := Lib.hid hy1
    go_wp2_with fail
    refine (swap_2 H8.out).mono ?_
    rintro e w9 ⟨rfl, h9⟩
    have H9 := Lib.hid h9
    clear h9
    go_wp2_with fail
    refine (len_2 H9.out).mono ?_
    rintro e w10 ⟨rfl, h10⟩
    have H10 := Lib.hid h10
    clear h10
    go_wp2_with fail
    refine (take_2 H10.out (by simp) Hi.out).mono ?_
    rintro e w11 ⟨adx, cx, rfl, h11⟩
    have H11 := Lib.hid h11
    clear h11
    go_wp2_with fail
    refine (take_2 H11.out (by simp) Hi.out).mono ?_
    rintro e w12 ⟨ady, cy, rfl, h12⟩
    have H12 := Lib.hid h12
    clear h12
    go_wp2_with fail
    refine (take_2 H12.out (by simp) Hi.out).mono ?_
    rintro e w13 ⟨adz, cz, rfl, h13⟩
    have H13 := Lib.hid h13
    clear h13
    have hyc : (¬ b.length < y.length ∧ ¬ (y.length : Int) = b.length) ∨ (¬ b.length < y.length ∧ (y.length : Int) = b.length ∧ ¬ 0 < b.length) := by omega
    clear hy1 hy3
    rcases hyc with ⟨hy4, hy5⟩ | ⟨hy4, hy5, hy6⟩
    all_goals
      go_wp2_with fail
      refine (same_any (H13.out.at (.tail _ (.tail _ (.head _)))).arg (H13.out.at (.tail _ (.tail _ (.tail _ (.head _))))).arg).mono ?_
      rintro e w14 ⟨rfl, rfl⟩
      rw [beq_self_eq_true]
      have hsl : ∀ w, (Instr.sliceAt 32 (.slice ad1 b.length c1) none (some (.int .i64 y.length)) none).run Tryd.prog w = .ok (cutV ad1 1 0 y.length c1) w :=
        fun w => run_slice elByte ad1 b.length c1 0 y.length none _ (.inl ⟨rfl, rfl⟩) (.inr ⟨_, rfl⟩) (Nat.zero_le _) (Nat.le_trans Hy1.out Hc1.out) w
      go_wp2_with fail
      have hcut := (H13.out.at (.tail _ (.tail _ (.tail _ (.head _))))).cut Hy1.out
      rw [Hy2.out] at hcut
      have hyb : y.length = b.length → (y == b) = true := fun h => by
        have := Hy2.out
        rw [h, List.take_length] at this
        rw [this, beq_self_eq_true]
      first
      | (refine (same_any (H13.out.at (.tail _ (.head _))).arg hcut.arg).mono ?_; rintro e w15 ⟨rfl, rfl⟩; rw [beq_self_eq_true])
      | (refine (same_any (H13.out.at (.tail _ (.head _))).arg (H13.out.at (.tail _ (.tail _ (.tail _ (.head _))))).arg).mono ?_; rintro e w15 ⟨rfl, rfl⟩; rw [hyb (by omega)])
      clear hcut hyb
      go_wp2_with fail
      refine (same_any (H13.out.at (.head _)).arg (H13.out.at (.tail _ (.tail _ (.tail _ (.tail _ (.head _)))))).arg).mono ?_
      rintro e w16 ⟨rfl, rfl⟩
      rw [beq_self_eq_true]
      go_wp2_with fail
      refine (len_2 H13.out).mono ?_
      rintro e w17 ⟨rfl, h17⟩
      have H17 := Lib.hid h17
      clear h17
      go_wp2
      go_ret
      exact ⟨rfl, H17.out.ext⟩
end Go.Proofs.YtbpjgdmmijehnaaDoor
