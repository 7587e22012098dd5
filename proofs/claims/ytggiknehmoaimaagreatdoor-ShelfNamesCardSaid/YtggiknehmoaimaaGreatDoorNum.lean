/-
  pack.In of the program: numbers.
-/
import Derived.Test.YtggiknehmoaimaaGreatDoorIn
import Derived.Laws.BitsAllLaws
namespace Go.X
open Go.RowKit
theorem num_fits (x k m : Nat) (hx : x < 2 ^ (7 * k)) (hm : m < 128) : x + m * 2 ^ (7 * k) < 2 ^ (7 * (k + 1)) := by
  have e : 2 ^ (7 * (k + 1)) = 128 * 2 ^ (7 * k) := by rw [show 7 * (k + 1) = 7 * k + 7 by omega, Nat.pow_add]; omega
  rw [e]
  have h1 : m * 2 ^ (7 * k) ≤ 127 * 2 ^ (7 * k) := Nat.mul_le_mul_right _ (by omega)
  omega
theorem num_small (k m : Nat) (hk : k ≤ 9) (hm : m < 128) (h9 : k = 9 → m ≤ 1) : m * 2 ^ (7 * k) < 18446744073709551616 := by
  by_cases h : k = 9
  · subst h
    have h1 := h9 rfl
    have h2 : m * 2 ^ (7 * 9) ≤ 9223372036854775808 := Nat.le_trans (Nat.mul_le_mul_right _ h1) (by simp)
    omega
  · have h1 : 2 ^ (7 * k) ≤ 72057594037927936 := Nat.le_trans (Nat.pow_le_pow_right (by decide) (show 7 * k ≤ 56 by omega)) (by simp)
    have h2 : m * 2 ^ (7 * k) ≤ 127 * 72057594037927936 := Nat.mul_le_mul (by omega) h1
    omega
/-- A byte's seven bits, behind those that were read. -/
theorem num_step (x k : Nat) (c : UInt8) (hx : x < 2 ^ (7 * k)) (hk : k ≤ 9) (h9 : k = 9 → c.toNat ≤ 1) :
    bits .or .u64 (x : Int) (IntKind.u64.wrap (IntKind.u64.wrap (bits .and .u8 (c.toNat : Int) 127) * 2 ^ (7 * k))) = ((x + (c.toNat % 128) * 2 ^ (7 * k) : Nat) : Int) := by
  have hc := c.toNat_lt
  have hm : c.toNat % 128 < 128 := Nat.mod_lt _ (by decide)
  have hs := num_small k (c.toNat % 128) hk hm fun e => by have := h9 e; omega
  have e1 : bits .and .u8 (c.toNat : Int) 127 = ((c.toNat % 128 : Nat) : Int) := by
    have := u8_and_nat c.toNat 127 hc (by decide)
    rw [nat_mask7] at this
    exact this
  have w1 : ∀ n : Nat, n < 18446744073709551616 → IntKind.u64.wrap (n : Int) = n := fun n hn => by
    simp [IntKind.wrap, IntKind.bits, IntKind.signed]; omega
  have e2 : ((c.toNat % 128 : Nat) : Int) * 2 ^ (7 * k) = (((c.toNat % 128) * 2 ^ (7 * k) : Nat) : Int) := by simp
  have hxs : x < 18446744073709551616 := by
    have : 2 ^ (7 * k) ≤ 9223372036854775808 := Nat.le_trans (Nat.pow_le_pow_right (by decide) (show 7 * k ≤ 63 by omega)) (by simp)
    omega
  rw [e1, w1 _ (by omega), e2, w1 _ hs, u64_or_nat _ _ hxs hs, Nat.or_comm, nat_join (7 * k) _ _ (Nat.mul_mod_left _ _) hx, Nat.add_comm]
theorem numF_end (k x : Nat) (l : Bytes) (h : l.length ≤ k) : numF k x (l.drop k) = .error 20 := by rw [List.drop_eq_nil_of_le h]; rfl
theorem numF_over (x : Nat) (l : Bytes) (h : 9 < l.length) (hc : 1 < l[9].toNat) : numF 9 x (l.drop 9) = .error 22 := by
  rw [List.drop_eq_getElem_cons h, numF, if_pos ⟨rfl, by rw [UInt8.lt_iff_toNat_lt]; simpa using hc⟩]
theorem numF_long (k x : Nat) (l : Bytes) (h : k < l.length) (hk : 0 < k) (hc : l[k].toNat = 0) : numF k x (l.drop k) = .error 21 := by
  have hz : l[k] = 0 := UInt8.toNat_inj.1 (by simpa using hc)
  rw [List.drop_eq_getElem_cons h, numF, hz, if_neg (by simp), if_pos (by decide), if_pos ⟨rfl, hk⟩]
theorem numF_ok (k x : Nat) (l : Bytes) (h : k < l.length) (hk : k = 9 → l[k].toNat ≤ 1) (hc : l[k].toNat < 128) (hz : l[k].toNat = 0 → k = 0) : numF k x (l.drop k) = .ok (x + (l[k].toNat % 128) * 2 ^ (7 * k), k + 1) := by
  have hz' : ¬ (l[k] = 0 ∧ 0 < k) := fun ⟨a, b⟩ => by
    have := hz (by rw [a]; rfl)
    omega
  rw [List.drop_eq_getElem_cons h, numF, if_neg (fun ⟨a, b⟩ => by have h1 := hk a; rw [UInt8.lt_iff_toNat_lt] at b; simp at b; omega), if_pos (by rw [UInt8.lt_iff_toNat_lt]; simpa using hc), if_neg hz']
theorem numF_next (k x : Nat) (l : Bytes) (h : k < l.length) (hk : k < 9) (hc : 128 ≤ l[k].toNat) : numF k x (l.drop k) = numF (k + 1) (x + (l[k].toNat % 128) * 2 ^ (7 * k)) (l.drop (k + 1)) := by
  rw [List.drop_eq_getElem_cons h, numF, if_neg (by omega), if_neg (by rw [UInt8.lt_iff_toNat_lt]; simp; omega), if_neg (by omega)]
end Go.X
namespace Go.Proofs.YtggiknehmoaimaaGreatDoor
open Go Go.RowKit Go.X

def numV : Except Nat (Nat × Nat) → Value
  | .error y => .tuple #[.int .u64 0, .int .i64 0, .int .i64 y]
  | .ok (x, n) => .tuple #[.int .u64 x, .int .i64 n, .int .i64 0]

theorem num_ret {a a' b b' : Int} (h : a = a') (h2 : b = b') : Ending.returned (.tuple #[.int .u64 a, .int .i64 b, .int .i64 0]) = .returned (.tuple #[.int .u64 a', .int .i64 b', .int .i64 0]) := by rw [h, h2]
set_option maxRecDepth 100000 in
set_option maxHeartbeats 4000000 in
theorem number_raw {w : World} {v : Value} {l : Bytes} (hv : BytesIn w v l) (hl : l.length ≤ 140737488355328) :
    Calls Tryz.prog 124 #[v] w fun e w' => e = .returned (numV (numF 0 0 l)) ∧ w = w' := by
  obtain ⟨ad, cp, rfl, hcp, hby⟩ := hv
  have Hby := Lib.hid hby
  clear hby
  go_enter Tryz.func124, Tryz.ntmps124
  go_wp2_with fail
  go_loop [5, 8] (fun u i => ∃ (k x : Nat), k ≤ 9 ∧ x < 2 ^ (7 * k) ∧ Hid (numF 0 0 l = numF k x (l.drop k)) ∧ u = .int .u64 x ∧ i = .int .i64 k) (fun _ i => 10 - (intOf i).toNat)
  case atStart => exact ⟨0, 0, by omega, by decide, rfl, rfl, rfl⟩
  case round =>
    obtain ⟨k, x, hk, hx, HN, rfl, rfl⟩ := hrel
    have Hx := Lib.hid hx
    clear hx
    by_cases hlt : k < l.length
    case neg =>
      go_wp2_with fail
      go_ret3
      exact ⟨by rw [HN.out, Go.X.numF_end k x l (by omega)]; rfl, rfl⟩
    case pos =>
      have hc := Hby.out k l[k] (by simp)
      obtain ⟨b, o, rfl, hcell⟩ := hc
      generalize hgc : l[k] = c at hcell
      have Hgc := Lib.hid hgc
      clear hgc
      unfold bval at hcell
      have hcl := c.toNat_lt
      have hd : decide (k < l.length) = true := by simpa using hlt
      by_cases h128 : (c.toNat : Int) < 128
      case neg =>
        by_cases h9 : k = 9
        case pos =>
          subst h9
          have h1 : 1 < (c.toNat : Int) := by omega
          have h1' : decide (1 < (c.toNat : Int)) = true := by simpa using h1
          go_wp2_with fail
          go_ret3
          exact ⟨by rw [HN.out, Go.X.numF_over x l hlt (by rw [Hgc.out]; omega)]; rfl, rfl⟩
        case neg =>
          have h9' : ((k : Int) == 9) = false := by simp; omega
          go_wp2_with fail
          go_round
          case rel =>
            refine ⟨k + 1, x + (c.toNat % 128) * 2 ^ (7 * k), by omega, Go.X.num_fits x k _ Hx.out (Nat.mod_lt _ (by decide)), ?_, ?_, by go_num⟩
            · show _ = _
              rw [HN.out, Go.X.numF_next k x l hlt (by omega) (by rw [Hgc.out]; omega), Hgc.out]
            · rw [Go.X.num_step x k c Hx.out hk (fun e => absurd e h9)]
          case measure => simp [intOf]; omega
      case pos =>
        by_cases h9 : k = 9
        case pos =>
          subst h9
          by_cases h1 : 1 < (c.toNat : Int)
          case pos =>
            have h1' : decide (1 < (c.toNat : Int)) = true := by simpa using h1
            go_wp2_with fail
            go_ret3
            exact ⟨by rw [HN.out, Go.X.numF_over x l hlt (by rw [Hgc.out]; omega)]; rfl, rfl⟩
          case neg =>
            have h1' : decide (1 < (c.toNat : Int)) = false := by simpa using h1
            by_cases hz : c.toNat = 0
            case pos =>
              have hz' : ((c.toNat : Int) == 0) = true := by simp [hz]
              have Hz := Lib.hid hz
              clear hz
              go_wp2_with fail
              go_ret3
              exact ⟨by rw [HN.out, Go.X.numF_long 9 x l hlt (by decide) (by rw [Hgc.out]; exact Hz.out)]; rfl, rfl⟩
            case neg =>
              have hz' : ((c.toNat : Int) == 0) = false := by simp [hz]
              go_wp2_with fail
              go_ret3
              refine ⟨?_, rfl⟩
              have := Go.X.num_step x 9 c Hx.out (by decide) (fun _ => by omega)
              rw [HN.out, Go.X.numF_ok 9 x l hlt (fun _ => by rw [Hgc.out]; omega) (by rw [Hgc.out]; omega) (fun e => by rw [Hgc.out] at e; exact absurd e hz), Hgc.out]
              exact num_ret this (by simp)
        case neg =>
          have h9' : ((k : Int) == 9) = false := by simp; omega
          by_cases hz : c.toNat = 0 ∧ 0 < k
          case pos =>
            obtain ⟨hz, h0⟩ := hz
            have hz' : ((c.toNat : Int) == 0) = true := by simp [hz]
            have h0' : decide (0 < k) = true := by simpa using h0
            have h0i : decide (0 < (k : Int)) = true := by simpa using h0
            have Hz := Lib.hid hz
            clear hz
            go_wp2_with fail
            go_ret3
            exact ⟨by rw [HN.out, Go.X.numF_long k x l hlt h0 (by rw [Hgc.out]; exact Hz.out)]; rfl, rfl⟩
          case neg =>
            have Hz := Lib.hid hz
            have hstep := Go.X.num_step x k c Hx.out hk (fun e => absurd e h9)
            have hfin : numF 0 0 l = .ok (x + (c.toNat % 128) * 2 ^ (7 * k), k + 1) := by
              rw [HN.out, Go.X.numF_ok k x l hlt (fun e => absurd e h9) (by rw [Hgc.out]; omega) (fun e => by rw [Hgc.out] at e; have := Hz.out; omega), Hgc.out]
            have Hs := Lib.hid hstep
            have Hf := Lib.hid hfin
            clear hstep hfin hz
            by_cases hz : c.toNat = 0
            all_goals
              first
              | have hz' : ((c.toNat : Int) == 0) = false := by simp [hz]
              | have hz' : ((c.toNat : Int) == 0) = true := by simp [hz]
                have hk0 : decide (0 < (k : Int)) = false := by have := Hz.out; simp; omega
                have hk1 : decide (0 < k) = false := by have := Hz.out; simp; omega
              clear hz
              go_wp2_with fail
              go_ret3
              refine ⟨?_, rfl⟩
              rw [Hf.out]
              exact num_ret Hs.out (by simp)
end Go.Proofs.YtggiknehmoaimaaGreatDoor
