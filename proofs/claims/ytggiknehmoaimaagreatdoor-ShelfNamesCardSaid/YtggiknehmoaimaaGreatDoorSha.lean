/-
  SHA-256 of the program: its words.
-/
import Derived.Test.YtggiknehmoaimaaGreatDoorCells
import Derived.Laws.BitsAllLaws
import Derived.Lib.Hide
namespace Go.Proofs.YtggiknehmoaimaaGreatDoor
open Go Go.RowKit Go.X

def wval (x : UInt32) : Value := .int .u32 x.toNat
theorem s_add (a b : UInt32) : ((a.toNat : Int) + b.toNat) % 4294967296 = ((a + b).toNat : Int) := by
  rw [UInt32.toNat_add]; omega
theorem s_or (a b : UInt32) : bits .or .u32 a.toNat b.toNat = ((a ||| b).toNat : Int) := by
  rw [u32_or_nat _ _ a.toNat_lt b.toNat_lt]; simp
theorem s_xor (a b : UInt32) : bits .xor .u32 a.toNat b.toNat = ((a ^^^ b).toNat : Int) := by
  rw [u32_xor_nat _ _ a.toNat_lt b.toNat_lt]; simp
theorem s_and (a b : UInt32) : bits .and .u32 a.toNat b.toNat = ((a &&& b).toNat : Int) := by
  rw [u32_and_nat _ _ a.toNat_lt b.toNat_lt]; simp
theorem s_shr (a : UInt32) (n : Nat) (h : n < 32) : (a.toNat : Int) / 2 ^ n = ((a >>> n.toUInt32).toNat : Int) := by
  rw [UInt32.toNat_shiftRight, Nat.shiftRight_eq_div_pow]
  have : n.toUInt32.toNat % 32 = n := by simp; omega
  rw [this]; simp
theorem s_shl (a : UInt32) (n : Nat) (h : n < 32) : (a.toNat : Int) * 2 ^ n % 4294967296 = ((a <<< n.toUInt32).toNat : Int) := by
  rw [UInt32.toNat_shiftLeft, Nat.shiftLeft_eq]
  have : n.toUInt32.toNat % 32 = n := by simp; omega
  rw [this]; simp
theorem s_rot (x : UInt32) (n : Nat) (h0 : 0 < n) (h1 : n < 32) : bits .or .u32 ((x.toNat : Int) / 2 ^ n) ((x.toNat : Int) * 2 ^ (32 - n) % 4294967296) = ((rotr x n.toUInt32).toNat : Int) := by
  rw [s_shr x n h1, s_shl x (32 - n) (by omega), s_or]
  unfold rotr
  have : (32 - n).toUInt32 = 32 - n.toUInt32 := by
    apply UInt32.toNat_inj.1
    rw [UInt32.toNat_sub_of_le _ _ (by rw [UInt32.le_iff_toNat_le]; simp; omega)]
    simp; omega
  rw [this]

theorem s_wrap (z : Int) : IntKind.u32.wrap z = z % 4294967296 := by
  simp [IntKind.wrap, IntKind.signed, IntKind.bits]
theorem s_addw (a b : UInt32) : IntKind.u32.wrap ((a.toNat : Int) + b.toNat) = ((a + b).toNat : Int) := by rw [s_wrap, s_add]
theorem s_shr' (a : UInt32) (n : Nat) (h : n < 32) (m : Int) (hm : m = 2 ^ n) : (a.toNat : Int) / m = ((a >>> n.toUInt32).toNat : Int) := by rw [hm, s_shr a n h]
theorem s_not (e : UInt32) : bits .xor .u32 (if IntKind.u32.signed = true then -1 else IntKind.u32.max) e.toNat = ((~~~ e).toNat : Int) := by
  have h : (if IntKind.u32.signed = true then (-1 : Int) else IntKind.u32.max) = ((4294967295 : UInt32).toNat : Int) := rfl
  rw [h, s_xor]
  congr 2
theorem s_byte (x : UInt8) : IntKind.u32.wrap (x.toNat : Int) = (x.toUInt32.toNat : Int) := by
  rw [s_wrap]; have := x.toNat_lt; simp; omega
theorem s_shl' (a : UInt32) (n : Nat) (h : n < 32) (m : Int) (hm : m = 2 ^ n) : IntKind.u32.wrap ((a.toNat : Int) * m) = ((a <<< n.toUInt32).toNat : Int) := by
  rw [s_wrap, hm, s_shl a n h]
theorem word_val (x0 x1 x2 x3 : UInt8) : bits .or .u32 (bits .or .u32 (bits .or .u32 (IntKind.u32.wrap (IntKind.u32.wrap x0.toNat * 16777216)) (IntKind.u32.wrap (IntKind.u32.wrap x1.toNat * 65536))) (IntKind.u32.wrap (IntKind.u32.wrap x2.toNat * 256))) (IntKind.u32.wrap x3.toNat) =
    ((x0.toUInt32 <<< 24 ||| x1.toUInt32 <<< 16 ||| x2.toUInt32 <<< 8 ||| x3.toUInt32).toNat : Int) := by
  rw [s_byte, s_byte, s_byte, s_byte, s_shl' _ 24 (by decide) 16777216 (by decide), s_shl' _ 16 (by decide) 65536 (by decide), s_shl' _ 8 (by decide) 256 (by decide), s_or, s_or, s_or]
  rfl

set_option maxHeartbeats 1000000 in
theorem turned_any (x : UInt32) (n : Nat) (k : Int) (m : UInt32) (hk : k = n) (hm : m = n.toUInt32) (h0 : 0 < n) (h1 : n < 32) (w : World) :
    Calls Tryz.prog 160 #[.int .u32 x.toNat, .int .i64 k] w fun e w' => e = .returned (.int .u32 (rotr x m).toNat) ∧ ∃ q, w' = w.drewN q := by
  subst hk hm
  have H := Lib.hid (s_rot x n h0 h1)
  go_enter Tryz.func160, Tryz.ntmps160
  go_wp2
  go_quiet (fail)
  go_wp2
  go_ret
  exact ⟨by rw [← H.out]; rfl, _, rfl⟩

theorem aWords : AggT Tryz.prog 74 8 := ⟨⟨_, Tryz.underlying74, rfl⟩, by kernel_rfl⟩
theorem aLong : AggT Tryz.prog 76 64 := ⟨⟨_, Tryz.underlying76, rfl⟩, by kernel_rfl⟩
theorem one_u32 (l : List UInt32) : ∀ v ∈ l.map wval, v.oneCell' = true := by
  intro v hv
  obtain ⟨x, _, rfl⟩ := List.mem_map.1 hv
  rfl
set_option maxRecDepth 100000 in
set_option maxHeartbeats 1000000 in
theorem begins_any (w : World) : Calls Tryz.prog 153 #[] w fun e w' => e = .returned (.agg (beginsF.list.map wval).toArray) ∧ Ext Nil w w' := by
  go_enter Tryz.func153, Tryz.ntmps153
  go_wp2_with (refine wpList_store_all (o := ⟨none, _, _, _, _, _⟩) rfl (.tmp 0) (.tmp 1) rfl rfl (vs := beginsF.list.map wval) rfl aWords (row_alloc w _ _) rfl rfl (one_u32 _) ?_)
  exact bodyPost_ret (results_row (b := w.heap.size) (C := beginsF.list.map wval) rfl rfl aWords ((row_alloc w _ _).setRow _) rfl) rfl ⟨rfl, ((Ext.refl Nil w).alloc _).setRow (fun h => by omega) _⟩
set_option maxRecDepth 100000 in
set_option maxHeartbeats 1000000 in
theorem rounds_any (w : World) : Calls Tryz.prog 159 #[] w fun e w' => e = .returned (.agg (roundsF.map wval).toArray) ∧ Ext Nil w w' := by
  go_enter Tryz.func159, Tryz.ntmps159
  go_wp2_with (refine wpList_store_all (o := ⟨none, _, _, _, _, _⟩) rfl (.tmp 0) (.tmp 1) rfl rfl (vs := roundsF.map wval) rfl aLong (row_alloc w _ _) rfl rfl (one_u32 _) ?_)
  exact bodyPost_ret (results_row (b := w.heap.size) (C := roundsF.map wval) rfl rfl aLong ((row_alloc w _ _).setRow _) rfl) rfl ⟨rfl, ((Ext.refl Nil w).alloc _).setRow (fun h => by omega) _⟩
end Go.Proofs.YtggiknehmoaimaaGreatDoor
