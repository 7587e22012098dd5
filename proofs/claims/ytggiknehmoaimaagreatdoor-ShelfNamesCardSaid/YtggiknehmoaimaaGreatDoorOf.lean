/-
  SHA-256 of the program: Of.
-/
import Derived.Test.YtggiknehmoaimaaGreatDoorSum
namespace Go.Proofs.YtggiknehmoaimaaGreatDoor
open Go Go.RowKit Go.X

set_option maxRecDepth 100000 in
set_option maxHeartbeats 4000000 in
theorem ofAll_one {w : World} {v : Value} {l : Bytes} {b : Nat} (hv : BytesIn w v l) (hl : l.length ≤ 281474976710656) (hb : w.cell? ⟨b, 0, none⟩ = some v) :
    Calls Tryz.prog 106 #[.slice (some ⟨b, 0, none⟩) 1 1] w fun e w' => e = .returned (Go.X.hv (shaF l)) ∧ Ext Nil w w' := by
  have Hv := Lib.hid hv
  have Hb := Lib.hid hb
  have hbl : b < w.heap.size := World.block_lt_of_cell? w _ hb
  have hvl : l ≠ [] → ∀ k, v.ownBlock = some k → k < w.heap.size := fun h0 k hk => by
    obtain ⟨ad, c, rfl, hc, hby⟩ := hv
    obtain ⟨b', o, rfl, hc'⟩ := hby 0 (l[0]'(by cases l; exact absurd rfl h0; simp)) (by simp)
    simp [Value.ownBlock] at hk
    subst hk
    exact World.block_lt_of_cell? w _ hc'
  have Hvl := Lib.hid hvl
  clear hv hb hvl
  go_enter Tryz.func106, Tryz.ntmps106
  go_wp2_with fail
  refine (digest_new _).mono ?_
  rintro e w1 ⟨d, rfl, hd, hd1, hx1⟩
  have hr0 := (row_alloc w (bv (List.replicate 32 0)).toArray 27).ext0 hx1
  have hx01 : Ext Nil w w1 := ((Ext.refl Nil w).alloc _).extN hx1
  have hd2 : w.heap.size + 1 ≤ d := by simpa using hd
  have Hd1 := Lib.hid hd1
  have Hr0 := Lib.hid hr0
  have Hx01 := Lib.hid hx01
  clear hd hd1 hr0 hx1 hx01
  go_wp2_with fail
  go_loopw [9] (fun i wr => ∃ k : Nat, k ≤ 1 ∧ i = .int .i64 (k : Int) ∧ DigestIs wr d (if k = 0 then [] else l) ∧ Row wr w.heap.size 27 (bv (List.replicate 32 0)) ∧ Ext Nil w wr) (fun i _ => 1 - (intOf i).toNat)
  case atStart => exact ⟨0, by omega, by first | trivial | rfl, Hd1.out, Hr0.out, Hx01.out⟩
  case round =>
    obtain ⟨k, hk, rfl, hdi, hrow, hxr⟩ := hrel
    have Hdi := Lib.hid hdi
    have Hrow := Lib.hid hrow
    have Hxr := Lib.hid hxr
    have hbc := hxr.cell Hb.out id
    clear hdi hrow hxr
    by_cases hk1 : k = 0
    case pos =>
      subst hk1
      have Hdi' : Hid (DigestIs wr d []) := Hdi.out
      go_wp2_with fail
      refine (digest_write Hdi'.out (Hv.out.ext0 Hxr.out) (fun h0 b hb e => by have := Hvl.out h0 b hb; omega) (by simp; omega)).mono ?_
      rintro e w2 ⟨rfl, hd3, hx3⟩
      have hrel : DigestIs w2 d l ∧ Row w2 w.heap.size 27 (bv (List.replicate 32 0)) ∧ Ext Nil w w2 := ⟨by simpa using hd3, Hrow.out.ext hx3 (by omega), Hxr.out.trans hx3 fun k h1 h2 => by omega⟩
      have Hrel := Lib.hid hrel
      clear hd3 hx3 hrel
      go_wp2_with fail
      go_roundw
      case rel => exact ⟨1, by omega, by first | trivial | rfl | go_num, Hrel.out.1, Hrel.out.2.1, Hrel.out.2.2⟩
      case measure => simp [intOf]
    case neg =>
      obtain rfl : k = 1 := by omega
      have Hdi' : Hid (DigestIs wr d l) := Hdi.out
      clear Hdi
      go_wp2_with fail
      refine (digest_sum Hdi'.out hl).mono ?_
      rintro e w2 ⟨rfl, hx2⟩
      have Hr2 := Lib.hid (Hrow.out.ext0 hx2)
      have Hx2 := Lib.hid (Hxr.out.extN hx2)
      clear hx2
      go_wp2_with (refine wpList_store_all (o := ⟨none, _, _, _, _, _⟩) rfl (.tmp 2) (.tmp 18) rfl rfl (vs := bv (shaF l).1) rfl aHash Hr2.out rfl (by rw [bv_length, (shaF l).2]) (bv_one _) ?_)
      exact bodyPost_ret (results_row (b := w.heap.size) (C := bv (shaF l).1) rfl rfl aHash (Hr2.out.setRow _) (by rw [bv_length, (shaF l).2])) rfl ⟨rfl, Hx2.out.setRow (fun h => by omega) _⟩

set_option maxRecDepth 100000 in
set_option maxHeartbeats 4000000 in
theorem of_any {w : World} {v : Value} {l : Bytes} (hv : BytesIn w v l) (hl : l.length ≤ 281474976710656) :
    Calls Tryz.prog 58 #[v] w fun e w' => e = .returned (Go.X.hv (shaF l)) ∧ Ext Nil w w' := by
  have Hv := Lib.hid hv
  have h1 : v.oneCell' = true := by obtain ⟨ad, c, rfl, _⟩ := hv; rfl
  obtain ⟨ad, c, rfl, _⟩ := hv
  go_enter Tryz.func58, Tryz.ntmps58
  go_wp2_with fail
  have hcall := ofAll_one (w := (w.alloc (.cells (bv (List.replicate 32 0)).toArray 27)).alloc (.cells #[.slice ad l.length c] 29)) (b := w.heap.size + 1) (Hv.out.ext0 (((Ext.refl Nil w).alloc _).alloc _)) hl (by
    have := (row_alloc1 w (bv (List.replicate 32 0)).toArray #[.slice ad l.length c] 27 29).cell (i := 0) rfl
    exact this)
  refine (hcall).mono ?_
  rintro e w2 ⟨rfl, hx2⟩
  have hr := ((row_alloc w (bv (List.replicate 32 0)).toArray 27).ext0 ((Ext.refl Nil _).alloc (.cells #[.slice ad l.length c] 29))).ext0 hx2
  have Hr2 := Lib.hid hr
  have Hx2 := Lib.hid ((((Ext.refl Nil w).alloc (.cells (bv (List.replicate 32 0)).toArray 27)).alloc (.cells #[.slice ad l.length c] 29)).extN hx2)
  clear hx2 hr hcall
  go_wp2_with (refine wpList_store_all (o := ⟨none, _, _, _, _, _⟩) rfl (.tmp 2) (.tmp 5) rfl rfl (vs := bv (shaF l).1) rfl aHash Hr2.out rfl (by rw [bv_length, (shaF l).2]) (bv_one _) ?_)
  exact bodyPost_ret (results_row (b := w.heap.size) (C := bv (shaF l).1) rfl rfl aHash (Hr2.out.setRow _) (by rw [bv_length, (shaF l).2])) rfl ⟨rfl, Hx2.out.setRow (fun h => by omega) _⟩
end Go.Proofs.YtggiknehmoaimaaGreatDoor
