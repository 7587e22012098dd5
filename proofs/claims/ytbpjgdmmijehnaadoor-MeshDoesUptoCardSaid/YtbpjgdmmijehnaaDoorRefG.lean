/-
  The document's mesh: Clip.
-/
import Derived.Test.YtbpjgdmmijehnaaDoorRefF
namespace Go.Proofs.YtbpjgdmmijehnaaDoor
open Go.RowKit Go.X

section
variable {w w' : World} {r : Nat} {n : Int} {R : Lk → List (List UInt8)} {F : Nat → Prop} {rb : Nat} {rows : Array Value} {ms : Nat → List Value} {v : Value}

set_option maxRecDepth 100000 in
set_option maxHeartbeats 2000000 in
theorem clip_ref (h : IsRef w r n R F) (x y i m0 : Int) (hml : ∀ l ∈ R (x, y), l.length ≤ 2097194) :
    Calls Tryd.prog 37 #[.pointer (some ⟨r, 0, none⟩), .int .i64 x, .int .i64 y, .int .i64 i, .int .i64 m0] w (DidR (.int .i64 (askedV n R (x, y) [i])) w r n (clipR n R (x, y) i m0) F) := by
  obtain ⟨rb, rows, ms, M⟩ := h
  have HM := Lib.hid M
  obtain ⟨ev, hev⟩ : ∃ ev, ev = askedV n R (x, y) [i] := ⟨_, rfl⟩
  have Hev := Lib.hid hev
  by_cases hz : ev = 0
  case neg =>
    have hb : (ev != 0) = true := by rw [bne_iff_ne]; exact hz
    have e1 : askedV n R (x, y) [i] = ev := hev.symm
    have e2 : clipR n R (x, y) i m0 = R := by unfold clipR; rw [e1, if_neg hz]
    rw [e1, e2]
    have Hz := Lib.hid hz
    clear e1 e2 M hev hz
    go_enter Tryd.func37, Tryd.ntmps37
    go_wp2_with (go_at_call 49; refine (named_ref HM.out x y i).mono ?_; rintro e w1 ⟨rfl, rfl⟩; rw [← Hev.out])
    go_ret
    exact didR_same ⟨_, _, _, HM.out⟩
  case pos =>
    subst hz
    have hth := (asked_zero hev).1
    have hij := (asked_zero hev).2 i (by simp)
    obtain ⟨j, rfl⟩ := Int.eq_ofNat_of_zero_le hij.1
    have hjn : j < (R (x, y)).length := by omega
    have hth' := Lib.hid hth
    obtain ⟨b, o, c, m, l, hrv, hc, hcell, hm, hl, hmc, hfzm, hmsg⟩ := M.elem hth (i := j) hjn
    obtain ⟨adm, cm, rfl⟩ := Own.slice hmsg
    have hrow := M.row (num (x, y))
    have hlen := M.len _ hth
    rw [hlen, hrv] at hrow
    have hfz := M.frozenR (num (x, y))
    have hrb1 := M.bound rb M.fb
    have hnum := num_lt M.few hth
    have Hmsg := Lib.hid hmsg
    have Hrow := Lib.hid hrow
    have Hlen := Lib.hid hlen
    have Hrv := Lib.hid hrv
    have Hm := Lib.hid hm
    have Hl := Lib.hid hl
    have Hfzm := Lib.hid hfzm
    have ev1 : askedV n R (x, y) [(j : Int)] = 0 := hev.symm
    have Ev := Lib.hid ev1
    have hw0 : True := trivial
    have hll := hml _ (List.mem_of_getElem? hl)
    have hgd : (R (x, y)).getD j [] = l := by rw [List.getD_eq_getElem?_getD, hl]; rfl
    have hbb : b < w.heap.size := World.block_lt_of_cell? w _ hmc
    have e2 : clipR n R (x, y) (j : Int) m0 = upd R (x, y) ((R (x, y)).set j (clipB l m0)) := by unfold clipR; rw [ev1, if_pos rfl, Int.toNat_natCast, hgd]
    rw [ev1, e2]
    by_cases hl0 : l.length = 0
    case pos =>
      have hl1 : ¬ (0 : Int) < (l.length : Int) := by omega
      have e3 : clipB l m0 = l := by unfold clipB; rw [List.eq_nil_of_length_eq_zero hl0]; simp
      rw [e3, set_same hl, upd_same]
      clear e2 e3 hml hw0 hgd hl0
      clear hth M hrv hm hl hfzm hmsg hrow hlen hev ev1 hij
      go_enter Tryd.func37, Tryd.ntmps37
      go_wp2_with (go_at_call 49; refine (named_ref HM.out x y _).mono ?_; rintro e w1 ⟨rfl, rfl⟩; rw [Ev.out])
      go_ret
      exact didR_same ⟨_, _, _, HM.out⟩
    case neg =>
      have hl2 : (0 : Int) < (l.length : Int) := by omega
      obtain ⟨p, hp⟩ := Int.eq_ofNat_of_zero_le (Int.emod_nonneg m0 (show (l.length : Int) ≠ 0 by omega))
      have hpn : p < l.length := by have := Int.emod_lt_of_pos m0 hl2; omega
      have hcm := (msg_at hmsg).2.1
      have Hp := Lib.hid hp
      clear e2 hml hw0 hgd hp
      clear hth M hrv hm hl hfzm hmsg hrow hlen hev ev1 hij
      go_enter Tryd.func37, Tryd.ntmps37
      go_wp2_with (go_at_call 49; refine (named_ref HM.out x y _).mono ?_; rintro e w1 ⟨rfl, rfl⟩; rw [Ev.out])
      refine X.wp_region_plan 25 [(0, true), (1, true), (2, true), (3, true), (4, true), (5, true), (6, true), (7, true), (8, true), (9, true), (10, true), (11, true), (12, true), (13, true), (14, true), (15, true), (16, true), (17, true), (18, true), (19, true), (20, true), (21, false), (22, true), (23, false), (24, true)] [(25, false)] (by kernel_rfl) (by kernel_rfl) (fun wd hxwd hh => ?_)
      clear hh
      repeat
        refine X.wpE_still (o := ⟨_, _, _, _, _, _⟩) rfl rfl ?_
        apply Exists.intro
        refine ⟨fun w' hE => ?_, ?_⟩
        · have hE2 := hxwd.extN hE
          have hc := hE2.cells
          go_simp
          rfl
        simp only [Act.put, List.setIfInBounds_toArray, List.set_cons_succ, List.set_cons_zero]
      refine X.wpE_call (o := ⟨_, _, _, _, _, _⟩) rfl rfl ?_
      apply Exists.intro
      apply Exists.intro
      refine ⟨?_, ?_⟩
      · go_simp
        exact ⟨rfl, rfl⟩
      refine (round_ref m0 _ _ hl2 (by omega)).mono ?_
      rintro e w' ⟨rfl, rfl⟩
      refine ⟨_, rfl, Ext.refl _ _, ?_⟩
      rw [Hp.out]
      simp only [Act.put, List.setIfInBounds_toArray, List.set_cons_succ, List.set_cons_zero]
      obtain ⟨ad', c', hcv, hcl⟩ := hcm
      injection hcv with q1 _ q2
      subst q1 q2
      have hcut := ((msg_at Hmsg.out).ext hxwd fun _ _ _ h => h).cut (k := p) (by omega)
      obtain ⟨adc, nc, cc, hcv⟩ : ∃ a b c, cutV adm 1 0 p cm = .slice a b c := ⟨_, _, _, rfl⟩
      refine X.wpE_still (o := ⟨_, _, _, _, _, _⟩) rfl rfl ?_
      refine ⟨.slice adc nc cc, fun w' hE => by rw [← hcv]; exact X.exec_slice (n := l.length) rfl elByte rfl (.inl ⟨rfl, rfl⟩) (.inr ⟨_, rfl⟩) (by omega) (by omega) w', ?_⟩
      simp only [Act.put, List.setIfInBounds_toArray, List.set_cons_succ, List.set_cons_zero]
      rw [hcv] at hcut
      refine X.wpE_call (o := ⟨_, _, _, _, _, _⟩) rfl rfl ?_
      apply Exists.intro
      apply Exists.intro
      refine ⟨?_, ?_⟩
      · go_simp
        exact ⟨rfl, rfl⟩
      refine (copied_ref hcut (by rw [List.length_take]; omega)).mono ?_
      rintro e w4 ⟨mm, rfl, hm4, hx4, hnew⟩
      have hclip : l.take p = clipB l m0 := by unfold clipB; rw [Hp.out, Int.toNat_natCast]
      rw [hclip] at hm4
      obtain ⟨ad3, c3, rfl⟩ := Own.slice hm4
      refine ⟨_, rfl, hx4, ?_⟩
      simp only [Act.put, List.setIfInBounds_toArray, List.set_cons_succ, List.set_cons_zero]
      have hxw4 := hxwd.extN hx4
      repeat
        refine X.wpE_still (o := ⟨_, _, _, _, _, _⟩) rfl rfl ?_
        apply Exists.intro
        refine ⟨fun w' hE => ?_, ?_⟩
        · have hE2 := hxw4.extN hE
          have hc := hE2.cells
          go_simp
          rfl
        simp only [Act.put, List.setIfInBounds_toArray, List.set_cons_succ, List.set_cons_zero]
      refine X.wpE_nil ?_
      have hc4 : w4.cell? ⟨b, o + j, none⟩ = some (.slice adm l.length cm) := hxw4.cell hmc id
      have hf4 : w4.frozen? ⟨b, o + j, none⟩ = false := by rw [World.frozen?_of_block (w := w) (hxw4.block b hbb id)]; exact Hfzm.out _
      have Hx4 := Lib.hid hxw4
      have Hm4 := Lib.hid hm4
      have hnew2 : ∀ z, (Value.slice ad3 (clipB l m0).length c3).ownBlock = some z → w.heap.size ≤ z := fun z hz => Nat.le_trans hxwd.size (hnew z hz)
      have Hnew := Lib.hid hnew2
      clear hxw4 hm4 hnew2 hnew hx4 hcut hxwd hclip hcell hmc hfz
      refine X.wpT_act (o := ⟨_, _, _, _, _, _⟩) rfl rfl ?_
      apply Exists.intro
      refine ⟨?_, ?_⟩
      · go_simp
        rfl
      simp only [Act.put]
      refine X.wpT_nil ?_
      go_wp2
      go_ret
      obtain ⟨H8, hx8⟩ := HM.out.replaced hth'.out Hlen.out Hrv.out hjn Hx4.out Hm4.out Hnew.out
      exact ⟨rfl, H8, hx8⟩
end
end Go.Proofs.YtbpjgdmmijehnaaDoor
