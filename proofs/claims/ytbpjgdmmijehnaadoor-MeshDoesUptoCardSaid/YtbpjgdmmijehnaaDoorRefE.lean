/-
  The document's mesh: Twice, Swap.
-/
import Derived.Test.YtbpjgdmmijehnaaDoorRefD
namespace Go.Proofs.YtbpjgdmmijehnaaDoor
open Go.RowKit Go.X

section
variable {w w' : World} {r : Nat} {n : Int} {R : Lk → List (List UInt8)} {F : Nat → Prop} {rb : Nat} {rows : Array Value} {ms : Nat → List Value} {v : Value}

theorem msg_at {w : World} {v : Value} {l : List UInt8} (h : MsgIs w v l) : BytesAt w v l := by
  have h' : Own w v 5 1 l.length (bv l) := h
  obtain ⟨ad, c, e, hc, _⟩ := h'.slice2
  exact ⟨h'.src (bv_one l), ⟨ad, c, e, hc⟩, fun _ b hb => h'.lt b hb⟩
set_option maxRecDepth 100000 in
set_option maxHeartbeats 2000000 in
theorem twice_ref (h : IsRef w r n R F) (x y i : Int) (hcap : (R (x, y)).length ≤ 1024) (hml : ∀ l ∈ R (x, y), l.length ≤ 2097194) :
    Calls Tryd.prog 34 #[.pointer (some ⟨r, 0, none⟩), .int .i64 x, .int .i64 y, .int .i64 i] w (DidR (.int .i64 (twiceV n R (x, y) i)) w r n (twiceR n R (x, y) i) F) := by
  obtain ⟨rb, rows, ms, M⟩ := h
  have HM := Lib.hid M
  obtain ⟨ev, hev⟩ : ∃ ev, ev = askedV n R (x, y) [i] := ⟨_, rfl⟩
  have Hev := Lib.hid hev
  by_cases hz : ev = 0
  case neg =>
    have hb : (ev != 0) = true := by rw [bne_iff_ne]; exact hz
    have e1 : twiceV n R (x, y) i = ev := by unfold twiceV; rw [← hev, if_neg hz]
    have e2 : twiceR n R (x, y) i = R := by unfold twiceR; rw [e1, if_neg hz]
    rw [e1, e2]
    have Hz := Lib.hid hz
    clear e1 e2 M hev hz
    go_enter Tryd.func34, Tryd.ntmps34
    go_wp2_with (go_at_call 49; refine (named_ref HM.out x y i).mono ?_; rintro e w1 ⟨rfl, rfl⟩; rw [← Hev.out])
    go_ret
    exact didR_same ⟨_, _, _, HM.out⟩
  case pos =>
    subst hz
    have hth := (asked_zero hev).1
    have hij := (asked_zero hev).2 i (by simp)
    obtain ⟨j, rfl⟩ := Int.eq_ofNat_of_zero_le hij.1
    have hjn : j < (R (x, y)).length := by omega
    have hth' := Lib.hid hth
    obtain ⟨b, o, c, m, l, hrv, hc, hcell, hm, hl, hmc, hfzm, hmsg⟩ := M.elem hth (i := j) hjn
    obtain ⟨adm, cm, rfl⟩ := Own.slice hmsg
    have hrow := M.row (num (x, y))
    have hlen := M.len _ hth
    rw [hlen, hrv] at hrow
    have hfz := M.frozenR (num (x, y))
    have hrb1 := M.bound rb M.fb
    have hnum := num_lt M.few hth
    have Hmsg := Lib.hid hmsg
    have Hrow := Lib.hid hrow
    have Hlen := Lib.hid hlen
    have Hrv := Lib.hid hrv
    have Hm := Lib.hid hm
    have Hl := Lib.hid hl
    have Hfzm := Lib.hid hfzm
    have ev1 : askedV n R (x, y) [(j : Int)] = 0 := hev.symm
    have Ev := Lib.hid ev1
    have hw : IntKind.i64.wrap ((j : Int) + 1) = (j : Int) + 1 := by rw [IntKind.wrap_i64]; omega
    have hll := hml _ (List.mem_of_getElem? hl)
    by_cases hfull : 1024 ≤ (R (x, y)).length
    case pos =>
      have e1 : twiceV n R (x, y) (j : Int) = 3 := by unfold twiceV; rw [ev1, if_pos rfl, if_pos hfull]
      have e2 : twiceR n R (x, y) (j : Int) = R := by unfold twiceR; rw [e1]; rfl
      rw [e1, e2]
      clear e1 e2 hml
      clear hth M hrv hm hl hfzm hmsg hrow hlen hev ev1 hij
      go_enter Tryd.func34, Tryd.ntmps34
      go_wp2_with (go_at_call 49; refine (named_ref HM.out x y j).mono ?_; rintro e w1 ⟨rfl, rfl⟩; rw [Ev.out])
      go_ret
      exact didR_same ⟨_, _, _, HM.out⟩
    case neg =>
      have e1 : twiceV n R (x, y) (j : Int) = 0 := by unfold twiceV; rw [ev1, if_pos rfl, if_neg hfull]
      have e2 : twiceR n R (x, y) (j : Int) = upd R (x, y) (R (x, y) ++ [l]) := by unfold twiceR; rw [e1, if_pos rfl, Int.toNat_natCast, List.getD_eq_getElem?_getD, hl]; rfl
      rw [e1, e2]
      have hbb : b < w.heap.size := World.block_lt_of_cell? w _ hmc
      clear e1 e2 hml
      clear hth M hrv hm hl hfzm hmsg hrow hlen hev ev1 hij
      go_enter Tryd.func34, Tryd.ntmps34
      go_wp2_with (go_at_call 49; refine (named_ref HM.out x y j).mono ?_; rintro e w1 ⟨rfl, rfl⟩; rw [Ev.out])
      refine X.wp_region_pre 14 [0] [(1, true), (2, true), (3, true), (4, true), (5, true), (6, true), (7, true), (8, true), (9, true), (10, true), (11, true), (12, false), (13, false)] [(14, false), (15, true), (16, true), (17, false)] (by kernel_rfl) (by kernel_rfl) (fun wd hxwd hh => ?_)
      clear hh
      refine X.wpT_pure (o := ⟨_, _, _, _, _, _⟩) rfl rfl ?_
      apply Exists.intro
      refine ⟨fun w' => ?_, ?_⟩
      · go_simp
        rfl
      simp only [Act.put, List.setIfInBounds_toArray, List.set_cons_succ, List.set_cons_zero]
      refine X.wpT_nil ?_
      show X.wpE _ _ _ _ _ _
      repeat
        refine X.wpE_still (o := ⟨_, _, _, _, _, _⟩) rfl rfl ?_
        apply Exists.intro
        refine ⟨fun w' hE => ?_, ?_⟩
        · have hE2 := hxwd.extN hE
          have hc := hE2.cells
          go_simp
          rfl
        simp only [Act.put, List.setIfInBounds_toArray, List.set_cons_succ, List.set_cons_zero]
      refine X.wpE_call (o := ⟨_, _, _, _, _, _⟩) rfl rfl ?_
      apply Exists.intro
      apply Exists.intro
      refine ⟨?_, ?_⟩
      · go_simp
        exact ⟨rfl, rfl⟩
      refine (copied_ref ((msg_at Hmsg.out).ext hxwd fun _ _ _ h => h) (by omega)).mono ?_
      rintro e w4 ⟨mm, rfl, hm, hx4, hnew⟩
      obtain ⟨ad3, c3, rfl⟩ := Own.slice hm
      refine ⟨_, rfl, hx4, ?_⟩
      simp only [Act.put, List.setIfInBounds_toArray, List.set_cons_succ, List.set_cons_zero]
      refine X.wpE_grow (o := ⟨_, _, _, _, _, _⟩) rfl rfl ?_
      apply Exists.intro
      apply Exists.intro
      refine ⟨?_, ?_, ?_⟩
      · go_simp
        exact ⟨rfl, rfl⟩
      · exact (Ext.refl _ _).alloc _
      simp only [Act.put, List.setIfInBounds_toArray, List.set_cons_succ, List.set_cons_zero]
      refine X.wpE_nil ?_
      have hx15 : Ext Nil w (w4.alloc (Obj.cells #[.slice ad3 l.length c3] 32)) := (hxwd.extN hx4).alloc _
      have hsrc5 : Src (w4.alloc (Obj.cells #[.slice ad3 l.length c3] 32)) (.slice (some ⟨w4.heap.size, 0, none⟩) 1 1) 1 1 [.slice ad3 l.length c3] := src_new w4 [.slice ad3 l.length c3] 32 (by simpa using Own.one hm)
      have hm5 : MsgIs (w4.alloc (Obj.cells #[.slice ad3 l.length c3] 32)) (.slice ad3 l.length c3) l := Own.ext (F := Nil) hm ((Ext.refl _ _).alloc _) fun _ _ h => h
      have hnew2 : ∀ k, (Value.slice ad3 l.length c3).ownBlock = some k → w.heap.size ≤ k := fun b hb => Nat.le_trans hxwd.size (hnew b hb)
      have hnbw : w.heap.size ≤ w4.heap.size := (hxwd.extN hx4).size
      obtain ⟨nb, hnb⟩ : ∃ nb, nb = w4.heap.size := ⟨_, rfl⟩
      rw [← hnb] at hsrc5 hnbw ⊢
      have Hmm := Lib.hid hm5
      have Hnew := Lib.hid hnew2
      clear hm hx4 hnew hnb hm5 hnew2
      generalize w4.alloc (Obj.cells #[.slice ad3 l.length c3] 32) = w5 at hx15 hsrc5 Hmm ⊢
      have Hrow5 := Lib.hid (Hrow.out.ext hx15 fun _ _ h => h)
      have Hsrc5 := Lib.hid hsrc5
      have Hx15 := Lib.hid hx15
      clear hsrc5 hx15 hxwd
      refine X.wpT_loud (o := ⟨_, _, _, _, _, _⟩) rfl rfl ?_
      refine X.wp_append _ _ 25 rfl elBytes ⟨_, Tryd.underlying25, fun _ h => by cases h⟩ Hrow5.out Hsrc5.out rfl rfl (by omega) (by unfold maxLen; omega) ?_
      intro v7 w7 hA
      obtain ⟨ad7, c7, rfl⟩ := hA.own.slice
      simp only [Act.put, List.setIfInBounds_toArray, List.set_cons_succ, List.set_cons_zero]
      have hx7 : Ext (fun b => (rvR rows (num (x, y))).ownBlock = some b) w w7 := by
        rw [Hrv.out]
        exact Hx15.out.nilMono.trans hA.ext fun _ _ e => e
      have h7 : w7.heap[rb]? = some (.cells rows 88 (0, 0)) := hx7.heap HM.out.hrows fun e => HM.out.ne_b_row e rfl
      have hc7 : w7.cell? ⟨rb, num (x, y), none⟩ = some (.slice (some ⟨b, o, none⟩) (R (x, y)).length c) := by
        have := hx7.cell hcell fun e => HM.out.ne_b_row e rfl
        exact this
      have hf7 : w7.frozen? ⟨rb, num (x, y), none⟩ = false := by simp [World.frozen?, h7]
      have HA := Lib.hid hA
      have Hx7 := Lib.hid hx7
      clear hA hx7 h7 hcell hfz
      repeat
        refine X.wpT_pure (o := ⟨_, _, _, _, _, _⟩) rfl rfl ?_
        apply Exists.intro
        refine ⟨fun w' => ?_, ?_⟩
        · go_simp
          rfl
        simp only [Act.put, List.setIfInBounds_toArray, List.set_cons_succ, List.set_cons_zero]
      refine X.wpT_act (o := ⟨_, _, _, _, _, _⟩) rfl rfl ?_
      apply Exists.intro
      refine ⟨?_, ?_⟩
      · go_simp
        rfl
      simp only [Act.put]
      refine X.wpT_nil ?_
      go_wp2
      go_ret
      obtain ⟨H8, hx8⟩ := HM.out.pushed hth'.out Hlen.out Hrv.out Hx15.out Hmm.out Hnew.out HA.out
      exact ⟨rfl, H8, hx8⟩

/-- A row whose elements have turned, in their places. -/
theorem RefAt.changed (h : RefAt w r n R F rb rows ms) {k : Lk} (hk : thereB n k = true) {w6 : World} {l : List Value} {L : List (List UInt8)}
    (hx : Ext (fun b => (rvR rows (num k)).ownBlock = some b) w w6) (hrow : Own w6 (rvR rows (num k)) 32 1 l.length l) (hlen : l.length = L.length)
    (hmsg : ∀ (i : Nat) (m : Value) (x : List UInt8), l[i]? = some m → L[i]? = some x → MsgIs w6 m x ∧ ∀ b, m.ownBlock = some b → F b ∨ w.heap.size ≤ b) :
    IsRef w6 r n (upd R k L) (Grow F w w6) ∧ Ext F w w6 := by
  have hlt := num_lt h.few hk
  have e : rows.setIfInBounds (num k) (rvR rows (num k)) = rows := by
    unfold rvR
    have h0 : num k < rows.size := by rw [h.size]; exact hlt
    rw [Array.getElem?_eq_getElem h0]
    apply Array.ext
    · simp
    · intro i h1 h2
      rw [Array.getElem_setIfInBounds]
      split
      · rename_i e; subst e; rfl
      · rfl
  have := h.turn hk hx (fun b hb => .inr hb) (v := rvR rows (num k)) (by rw [e]; exact hx.heap h.hrows fun e => h.ne_b_row e rfl) hrow hlen hmsg fun b hb => .inl hb
  exact ⟨⟨_, _, _, this⟩, hx.mono fun b _ e => h.frow _ _ e⟩
theorem asked_two (n : Int) (R : Lk → List (List UInt8)) (k : Lk) (i j : Int) : askedV n R k [i, j] = if askedV n R k [i] = 0 then askedV n R k [j] else askedV n R k [i] := by
  unfold askedV
  cases thereB n k with
  | false => rfl
  | true =>
    simp only [if_true, List.all_cons, List.all_nil, Bool.and_true]
    cases decide (0 ≤ i ∧ i < (R k).length) <;> cases decide (0 ≤ j ∧ j < (R k).length) <;> rfl

set_option maxRecDepth 100000 in
set_option maxHeartbeats 2000000 in
theorem swap_ref (h : IsRef w r n R F) (x y i i2 : Int) :
    Calls Tryd.prog 35 #[.pointer (some ⟨r, 0, none⟩), .int .i64 x, .int .i64 y, .int .i64 i, .int .i64 i2] w (DidR (.int .i64 (askedV n R (x, y) [i, i2])) w r n (swapR n R (x, y) i i2) F) := by
  obtain ⟨rb, rows, ms, M⟩ := h
  have HM := Lib.hid M
  obtain ⟨ev, hev⟩ : ∃ ev, ev = askedV n R (x, y) [i] := ⟨_, rfl⟩
  have Hev := Lib.hid hev
  by_cases hz : ev = 0
  case neg =>
    have hb : (ev != 0) = true := by rw [bne_iff_ne]; exact hz
    have e1 : askedV n R (x, y) [i, i2] = ev := by rw [asked_two, ← hev, if_neg hz]
    have e2 : swapR n R (x, y) i i2 = R := by unfold swapR; rw [e1, if_neg hz]
    rw [e1, e2]
    have Hz := Lib.hid hz
    clear e1 e2 M hev hz
    go_enter Tryd.func35, Tryd.ntmps35
    go_wp2_with (go_at_call 49; refine (named_ref HM.out x y i).mono ?_; rintro e w1 ⟨rfl, rfl⟩; rw [← Hev.out])
    go_ret
    exact didR_same ⟨_, _, _, HM.out⟩
  case pos =>
    subst hz
    have hth := (asked_zero hev).1
    have hij := (asked_zero hev).2 i (by simp)
    obtain ⟨j, rfl⟩ := Int.eq_ofNat_of_zero_le hij.1
    have hjn : j < (R (x, y)).length := by omega
    have hth' := Lib.hid hth
    obtain ⟨b, o, c, m, l, hrv, hc, hcell, hm, hl, hmc, hfzm, hmsg⟩ := M.elem hth (i := j) hjn
    obtain ⟨adm, cm, rfl⟩ := Own.slice hmsg
    have hrow := M.row (num (x, y))
    have hlen := M.len _ hth
    rw [hlen, hrv] at hrow
    have hfz := M.frozenR (num (x, y))
    have hrb1 := M.bound rb M.fb
    have hnum := num_lt M.few hth
    have Hmsg := Lib.hid hmsg
    have Hrow := Lib.hid hrow
    have Hlen := Lib.hid hlen
    have Hrv := Lib.hid hrv
    have Hm := Lib.hid hm
    have Hl := Lib.hid hl
    have Hfzm := Lib.hid hfzm
    have ev1 : askedV n R (x, y) [(j : Int)] = 0 := hev.symm
    have Ev := Lib.hid ev1
    have hw0 : True := trivial
    obtain ⟨ev2, hev2⟩ : ∃ ev2, ev2 = askedV n R (x, y) [i2] := ⟨_, rfl⟩
    have hev12 : askedV n R (x, y) [(j : Int), i2] = ev2 := by rw [asked_two, ev1, if_pos rfl, hev2]
    have Hev2 := Lib.hid hev2
    by_cases hz : ev2 = 0
    case neg =>
      have hb : (ev2 != 0) = true := by rw [bne_iff_ne]; exact hz
      have e2 : swapR n R (x, y) (j : Int) i2 = R := by unfold swapR; rw [hev12, if_neg hz]
      rw [hev12, e2]
      have Hz := Lib.hid hz
      clear hz e2 hev12 hev2 hw0
      clear hth M hrv hm hl hfzm hmsg hrow hlen hev ev1 hij
      go_enter Tryd.func35, Tryd.ntmps35
      go_wp2_with (go_at_call 49; refine (named_ref HM.out x y _).mono ?_; rintro e w1 ⟨rfl, rfl⟩; first | rw [Ev.out] | rw [← Hev2.out, if_neg Hz.out])
      go_ret
      exact didR_same ⟨_, _, _, HM.out⟩
    case pos =>
      subst hz
      have hij2 := (asked_zero hev2).2 i2 (by simp)
      obtain ⟨j2, rfl⟩ := Int.eq_ofNat_of_zero_le hij2.1
      have hjn2 : j2 < (R (x, y)).length := by omega
      obtain ⟨b', o', c', m2, l2, hrv2, _, _, hm2, hl2, hmc2, _, hmsg2⟩ := M.elem hth (i := j2) hjn2
      have hrv12 := hrv.symm.trans hrv2
      injection hrv12 with q1 _ q2
      injection q1 with q1
      injection q1 with q1 q3
      subst q1 q2 q3
      obtain ⟨adm2, cm2, rfl⟩ := Own.slice hmsg2
      have e2 : swapR n R (x, y) (j : Int) (j2 : Int) = upd R (x, y) (swapL (R (x, y)) j j2) := by unfold swapR; rw [hev12, if_pos rfl]; rfl
      rw [hev12, e2]
      have hbb : b < w.heap.size := World.block_lt_of_cell? w _ hmc
      have hfzj := hfzm (o + j)
      have hfzj2 := hfzm (o + j2)
      have Hm2 := Lib.hid hm2
      have Hl2 := Lib.hid hl2
      clear e2 hev12 hev2 hw0 hm2 hl2 hmsg2 hij2 hrv2
      clear hth M hrv hm hl hfzm hmsg hrow hlen hev ev1 hij
      go_enter Tryd.func35, Tryd.ntmps35
      go_wp2_with (go_at_call 49; refine (named_ref HM.out x y _).mono ?_; rintro e w1 ⟨rfl, rfl⟩; first | rw [Ev.out] | rw [← Hev2.out])
      refine X.wp_region_plan 13 [(0, true), (1, true), (2, true), (3, true), (4, true), (5, true), (6, true), (7, true), (8, true), (9, true), (10, true), (11, true), (12, true)] [(13, false)] (by kernel_rfl) (by kernel_rfl) (fun wd hxwd hh => ?_)
      clear hh
      repeat
        refine X.wpE_still (o := ⟨_, _, _, _, _, _⟩) rfl rfl ?_
        apply Exists.intro
        refine ⟨fun w' hE => ?_, ?_⟩
        · have hE2 := hxwd.extN hE
          have hc := hE2.cells
          go_simp
          rfl
        simp only [Act.put, List.setIfInBounds_toArray, List.set_cons_succ, List.set_cons_zero]
      refine X.wpE_nil ?_
      have hownd := Hrow.out.ext hxwd fun _ _ h => h
      have hmcd : wd.cell? ⟨b, o + j, none⟩ = some (.slice adm l.length cm) := hxwd.cell hmc id
      have hfzd : wd.frozen? ⟨b, o + j, none⟩ = false := hownd.frozen _
      have Hxd := Lib.hid hxwd
      have Hownd := Lib.hid hownd
      clear hxwd hownd hmc hmc2 hfzj hfzj2
      refine X.wpT_act (o := ⟨_, _, _, _, _, _⟩) rfl rfl ?_
      apply Exists.intro
      refine ⟨?_, ?_⟩
      · go_simp
        rfl
      simp only [Act.put]
      refine X.wpT_nil ?_
      have hown6 := Own.set Hownd.out hjn (.slice adm2 l2.length cm2)
      have hne : rb ≠ b := fun e => HM.out.ne_b_row (j := num (x, y)) (b := b) (by rw [Hrv.out]; rfl) e.symm
      have hx6 : Ext (fun k => k = b) w (wd.setCell ⟨b, o + j, none⟩ (.slice adm2 l2.length cm2)) := Hxd.out.nilMono.trans' ((Ext.refl (fun k => k = b) wd).setCell (p := ⟨b, o + j, none⟩) (fun _ => rfl) _)
      generalize wd.setCell ⟨b, o + j, none⟩ (.slice adm2 l2.length cm2) = w6 at hown6 hx6 ⊢
      have hc6 : w6.cell? ⟨rb, num (x, y), none⟩ = some (.slice (some ⟨b, o, none⟩) (R (x, y)).length c) := hx6.cell hcell hne
      obtain ⟨u6, hu6⟩ : ∃ u, w6.cell? ⟨b, o + j2, none⟩ = some u := by
        rcases hown6.shape with ⟨h, _⟩ | ⟨_, _, _, h, _, _, hc⟩
        · cases h
        · injection h with e1 _ _
          injection e1 with e1
          injection e1 with e1 e2
          subst e1 e2
          exact ⟨_, hc j2 _ (List.getElem?_eq_getElem (by rw [List.length_set, Hlen.out]; exact hjn2))⟩
      have hf6 : w6.frozen? ⟨b, o + j2, none⟩ = false := hown6.frozen _
      have Hown6 := Lib.hid hown6
      have Hx6 := Lib.hid hx6
      clear hown6 hx6 hcell hmcd hfzd hfz hne
      go_wp2
      go_ret
      have hown7 := Own.set Hown6.out hjn2 (.slice adm l.length cm)
      have hx7 : Ext (fun k => (rvR rows (num (x, y))).ownBlock = some k) w (w6.setCell ⟨b, o + j2, none⟩ (.slice adm l.length cm)) := by
        rw [Hrv.out]
        exact (Hx6.out.trans' ((Ext.refl (fun k => k = b) w6).setCell (p := ⟨b, o + j2, none⟩) (fun _ => rfl) _)).mono fun k _ e => by rw [e]; rfl
      have hsw : ((ms (num (x, y))).set j (.slice adm2 l2.length cm2)).set j2 (.slice adm l.length cm) = swapL (ms (num (x, y))) j j2 := by unfold swapL; rw [Hm.out, Hm2.out]
      rw [hsw] at hown7
      obtain ⟨H8, hx8⟩ := HM.out.changed hth'.out (l := swapL (ms (num (x, y))) j j2) (L := swapL (R (x, y)) j j2) hx7 (by rw [swapL_length, Hlen.out, Hrv.out]; exact hown7) (by rw [swapL_length, swapL_length, Hlen.out]) (fun i m' x' hm' hx' => by
        rw [swapL_get (by rw [Hlen.out]; exact hjn) (by rw [Hlen.out]; exact hjn2)] at hm'
        rw [swapL_get hjn hjn2] at hx'
        exact HM.out.oldmsg hth'.out hx7 hm' hx')
      exact ⟨rfl, H8, hx8⟩
end
end Go.Proofs.YtbpjgdmmijehnaaDoor
