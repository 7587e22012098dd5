/-
  The document's mesh: Flip.
-/
import Derived.Test.YtbpjgdmmijehnaaDoorRefE
import Derived.Laws.BitsAllLaws
namespace Go.Proofs.YtbpjgdmmijehnaaDoor
open Go.RowKit Go.X

section
variable {w w' : World} {r : Nat} {n : Int} {R : Lk → List (List UInt8)} {F : Nat → Prop} {rb : Nat} {rows : Array Value} {ms : Nat → List Value} {v : Value}

/-- A message that is another one now. -/
theorem RefAt.replaced (h : RefAt w r n R F rb rows ms) {k : Lk} (hk : thereB n k = true) {w2 : World} {b o q c j : Nat} {m : Value} {l : List UInt8}
    (hlen : (ms (num k)).length = (R k).length) (hrv : rvR rows (num k) = .slice (some ⟨b, o, none⟩) q c) (hj : j < (R k).length) (hx : Ext Nil w w2) (hm : MsgIs w2 m l) (hnew : ∀ z, m.ownBlock = some z → w.heap.size ≤ z) :
    IsRef (w2.setCell ⟨b, o + j, none⟩ m) r n (upd R k ((R k).set j l)) (Grow F w (w2.setCell ⟨b, o + j, none⟩ m)) ∧ Ext F w (w2.setCell ⟨b, o + j, none⟩ m) := by
  have hset := (Ext.refl (fun z => z = b) w2).setCell (p := ⟨b, o + j, none⟩) (fun _ => rfl) m
  have hx3 : Ext (fun z => (rvR rows (num k)).ownBlock = some z) w (w2.setCell ⟨b, o + j, none⟩ m) := by
    rw [hrv]
    exact (hx.nilMono.trans' hset).mono fun z _ e => by rw [e]; rfl
  have hrow := (h.row (num k)).ext hx fun _ _ h => h
  have hbF : F b := h.frow (num k) b (by rw [hrv]; rfl)
  have hblt := h.bound b hbF
  rw [hlen] at hrow
  have hq : q = (R k).length := by
    rcases hrow.shape with ⟨h, h0, _⟩ | ⟨_, _, _, h, _⟩
    · rw [hrv] at h; cases h
    · rw [hrv] at h; injection h
  subst hq
  rw [hrv] at hrow
  have hrow3 := hrow.set hj m
  refine h.changed hk (l := (ms (num k)).set j m) (L := (R k).set j l) hx3 (by rw [List.length_set, hlen, hrv]; exact hrow3) (by simp [hlen]) fun i m' x' hm' hx' => ?_
  rw [List.getElem?_set] at hm' hx'
  by_cases e : j = i
  · rw [if_pos e] at hm' hx'
    rw [hlen] at hm'
    rw [if_pos hj] at hm' hx'
    simp only [Option.some.injEq] at hm' hx'
    subst hm' hx'
    exact ⟨Own.ext hm hset fun z hz e => by have := hnew z hz; omega, fun z hz => .inr (hnew z hz)⟩
  · rw [if_neg e] at hm' hx'
    exact h.oldmsg hk hx3 hm' hx'

set_option maxRecDepth 100000 in
set_option maxHeartbeats 2000000 in
theorem flip_ref (h : IsRef w r n R F) (x y i place : Int) (by_ : UInt8) (hml : ∀ l ∈ R (x, y), l.length ≤ 2097194) :
    Calls Tryd.prog 36 #[.pointer (some ⟨r, 0, none⟩), .int .i64 x, .int .i64 y, .int .i64 i, .int .i64 place, .int .u8 by_.toNat] w (DidR (.int .i64 (flipV n R (x, y) i by_)) w r n (flipR n R (x, y) i place by_) F) := by
  obtain ⟨rb, rows, ms, M⟩ := h
  have HM := Lib.hid M
  obtain ⟨ev, hev⟩ : ∃ ev, ev = askedV n R (x, y) [i] := ⟨_, rfl⟩
  have Hev := Lib.hid hev
  by_cases hz : ev = 0
  case neg =>
    have hb : (ev != 0) = true := by rw [bne_iff_ne]; exact hz
    have e1 : flipV n R (x, y) i by_ = ev := by unfold flipV; rw [← hev, if_neg hz]
    have e2 : flipR n R (x, y) i place by_ = R := by unfold flipR; rw [e1, if_neg hz]
    rw [e1, e2]
    have Hz := Lib.hid hz
    clear e1 e2 M hev hz
    go_enter Tryd.func36, Tryd.ntmps36
    go_wp2_with (go_at_call 49; refine (named_ref HM.out x y i).mono ?_; rintro e w1 ⟨rfl, rfl⟩; rw [← Hev.out])
    go_ret
    exact didR_same ⟨_, _, _, HM.out⟩
  case pos =>
    subst hz
    have hth := (asked_zero hev).1
    have hij := (asked_zero hev).2 i (by simp)
    obtain ⟨j, rfl⟩ := Int.eq_ofNat_of_zero_le hij.1
    have hjn : j < (R (x, y)).length := by omega
    have hth' := Lib.hid hth
    obtain ⟨b, o, c, m, l, hrv, hc, hcell, hm, hl, hmc, hfzm, hmsg⟩ := M.elem hth (i := j) hjn
    obtain ⟨adm, cm, rfl⟩ := Own.slice hmsg
    have hrow := M.row (num (x, y))
    have hlen := M.len _ hth
    rw [hlen, hrv] at hrow
    have hfz := M.frozenR (num (x, y))
    have hrb1 := M.bound rb M.fb
    have hnum := num_lt M.few hth
    have Hmsg := Lib.hid hmsg
    have Hrow := Lib.hid hrow
    have Hlen := Lib.hid hlen
    have Hrv := Lib.hid hrv
    have Hm := Lib.hid hm
    have Hl := Lib.hid hl
    have Hfzm := Lib.hid hfzm
    have ev1 : askedV n R (x, y) [(j : Int)] = 0 := hev.symm
    have Ev := Lib.hid ev1
    have hw0 : True := trivial
    have hll := hml _ (List.mem_of_getElem? hl)
    have hgd : (R (x, y)).getD j [] = l := by rw [List.getD_eq_getElem?_getD, hl]; rfl
    have hbb : b < w.heap.size := World.block_lt_of_cell? w _ hmc
    by_cases hby : by_ = 0
    case pos =>
      subst hby
      have e1 : flipV n R (x, y) (j : Int) 0 = 1 := by unfold flipV; rw [ev1, if_pos rfl, if_pos (.inl rfl)]
      have e2 : flipR n R (x, y) (j : Int) place 0 = R := by unfold flipR; rw [e1]; rfl
      rw [e1, e2]
      clear e1 e2 hml hw0 hgd
      clear hth M hrv hm hl hfzm hmsg hrow hlen hev ev1 hij
      go_enter Tryd.func36, Tryd.ntmps36
      go_wp2_with (go_at_call 49; refine (named_ref HM.out x y _).mono ?_; rintro e w1 ⟨rfl, rfl⟩; rw [Ev.out])
      go_ret
      exact didR_same ⟨_, _, _, HM.out⟩
    case neg =>
      have hby1 : ((by_.toNat : Int) == 0) = false := by
        rw [beq_eq_false_iff_ne]
        intro h0
        exact hby (UInt8.toNat_inj.1 (by simpa using h0))
      by_cases hl0 : l.length = 0
      case pos =>
        have hl1 : ((l.length : Int) == 0) = true := by simp [hl0]
        have e1 : flipV n R (x, y) (j : Int) by_ = 1 := by unfold flipV; rw [ev1, if_pos rfl, if_pos]; rw [Int.toNat_natCast, hgd]; exact .inr hl0
        have e2 : flipR n R (x, y) (j : Int) place by_ = R := by unfold flipR; rw [e1]; rfl
        rw [e1, e2]
        clear e1 e2 hml hw0 hgd hl0 hby
        clear hth M hrv hm hl hfzm hmsg hrow hlen hev ev1 hij
        go_enter Tryd.func36, Tryd.ntmps36
        go_wp2_with (go_at_call 49; refine (named_ref HM.out x y _).mono ?_; rintro e w1 ⟨rfl, rfl⟩; rw [Ev.out])
        go_ret
        exact didR_same ⟨_, _, _, HM.out⟩
      case neg =>
        have hl1 : ((l.length : Int) == 0) = false := by rw [beq_eq_false_iff_ne]; omega
        have e1 : flipV n R (x, y) (j : Int) by_ = 0 := by unfold flipV; rw [ev1, if_pos rfl, if_neg]; rw [Int.toNat_natCast, hgd]; exact fun h => h.elim hby hl0
        have e2 : flipR n R (x, y) (j : Int) place by_ = upd R (x, y) ((R (x, y)).set j (flipB l place by_)) := by unfold flipR; rw [e1, if_pos rfl, Int.toNat_natCast, hgd]
        rw [e1, e2]
        have hl2 : (0 : Int) < (l.length : Int) := by omega
        obtain ⟨p, hp⟩ := Int.eq_ofNat_of_zero_le (Int.emod_nonneg place (show (l.length : Int) ≠ 0 by omega))
        have hp0 : (0 : Int) ≤ (p : Int) := Int.natCast_nonneg p
        have hp1 : (p : Int) < (l.length : Int) := by have := Int.emod_lt_of_pos place hl2; omega
        have hpn : p < l.length := by omega
        have Hp := Lib.hid hp
        have Hgd := Lib.hid hgd
        clear e1 e2 hml hw0 hgd hby hp
        clear hth M hrv hm hl hfzm hmsg hrow hlen hev ev1 hij
        go_enter Tryd.func36, Tryd.ntmps36
        go_wp2_with (go_at_call 49; refine (named_ref HM.out x y _).mono ?_; rintro e w1 ⟨rfl, rfl⟩; rw [Ev.out])
        refine (copied_ref (msg_at Hmsg.out) (by omega)).mono ?_
        rintro e w1 ⟨mm, rfl, hm1, hx1, hnew⟩
        have hm1' : Own w1 mm 5 1 l.length (bv l) := hm1
        rcases hm1'.shape with ⟨_, h0, _⟩ | ⟨nb, no, nc, rfl, _, _, hcc⟩
        · exact absurd h0 hl0
        have hnb := hnew nb rfl
        have hpc : w1.cell? ⟨nb, no + p, none⟩ = some (.int .u8 (l.getD p 0).toNat) := hcc p _ (bv_get l p hpn)
        have hpf : w1.frozen? ⟨nb, no + p, none⟩ = false := hm1'.frozen _
        have hc1 : w1.cell? ⟨rb, num (x, y), none⟩ = some (.slice (some ⟨b, o, none⟩) (R (x, y)).length c) := hx1.cell hcell id
        have hmc1 : w1.cell? ⟨b, o + j, none⟩ = some (.slice adm l.length cm) := hx1.cell hmc id
        have hfz1 : w1.frozen? ⟨b, o + j, none⟩ = false := by rw [World.frozen?_of_block (w := w) (hx1.block b hbb id)]; exact Hfzm.out _
        have hn1 : rb ≠ nb := by omega
        have hn2 : b ≠ nb := by omega
        have Hm1 := Lib.hid hm1'
        have Hx1 := Lib.hid hx1
        have Hnew := Lib.hid hnew
        clear hm1 hm1' hx1 hnew hcc hcell hmc hfz
        go_wp2_with (go_at_call 51; refine (round_ref place _ _ hl2 (by omega)).mono ?_; rintro e w' ⟨rfl, rfl⟩; rw [Hp.out])
        go_ret
        have hval : bits BinOp.xor IntKind.u8 (l[p]'hpn).toNat by_.toNat = ((l.getD p 0 ^^^ by_).toNat : Int) := by
          rw [xor_u8]; simp [List.getD, hpn]
        rw [hval]
        have hset := (Ext.refl (fun k => k = nb) w1).setCell (p := ⟨nb, no + p, none⟩) (fun _ => rfl) (.int .u8 ((l.getD p 0 ^^^ by_).toNat : Int))
        have hmsg2 : MsgIs (w1.setCell ⟨nb, no + p, none⟩ (.int .u8 ((l.getD p 0 ^^^ by_).toNat : Int))) (.slice (some ⟨nb, no, none⟩) l.length nc) (flipB l place by_) := by
          have := Own.set Hm1.out hpn (.int .u8 ((l.getD p 0 ^^^ by_).toNat : Int))
          rw [← bv_set] at this
          unfold MsgIs flipB
          rw [Hp.out, Int.toNat_natCast, List.length_set]
          exact this
        have hx2 : Ext Nil w (w1.setCell ⟨nb, no + p, none⟩ (.int .u8 ((l.getD p 0 ^^^ by_).toNat : Int))) := Hx1.out.trans hset fun k hk e => by omega
        have hlenf : (flipB l place by_).length = l.length := by simp [flipB]
        rw [← hlenf] at hmsg2 ⊢
        generalize w1.setCell ⟨nb, no + p, none⟩ (.int .u8 ((l.getD p 0 ^^^ by_).toNat : Int)) = w2 at hmsg2 hx2 ⊢
        obtain ⟨H8, hx8⟩ := HM.out.replaced hth'.out Hlen.out Hrv.out hjn hx2 hmsg2 (fun k hk => by
          have : nb = k := by simpa [Value.ownBlock] using hk
          omega)
        exact ⟨rfl, H8, hx8⟩
end
end Go.Proofs.YtbpjgdmmijehnaaDoor
