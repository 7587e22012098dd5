/-
  The contract of Flip.
-/
import Derived.Test.YtbpjgdmmijehnaaDoorMeshF
import Derived.Laws.BitsAllLaws
namespace Go.Proofs.YtbpjgdmmijehnaaDoor
open Go.RowKit Go.X

section
variable {w : World} {a : Nat} {n : Int} {R : Lk → List (List UInt8)} {F : Nat → Prop}

def flipB (l : List UInt8) (place : Int) (by_ : UInt8) : List UInt8 := l.set (place % l.length).toNat (l.getD (place % l.length).toNat 0 ^^^ by_)
def flipV (n : Int) (R : Lk → List (List UInt8)) (k : Lk) (i : Int) (by_ : UInt8) : Int :=
  if askedV n R k [i] = 0 then (if by_ = 0 ∨ ((R k).getD i.toNat []).length = 0 then 1 else 0) else askedV n R k [i]
def flipR (n : Int) (R : Lk → List (List UInt8)) (k : Lk) (i place : Int) (by_ : UInt8) : Lk → List (List UInt8) :=
  if flipV n R k i by_ = 0 then upd R k ((R k).set i.toNat (flipB ((R k).getD i.toNat []) place by_)) else R
theorem xor_u8 (a b : UInt8) : bits BinOp.xor IntKind.u8 a.toNat b.toNat = ((a ^^^ b).toNat : Int) := by
  rw [u8_xor_nat _ _ a.toNat_lt b.toNat_lt]; simp
theorem bv_set (l : List UInt8) (i : Nat) (c : UInt8) : bv (l.set i c) = (bv l).set i (.int .u8 c.toNat) := by simp [bv, List.map_set]
theorem bv_get (l : List UInt8) (i : Nat) (hi : i < l.length) : (bv l)[i]? = some (.int .u8 (l.getD i 0).toNat) := by simp [bv, List.getD, hi]
set_option maxRecDepth 100000 in
set_option maxHeartbeats 2000000 in
theorem flip_any (h : IsMesh w a n 0 R F) (x y i place : Int) (by_ : UInt8) (hml : ∀ l ∈ R (x, y), l.length ≤ 2097194) :
    Calls Tryd.prog 14 #[.pointer (some ⟨a, 0, none⟩), .int .i64 x, .int .i64 y, .int .i64 i, .int .i64 place, .int .u8 by_.toNat] w (Did (.int .i64 (flipV n R (x, y) i by_)) w a n (flipR n R (x, y) i place by_) F) := by
  have Hml := Lib.hid hml; clear hml
  have H := Lib.hid h; clear h
  go_enter_defers Tryd.func14, Tryd.ntmps14
  go_wp2_with fail
  refine (lock_mesh H.out).mono ?_
  rintro e w1 ⟨rfl, H1, hx1, hs1⟩
  have HH1 := Lib.hid H1
  have Hx1 := Lib.hid hx1
  clear hs1 H1 hx1
  go_wp2_with fail
  have hal : Ext Nil w1 ((w1.alloc (Obj.cells #[Value.int IntKind.i64 x, Value.int IntKind.i64 y] 68)).alloc (Obj.cells #[Value.int IntKind.i64 i] 3)) := ((Ext.refl _ _).alloc _).alloc _
  have hin : Ints ((w1.alloc (Obj.cells #[Value.int IntKind.i64 x, Value.int IntKind.i64 y] 68)).alloc (Obj.cells #[Value.int IntKind.i64 i] 3)) (.slice (some ⟨w1.heap.size + 1, 0, none⟩) 1 1) [i] := by
    have := ints_new1 (w1.alloc (Obj.cells #[Value.int IntKind.i64 x, Value.int IntKind.i64 y] 68)) i
    rwa [World.size_alloc] at this
  refine (asked_any (HH1.out.grown hal) x y _ [i] (hin) (by simp)).mono ?_
  rintro e w2 ⟨rfl, hx2⟩
  have c0 : w2.cell? ⟨w1.heap.size, 0, none⟩ = some (.int .i64 x) := by rw [hx2.cells _ _ (by simp; omega)]; simp [World.cell?_alloc_past]
  have c1 : w2.cell? ⟨w1.heap.size, 1, none⟩ = some (.int .i64 y) := by rw [hx2.cells _ _ (by simp; omega)]; simp [World.cell?_alloc_past]
  have Hx2 := Lib.hid (hal.extN hx2)
  clear hx2 hal hin
  obtain ⟨kb, hkb⟩ : ∃ kb, kb = w1.heap.size := ⟨_, rfl⟩
  rw [← hkb] at c0 c1 ⊢
  clear hkb
  obtain ⟨ev, hev⟩ : ∃ ev, ev = askedV n R (x, y) [i] := ⟨_, rfl⟩
  rw [← hev]
  have Hev := Lib.hid hev; clear hev
  have hkb2 : kb < w2.heap.size := World.block_lt_of_cell? w2 _ c0
  by_cases hz : ev = 0
  case neg =>
    have hb : (ev != 0) = true := by rw [bne_iff_ne]; exact hz
    have Hz := Lib.hid hz; clear hz
    go_wp2
    refine leaves_cons (f := 25) (args := #[.pointer (some ⟨a, 0, none⟩)]) (by simp) (by simp [go_sem]) ?_
    refine (unlock_mesh .returning (HH1.out.grown Hx2.out)).mono ?_
    rintro e u' w9 ⟨rfl, rfl, h9, hx9, hs9⟩
    have e1 : flipV n R (x, y) i by_ = ev := by unfold flipV; rw [← Hev.out, if_neg Hz.out]
    have e2 : flipR n R (x, y) i place by_ = R := by unfold flipR; rw [e1, if_neg Hz.out]
    rw [e1, e2]
    exact ⟨_, results_tmp rfl _ _ _, did_read (Hx1.out.trans' Hx2.out.nilMono) h9 hx9⟩
  case pos =>
    subst hz
    obtain ⟨q, mb, es, ms, M⟩ := HH1.out.grown Hx2.out
    have m3 := M.cell.2.2.2.1
    have ha2 : a < w2.heap.size := M.bound _ M.fa
    have hth := Lib.hid (asked_zero Hev.out).1
    have hij := (asked_zero Hev.out).2 i (by simp)
    obtain ⟨j, rfl⟩ := Int.eq_ofNat_of_zero_le hij.1
    have hj0 : (0 : Int) ≤ (j : Int) := hij.1
    have hj1 : (j : Int) < ((R (x, y)).length : Int) := hij.2
    clear hij
    have hjn : j < (R (x, y)).length := by omega
    obtain ⟨rb, ro, cap, m, l, hrv, hlc, hm, hRl, hmc, hfz, hmsg⟩ := M.elem2 (k := (x, y)) (i := j) hjn
    obtain ⟨adm, cm, rfl, hcm, hadm⟩ := Own.slice2 hmsg
    have hl := look_mesh M (x, y)
    rw [hrv] at hl
    have hrb : rb < w2.heap.size := World.block_lt_of_cell? w2 _ hmc
    have HM := Lib.hid M
    have Hrv := Lib.hid hrv
    have Hmsg := Lib.hid hmsg
    have Hm := Lib.hid hm
    have HRl := Lib.hid hRl
    clear M hrv hmsg hm hRl hlc
    have hlm := Hml.out _ (List.mem_of_getElem? HRl.out)
    have Hgd : Hid ((R (x, y)).getD j [] = l) := by show (R (x, y)).getD j [] = l; rw [List.getD_eq_getElem?_getD, HRl.out]; rfl
    go_wp2_with fail
    refine X.wp_region_plan 10 [(0, true), (1, true), (2, true), (3, true), (4, true), (5, true), (6, true), (7, true), (8, true), (9, true)] [] (by kernel_rfl) (by kernel_rfl) (fun wd hxwd hh => ?_)
    clear hh
    repeat
      refine X.wpE_still (o := ⟨_, _, _, _, _, _⟩) rfl rfl ?_
      apply Exists.intro
      refine ⟨fun w' hE => ?_, ?_⟩
      · have hE2 := hxwd.extN hE
        have hc := hE2.cells
        have hl2 := hl _ hE2
        go_simp
        rfl
      simp only [Act.put, List.setIfInBounds_toArray, List.set_cons_succ, List.set_cons_zero]
    refine X.wpE_nil ?_
    refine X.wpT_nil ?_
    clear hl
    by_cases hby : by_ = 0
    case pos =>
      subst hby
      go_wp2
      refine leaves_cons (f := 25) (args := #[.pointer (some ⟨a, 0, none⟩)]) (by simp) (by simp [go_sem]) ?_
      refine (unlock_mesh .returning ((HH1.out.grown Hx2.out).grown hxwd)).mono ?_
      rintro e u' w9 ⟨rfl, rfl, h9, hx9, hs9⟩
      have e1 : flipV n R (x, y) (j : Int) 0 = 1 := by unfold flipV; rw [← Hev.out, if_pos rfl, if_pos]; simp only [Int.toNat_natCast, Hgd.out]; exact .inl trivial
      have e2 : flipR n R (x, y) (j : Int) place 0 = R := by unfold flipR; rw [e1]; rfl
      rw [e1, e2]
      exact ⟨_, results_tmp rfl _ _ _, did_read (Hx1.out.trans' (Hx2.out.extN hxwd).nilMono) h9 hx9⟩
    case neg =>
      have hby1 : ((by_.toNat : Int) == 0) = false := by
        rw [beq_eq_false_iff_ne]
        intro h0
        exact hby (UInt8.toNat_inj.1 (by simpa using h0))
      by_cases hl0 : l.length = 0
      case pos =>
        have hl1 : ((l.length : Int) == 0) = true := by simp [hl0]
        go_wp2
        refine leaves_cons (f := 25) (args := #[.pointer (some ⟨a, 0, none⟩)]) (by simp) (by simp [go_sem]) ?_
        refine (unlock_mesh .returning ((HH1.out.grown Hx2.out).grown hxwd)).mono ?_
        rintro e u' w9 ⟨rfl, rfl, h9, hx9, hs9⟩
        have e1 : flipV n R (x, y) (j : Int) by_ = 1 := by unfold flipV; rw [← Hev.out, if_pos rfl, if_pos]; simp only [Int.toNat_natCast, Hgd.out]; exact .inr hl0
        have e2 : flipR n R (x, y) (j : Int) place by_ = R := by unfold flipR; rw [e1]; rfl
        rw [e1, e2]
        exact ⟨_, results_tmp rfl _ _ _, did_read (Hx1.out.trans' (Hx2.out.extN hxwd).nilMono) h9 hx9⟩
      case neg =>
        have hl1 : ((l.length : Int) == 0) = false := by rw [beq_eq_false_iff_ne]; omega
        have hl2 : (0 : Int) < (l.length : Int) := by omega
        obtain ⟨p, hp⟩ := Int.eq_ofNat_of_zero_le (Int.emod_nonneg place (show (l.length : Int) ≠ 0 by omega))
        have hp0 : (0 : Int) ≤ (p : Int) := Int.natCast_nonneg p
        have hp1 : (p : Int) < (l.length : Int) := by have := Int.emod_lt_of_pos place hl2; omega
        have hpn : p < l.length := by omega
        have Hp := Lib.hid hp; clear hp
        have hown := Own.ext (F := Nil) Hmsg.out hxwd fun _ _ h => h
        rcases hown.shape with ⟨_, h0, _⟩ | ⟨mbk, mo, mcap, hmv, _, _, hcc⟩
        · exact absurd h0 hl0
        injection hmv with e1 _ e3
        subst e1 e3
        have hpc : wd.cell? ⟨mbk, mo + p, none⟩ = some (.int .u8 (l.getD p 0).toNat) := hcc p _ (bv_get l p hpn)
        have hpf : wd.frozen? ⟨mbk, mo + p, none⟩ = false := hown.frozen _
        have Hown := Lib.hid hown
        have Hxwd := Lib.hid hxwd
        clear hown hcc hxwd hmc hfz c0 c1 m3
        go_wp2_with (go_at_call 29; refine (round_any place _ _ hl2 (by omega)).mono ?_; rintro e w' ⟨rfl, rfl⟩; rw [Hp.out])
        refine leaves_cons (f := 25) (args := #[.pointer (some ⟨a, 0, none⟩)]) (by simp) (by simp [go_sem]) ?_
        have hval : bits BinOp.xor IntKind.u8 (l[p]'hpn).toNat by_.toNat = ((l.getD p 0 ^^^ by_).toNat : Int) := by
          rw [xor_u8]; simp [List.getD, hpn]
        rw [hval]
        have hE6 : Ext (fun b => (Value.slice (some ⟨mbk, mo, none⟩) l.length cm).ownBlock = some b) wd (wd.setCell ⟨mbk, mo + p, none⟩ (.int .u8 ((l.getD p 0 ^^^ by_).toNat : Int))) := (Ext.refl (fun b => (Value.slice (some ⟨mbk, mo, none⟩) l.length cm).ownBlock = some b) wd).setCell (p := ⟨mbk, mo + p, none⟩) (fun _ => rfl) _
        have hmsg6 : MsgIs (wd.setCell ⟨mbk, mo + p, none⟩ (.int .u8 ((l.getD p 0 ^^^ by_).toNat : Int))) (.slice (some ⟨mbk, mo, none⟩) l.length cm) (flipB l place by_) := by
          have := Own.set Hown.out hpn (.int .u8 ((l.getD p 0 ^^^ by_).toNat : Int))
          rw [← bv_set] at this
          unfold MsgIs flipB
          rw [Hp.out, Int.toNat_natCast, List.length_set]
          exact this
        obtain ⟨M6, hx6⟩ := MeshAt.spoilt (HM.out.ext Hxwd.out fun _ _ h => h) Hm.out hE6 hmsg6
        refine (unlock_mesh .returning ⟨_, _, _, _, M6⟩).mono ?_
        rintro e u' w9 ⟨rfl, rfl, h9, hx9, hs9⟩
        have e1 : flipV n R (x, y) (j : Int) by_ = 0 := by unfold flipV; rw [← Hev.out, if_pos rfl, if_neg]; simp only [Int.toNat_natCast, Hgd.out]; exact fun h => h.elim hby hl0
        have e2 : flipR n R (x, y) (j : Int) place by_ = upd R (x, y) ((R (x, y)).set j (flipB l place by_)) := by unfold flipR; rw [e1, if_pos rfl]; simp only [Int.toNat_natCast, Hgd.out]
        rw [e1, e2]
        exact ⟨_, results_tmp rfl _ _ _, did_door (Hx1.out.trans' (Hx2.out.extN Hxwd.out).nilMono) hx6 h9 hx9⟩
end
end Go.Proofs.YtbpjgdmmijehnaaDoor
