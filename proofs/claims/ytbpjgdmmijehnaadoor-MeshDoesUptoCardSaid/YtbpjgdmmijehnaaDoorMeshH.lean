/-
  The contract of Clip.
-/
import Derived.Test.YtbpjgdmmijehnaaDoorMeshG
namespace Go.Proofs.YtbpjgdmmijehnaaDoor
open Go.RowKit Go.X

section
variable {w : World} {a : Nat} {n : Int} {R : Lk → List (List UInt8)} {F : Nat → Prop}

def clipB (l : List UInt8) (m : Int) : List UInt8 := l.take (m % l.length).toNat
def clipR (n : Int) (R : Lk → List (List UInt8)) (k : Lk) (i m : Int) : Lk → List (List UInt8) :=
  if askedV n R k [i] = 0 then upd R k ((R k).set i.toNat (clipB ((R k).getD i.toNat []) m)) else R
theorem upd_same {β : Type} (f : Lk → β) (k : Lk) : upd f k (f k) = f := by
  funext j; unfold upd; split
  · rename_i e; rw [e]
  · rfl
theorem set_same {β : Type} {l : List β} {i : Nat} {x : β} (h : l[i]? = some x) : l.set i x = l := by
  apply List.ext_getElem?
  intro j
  rw [List.getElem?_set]
  split
  · rename_i e; subst e
    obtain ⟨h1, h2⟩ := List.getElem?_eq_some_iff.1 h
    simp [h1, h2]
  · rfl
set_option maxRecDepth 100000 in
set_option maxHeartbeats 2000000 in
theorem clip_any (h : IsMesh w a n 0 R F) (x y i m : Int) (hml : ∀ l ∈ R (x, y), l.length ≤ 2097194) :
    Calls Tryd.prog 16 #[.pointer (some ⟨a, 0, none⟩), .int .i64 x, .int .i64 y, .int .i64 i, .int .i64 m] w (Did (.int .i64 (askedV n R (x, y) [i])) w a n (clipR n R (x, y) i m) F) := by
  have Hml := Lib.hid hml; clear hml
  have H := Lib.hid h; clear h
  go_enter_defers Tryd.func16, Tryd.ntmps16
  go_wp2_with fail
  refine (lock_mesh H.out).mono ?_
  rintro e w1 ⟨rfl, H1, hx1, hs1⟩
  have HH1 := Lib.hid H1
  have Hx1 := Lib.hid hx1
  clear hs1 H1 hx1
  go_wp2_with fail
  have hal : Ext Nil w1 ((w1.alloc (Obj.cells #[Value.int IntKind.i64 x, Value.int IntKind.i64 y] 68)).alloc (Obj.cells #[Value.int IntKind.i64 i] 3)) := ((Ext.refl _ _).alloc _).alloc _
  have hin : Ints ((w1.alloc (Obj.cells #[Value.int IntKind.i64 x, Value.int IntKind.i64 y] 68)).alloc (Obj.cells #[Value.int IntKind.i64 i] 3)) (.slice (some ⟨w1.heap.size + 1, 0, none⟩) 1 1) [i] := by
    have := ints_new1 (w1.alloc (Obj.cells #[Value.int IntKind.i64 x, Value.int IntKind.i64 y] 68)) i
    rwa [World.size_alloc] at this
  refine (asked_any (HH1.out.grown hal) x y _ [i] (hin) (by simp)).mono ?_
  rintro e w2 ⟨rfl, hx2⟩
  have c0 : w2.cell? ⟨w1.heap.size, 0, none⟩ = some (.int .i64 x) := by rw [hx2.cells _ _ (by simp; omega)]; simp [World.cell?_alloc_past]
  have c1 : w2.cell? ⟨w1.heap.size, 1, none⟩ = some (.int .i64 y) := by rw [hx2.cells _ _ (by simp; omega)]; simp [World.cell?_alloc_past]
  have Hx2 := Lib.hid (hal.extN hx2)
  clear hx2 hal hin
  obtain ⟨kb, hkb⟩ : ∃ kb, kb = w1.heap.size := ⟨_, rfl⟩
  rw [← hkb] at c0 c1 ⊢
  clear hkb
  obtain ⟨ev, hev⟩ : ∃ ev, ev = askedV n R (x, y) [i] := ⟨_, rfl⟩
  rw [← hev]
  have Hev := Lib.hid hev; clear hev
  have hkb2 : kb < w2.heap.size := World.block_lt_of_cell? w2 _ c0
  by_cases hz : ev = 0
  case neg =>
    have hb : (ev != 0) = true := by rw [bne_iff_ne]; exact hz
    have Hz := Lib.hid hz; clear hz
    go_wp2
    refine leaves_cons (f := 25) (args := #[.pointer (some ⟨a, 0, none⟩)]) (by simp) (by simp [go_sem]) ?_
    refine (unlock_mesh .returning (HH1.out.grown Hx2.out)).mono ?_
    rintro e u' w9 ⟨rfl, rfl, h9, hx9, hs9⟩
    have e1 : askedV n R (x, y) [i] = ev := Hev.out.symm
    have e2 : clipR n R (x, y) i m = R := by unfold clipR; rw [e1, if_neg Hz.out]
    rw [e1, e2]
    exact ⟨_, results_tmp rfl _ _ _, did_read (Hx1.out.trans' Hx2.out.nilMono) h9 hx9⟩
  case pos =>
    subst hz
    obtain ⟨q, mb, es, ms, M⟩ := HH1.out.grown Hx2.out
    have m3 := M.cell.2.2.2.1
    have ha2 : a < w2.heap.size := M.bound _ M.fa
    have hth := Lib.hid (asked_zero Hev.out).1
    have hij := (asked_zero Hev.out).2 i (by simp)
    obtain ⟨j, rfl⟩ := Int.eq_ofNat_of_zero_le hij.1
    have hj0 : (0 : Int) ≤ (j : Int) := hij.1
    have hj1 : (j : Int) < ((R (x, y)).length : Int) := hij.2
    clear hij
    have hjn : j < (R (x, y)).length := by omega
    obtain ⟨rb, ro, cap, mm, l, hrv, hlc, hm, hRl, hmc, hfz, hmsg⟩ := M.elem2 (k := (x, y)) (i := j) hjn
    obtain ⟨adm, cm, rfl, hcm, hadm⟩ := Own.slice2 hmsg
    have hl := look_mesh M (x, y)
    rw [hrv] at hl
    have hrb : rb < w2.heap.size := World.block_lt_of_cell? w2 _ hmc
    have HM := Lib.hid M
    have Hrv := Lib.hid hrv
    have Hmsg := Lib.hid hmsg
    have Hm := Lib.hid hm
    have HRl := Lib.hid hRl
    clear M hrv hmsg hm hRl hlc
    have hlm := Hml.out _ (List.mem_of_getElem? HRl.out)
    have Hgd : Hid ((R (x, y)).getD j [] = l) := by show (R (x, y)).getD j [] = l; rw [List.getD_eq_getElem?_getD, HRl.out]; rfl
    have e1 : Hid (askedV n R (x, y) [(j : Int)] = 0) := Hev.out.symm
    have e2 : Hid (clipR n R (x, y) (j : Int) m = upd R (x, y) ((R (x, y)).set j (clipB l m))) := by
      show clipR n R (x, y) (j : Int) m = _
      unfold clipR; rw [e1.out, if_pos rfl]; simp only [Int.toNat_natCast, Hgd.out]
    go_wp2_with fail
    refine X.wp_region_plan 7 [(0, true), (1, true), (2, true), (3, true), (4, true), (5, true), (6, true)] [] (by kernel_rfl) (by kernel_rfl) (fun w3 hxw3 hh => ?_)
    clear hh
    repeat
      refine X.wpE_still (o := ⟨_, _, _, _, _, _⟩) rfl rfl ?_
      apply Exists.intro
      refine ⟨fun w' hE => ?_, ?_⟩
      · have hE2 := hxw3.extN hE
        have hc := hE2.cells
        have hl2 := hl _ hE2
        go_simp
        rfl
      simp only [Act.put, List.setIfInBounds_toArray, List.set_cons_succ, List.set_cons_zero]
    refine X.wpE_nil ?_
    refine X.wpT_nil ?_
    clear hl
    have hmc3 : w3.cell? ⟨rb, ro + j, none⟩ = some (.slice adm l.length cm) := hxw3.cell hmc id
    have hrb3 : rb < w3.heap.size := Nat.lt_of_lt_of_le hrb hxw3.size
    have Hx3 := Lib.hid hxw3
    have hfz3 : w3.frozen? ⟨rb, ro + j, none⟩ = false := by rw [World.frozen?_of_block (w := w2) (hxw3.block rb hrb id)]; exact hfz _
    clear c0 c1 m3 hmc hxw3 hfz
    by_cases hl0 : l.length = 0
    case pos =>
      have hl1 : decide ((0 : Int) < (l.length : Int)) = false := by simp [hl0]
      go_wp2
      refine leaves_cons (f := 25) (args := #[.pointer (some ⟨a, 0, none⟩)]) (by simp) (by simp [go_sem]) ?_
      refine (unlock_mesh .returning ((HH1.out.grown Hx2.out).grown Hx3.out)).mono ?_
      rintro e u' w9 ⟨rfl, rfl, h9, hx9, hs9⟩
      rw [e1.out, e2.out]
      have e3 : clipB l m = l := by unfold clipB; rw [List.eq_nil_of_length_eq_zero hl0]; simp
      rw [e3, set_same HRl.out, upd_same]
      exact ⟨_, results_tmp rfl _ _ _, did_read (Hx1.out.trans' (Hx2.out.extN Hx3.out).nilMono) h9 hx9⟩
    case neg =>
      have hl1 : decide ((0 : Int) < (l.length : Int)) = true := by simp; omega
      have hl2 : (0 : Int) < (l.length : Int) := by omega
      obtain ⟨p, hp⟩ := Int.eq_ofNat_of_zero_le (Int.emod_nonneg m (show (l.length : Int) ≠ 0 by omega))
      have hpn : p < l.length := by have := Int.emod_lt_of_pos m hl2; omega
      have Hp := Lib.hid hp; clear hp
      go_wp2_with fail
      refine X.wp_region_plan 15 [(0, true), (1, true), (2, true), (3, true), (4, true), (5, true), (6, true), (7, true), (8, true), (9, true), (10, true), (11, true), (12, false), (13, true), (14, true)] [(15, false)] (by kernel_rfl) (by kernel_rfl) (fun wd hxwd hh => ?_)
      clear hh
      repeat
        refine X.wpE_still (o := ⟨_, _, _, _, _, _⟩) rfl rfl ?_
        apply Exists.intro
        refine ⟨fun w' hE => ?_, ?_⟩
        · have hE2 := hxwd.extN hE
          have hc := hE2.cells
          go_simp
          rfl
        simp only [Act.put, List.setIfInBounds_toArray, List.set_cons_succ, List.set_cons_zero]
      refine X.wpE_call (o := ⟨_, _, _, _, _, _⟩) rfl rfl ?_
      apply Exists.intro
      apply Exists.intro
      refine ⟨?_, ?_⟩
      · go_simp
        exact ⟨rfl, rfl⟩
      refine (round_any m _ _ hl2 (by omega)).mono ?_
      rintro e w' ⟨rfl, rfl⟩
      refine ⟨_, rfl, Ext.refl _ _, ?_⟩
      rw [Hp.out]
      simp only [Act.put, List.setIfInBounds_toArray, List.set_cons_succ, List.set_cons_zero]
      obtain ⟨adc, nc, cc, hcv⟩ : ∃ a b c, cutV adm 1 0 p cm = .slice a b c := ⟨_, _, _, rfl⟩
      refine X.wpE_still (o := ⟨_, _, _, _, _, _⟩) rfl rfl ?_
      refine ⟨.slice adc nc cc, fun w' hE => by rw [← hcv]; exact X.exec_slice (n := l.length) rfl elByte rfl (.inl ⟨rfl, rfl⟩) (.inr ⟨_, rfl⟩) (by omega) (by omega) w', ?_⟩
      have Hcv := Lib.hid hcv; clear hcv
      simp only [Act.put, List.setIfInBounds_toArray, List.set_cons_succ, List.set_cons_zero]
      repeat
        refine X.wpE_still (o := ⟨_, _, _, _, _, _⟩) rfl rfl ?_
        apply Exists.intro
        refine ⟨fun w' hE => ?_, ?_⟩
        · have hE2 := hxwd.extN hE
          have hc := hE2.cells
          go_simp
          rfl
        simp only [Act.put, List.setIfInBounds_toArray, List.set_cons_succ, List.set_cons_zero]
      refine X.wpE_nil ?_
      have hmcd : wd.cell? ⟨rb, ro + j, none⟩ = some (.slice adm l.length cm) := hxwd.cell hmc3 id
      have hfzd : wd.frozen? ⟨rb, ro + j, none⟩ = false := by rw [World.frozen?_of_block (w := w3) (hxwd.block rb hrb3 id)]; exact hfz3
      have Hxwd := Lib.hid (Hx3.out.extN hxwd)
      clear hmc3 hfz3 hxwd
      refine X.wpT_act (o := ⟨_, _, _, _, _, _⟩) rfl rfl ?_
      apply Exists.intro
      refine ⟨?_, ?_⟩
      · go_simp
        rfl
      simp only [Act.put]
      refine X.wpT_nil ?_
      go_wp2
      refine leaves_cons (f := 25) (args := #[.pointer (some ⟨a, 0, none⟩)]) (by simp) (by simp [go_sem]) ?_
      have Mwd := HM.out.ext Hxwd.out fun _ _ h => h
      have hrow := Mwd.row (x, y)
      rw [Hrv.out, Mwd.len (x, y)] at hrow
      have hset := Own.set hrow hjn (.slice adc nc cc)
      have hcut := Own.cut (l := 0) (h := p) (Own.ext (F := Nil) Hmsg.out Hxwd.out fun _ _ h => h) (by omega) (by omega)
      rw [Hcv.out] at hcut
      have hmsg2 : MsgIs wd (.slice adc nc cc) (clipB l m) := by
        unfold MsgIs clipB
        rw [Hp.out, Int.toNat_natCast]
        have e4 : (l.take p).length = p - 0 := by simp; omega
        have e5 : bv (l.take p) = ((bv l).drop (0 * 1)).take ((p - 0) * 1) := by simp [bv, List.map_take]
        rw [e4, e5]
        exact hcut
      obtain ⟨ax, rfl⟩ := hadm (by omega)
      have hblk : (Value.slice adc nc cc).ownBlock = (Value.slice (some ax) l.length cm).ownBlock := by
        rw [← Hcv.out]
        have : (ax.add (0 * 1)).block = ax.block := by unfold Addr.add; split <;> rfl
        unfold cutV
        split <;> simp [Value.ownBlock, this]
      obtain ⟨M6, hx6⟩ := MeshAt.moved (k := (x, y)) (L := (R (x, y)).set j (clipB l m)) (l := (ms (x, y)).set j (.slice adc nc cc)) id (fun _ _ h => h) Mwd (by omega)
        (w6 := wd.setCell ⟨rb, ro + j, none⟩ (.slice adc nc cc)) (by rw [Hrv.out]; exact (Ext.refl (fun z => (Value.slice (some ⟨rb, ro, none⟩) (R (x, y)).length cap).ownBlock = some z) wd).setCell (p := ⟨rb, ro + j, none⟩) (fun _ => rfl) _)
        (by rw [Hrv.out, List.length_set, Mwd.len (x, y)]; exact hset) (by simp [Mwd.len (x, y)]) (fun i m' x' hm' hx' => by
          rw [List.getElem?_set] at hm' hx'
          by_cases e : j = i
          · subst e
            rw [if_pos rfl] at hm' hx'
            have q1 : j < (ms (x, y)).length := by rw [Mwd.len]; exact hjn
            simp only [q1, hjn, if_true, Option.some.injEq] at hm' hx'
            subst hm' hx'
            exact ⟨_, Hm.out, hblk, hmsg2⟩
          · rw [if_neg e] at hm' hx'
            exact ⟨m', hm', rfl, Mwd.msg _ _ _ _ hm' hx'⟩)
      refine (unlock_mesh .returning ⟨_, _, _, _, M6⟩).mono ?_
      rintro e u' w9 ⟨rfl, rfl, h9, hx9, hs9⟩
      rw [e1.out, e2.out]
      exact ⟨_, results_tmp rfl _ _ _, did_door (Hx1.out.trans' (Hx2.out.extN Hxwd.out).nilMono) hx6 h9 hx9⟩
end
end Go.Proofs.YtbpjgdmmijehnaaDoor
