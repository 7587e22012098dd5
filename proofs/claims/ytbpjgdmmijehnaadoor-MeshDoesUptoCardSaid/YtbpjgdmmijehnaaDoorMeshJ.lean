/-
  The contract of Swap.
-/
import Derived.Test.YtbpjgdmmijehnaaDoorMeshI
namespace Go.Proofs.YtbpjgdmmijehnaaDoor
open Go.RowKit Go.X

section
variable {w : World} {a : Nat} {n : Int} {R : Lk → List (List UInt8)} {F : Nat → Prop}

def swapL {β : Type} (l : List β) (i j : Nat) : List β := match l[i]?, l[j]? with
  | some a, some b => (l.set i b).set j a
  | _, _ => l
def swapR (n : Int) (R : Lk → List (List UInt8)) (k : Lk) (i j : Int) : Lk → List (List UInt8) :=
  if askedV n R k [i, j] = 0 then upd R k (swapL (R k) i.toNat j.toNat) else R
def swapI (i j t : Nat) : Nat := if t = i then j else if t = j then i else t
theorem swapI_inj (i j t u : Nat) (h : swapI i j t = swapI i j u) : t = u := by unfold swapI at h; split at h <;> split at h <;> (try split at h) <;> (try split at h) <;> omega
theorem swapL_get {β : Type} {l : List β} {i j : Nat} (hi : i < l.length) (hj : j < l.length) (t : Nat) : (swapL l i j)[t]? = l[swapI i j t]? := by
  unfold swapL
  rw [List.getElem?_eq_getElem hi, List.getElem?_eq_getElem hj]
  show ((l.set i l[j]).set j l[i])[t]? = _
  rw [List.getElem?_set, List.getElem?_set, List.length_set]
  unfold swapI
  by_cases h1 : t = i
  · subst h1
    rw [if_pos rfl]
    by_cases h2 : j = t
    · subst h2; simp [hi]
    · rw [if_neg h2, if_pos rfl, if_pos hi, List.getElem?_eq_getElem hj]
  · rw [if_neg h1]
    by_cases h2 : t = j
    · subst h2; simp [hi, hj]
    · rw [if_neg (fun e => h2 e.symm), if_neg (fun e => h1 e.symm), if_neg h2]
theorem swapL_length {β : Type} (l : List β) (i j : Nat) : (swapL l i j).length = l.length := by unfold swapL; split <;> simp
set_option maxRecDepth 100000 in
set_option maxHeartbeats 2000000 in
theorem swap_any (h : IsMesh w a n 0 R F) (x y i j : Int) :
    Calls Tryd.prog 17 #[.pointer (some ⟨a, 0, none⟩), .int .i64 x, .int .i64 y, .int .i64 i, .int .i64 j] w (Did (.int .i64 (askedV n R (x, y) [i, j])) w a n (swapR n R (x, y) i j) F) := by
  have H := Lib.hid h; clear h
  go_enter_defers Tryd.func17, Tryd.ntmps17
  go_wp2_with fail
  refine (lock_mesh H.out).mono ?_
  rintro e w1 ⟨rfl, H1, hx1, hs1⟩
  have HH1 := Lib.hid H1
  have Hx1 := Lib.hid hx1
  clear hs1 H1 hx1
  go_wp2_with fail
  have hal : Ext Nil w1 ((w1.alloc (Obj.cells #[Value.int IntKind.i64 x, Value.int IntKind.i64 y] 68)).alloc (Obj.cells #[Value.int IntKind.i64 i, Value.int IntKind.i64 j] 3)) := ((Ext.refl _ _).alloc _).alloc _
  have hin : Ints ((w1.alloc (Obj.cells #[Value.int IntKind.i64 x, Value.int IntKind.i64 y] 68)).alloc (Obj.cells #[Value.int IntKind.i64 i, Value.int IntKind.i64 j] 3)) (.slice (some ⟨w1.heap.size + 1, 0, none⟩) 2 2) [i, j] := by
    have := ints_new2 (w1.alloc (Obj.cells #[Value.int IntKind.i64 x, Value.int IntKind.i64 y] 68)) i j
    rwa [World.size_alloc] at this
  refine (asked_any (HH1.out.grown hal) x y _ [i, j] (hin) (by simp)).mono ?_
  rintro e w2 ⟨rfl, hx2⟩
  have c0 : w2.cell? ⟨w1.heap.size, 0, none⟩ = some (.int .i64 x) := by rw [hx2.cells _ _ (by simp; omega)]; simp [World.cell?_alloc_past]
  have c1 : w2.cell? ⟨w1.heap.size, 1, none⟩ = some (.int .i64 y) := by rw [hx2.cells _ _ (by simp; omega)]; simp [World.cell?_alloc_past]
  have Hx2 := Lib.hid (hal.extN hx2)
  clear hx2 hal hin
  obtain ⟨kb, hkb⟩ : ∃ kb, kb = w1.heap.size := ⟨_, rfl⟩
  rw [← hkb] at c0 c1 ⊢
  clear hkb
  obtain ⟨ev, hev⟩ : ∃ ev, ev = askedV n R (x, y) [i, j] := ⟨_, rfl⟩
  rw [← hev]
  have Hev := Lib.hid hev; clear hev
  have hkb2 : kb < w2.heap.size := World.block_lt_of_cell? w2 _ c0
  by_cases hz : ev = 0
  case neg =>
    have hb : (ev != 0) = true := by rw [bne_iff_ne]; exact hz
    have Hz := Lib.hid hz; clear hz
    go_wp2
    refine leaves_cons (f := 25) (args := #[.pointer (some ⟨a, 0, none⟩)]) (by simp) (by simp [go_sem]) ?_
    refine (unlock_mesh .returning (HH1.out.grown Hx2.out)).mono ?_
    rintro e u' w9 ⟨rfl, rfl, h9, hx9, hs9⟩
    have e1 : askedV n R (x, y) [i, j] = ev := Hev.out.symm
    have e2 : swapR n R (x, y) i j = R := by unfold swapR; rw [e1, if_neg Hz.out]
    rw [e1, e2]
    exact ⟨_, results_tmp rfl _ _ _, did_read (Hx1.out.trans' Hx2.out.nilMono) h9 hx9⟩
  case pos =>
    subst hz
    obtain ⟨q, mb, es, ms, M⟩ := HH1.out.grown Hx2.out
    have m3 := M.cell.2.2.2.1
    have ha2 : a < w2.heap.size := M.bound _ M.fa
    have hth := Lib.hid (asked_zero Hev.out).1
    have hij := (asked_zero Hev.out).2 i (by simp)
    obtain ⟨p, rfl⟩ := Int.eq_ofNat_of_zero_le hij.1
    have hp0 : (0 : Int) ≤ (p : Int) := hij.1
    have hp1 : (p : Int) < ((R (x, y)).length : Int) := hij.2
    clear hij
    have hpn : p < (R (x, y)).length := by omega
    have hij := (asked_zero Hev.out).2 j (by simp)
    obtain ⟨r, rfl⟩ := Int.eq_ofNat_of_zero_le hij.1
    have hr0 : (0 : Int) ≤ (r : Int) := hij.1
    have hr1 : (r : Int) < ((R (x, y)).length : Int) := hij.2
    clear hij
    have hrn : r < (R (x, y)).length := by omega
    obtain ⟨rb, ro, cap, mp, lp, hrv, hlc, hmp, hRp, hmcp, hfz, hmsgp⟩ := M.elem2 (k := (x, y)) (i := p) hpn
    obtain ⟨rb2, ro2, cap2, mr, lr, hrv2, hlc2, hmr, hRr, hmcr, hfz2, hmsgr⟩ := M.elem2 (k := (x, y)) (i := r) hrn
    have e5 := hrv.symm.trans hrv2
    injection e5 with e5 _ e6
    injection e5 with e5
    injection e5 with e5 e7
    subst e5 e6 e7
    obtain ⟨adp, cp, rfl⟩ := Own.slice hmsgp
    obtain ⟨adr, cr, rfl⟩ := Own.slice hmsgr
    have hl := look_mesh M (x, y)
    rw [hrv] at hl
    have hrb : rb < w2.heap.size := World.block_lt_of_cell? w2 _ hmcp
    have HM := Lib.hid M
    have Hrv := Lib.hid hrv
    have Hmp := Lib.hid hmp
    have Hmr := Lib.hid hmr
    have HRp := Lib.hid hRp
    have HRr := Lib.hid hRr
    have e1 : Hid (askedV n R (x, y) [(p : Int), (r : Int)] = 0) := Hev.out.symm
    have e2 : Hid (swapR n R (x, y) (p : Int) (r : Int) = upd R (x, y) (swapL (R (x, y)) p r)) := by
      show swapR n R (x, y) (p : Int) (r : Int) = _
      unfold swapR; rw [e1.out, if_pos rfl]; simp only [Int.toNat_natCast]
    clear M hrv hrv2 hmp hmr hRp hRr hlc hlc2 hmsgp hmsgr hfz2
    go_wp2_with fail
    refine X.wp_region_plan 7 [(0, true), (1, true), (2, true), (3, true), (4, true), (5, true), (6, true)] [] (by kernel_rfl) (by kernel_rfl) (fun w3 hxw3 hh => ?_)
    clear hh
    repeat
      refine X.wpE_still (o := ⟨_, _, _, _, _, _⟩) rfl rfl ?_
      apply Exists.intro
      refine ⟨fun w' hE => ?_, ?_⟩
      · have hE2 := hxw3.extN hE
        have hc := hE2.cells
        have hl2 := hl _ hE2
        go_simp
        rfl
      simp only [Act.put, List.setIfInBounds_toArray, List.set_cons_succ, List.set_cons_zero]
    refine X.wpE_nil ?_
    refine X.wpT_nil ?_
    clear hl
    go_wp2_with fail
    refine X.wp_region_pre 13 [2, 3] [(0, true), (1, true), (4, true), (5, true), (6, true), (7, true), (8, true), (9, true), (10, true), (11, true), (12, true)] [(13, false), (14, true), (15, false)] (by kernel_rfl) (by kernel_rfl) (fun wd hxwd hh => ?_)
    clear hh
    repeat
      refine X.wpT_pure (o := ⟨_, _, _, _, _, _⟩) rfl rfl ?_
      apply Exists.intro
      refine ⟨fun w' => ?_, ?_⟩
      · go_simp
        rfl
      simp only [Act.put, List.setIfInBounds_toArray, List.set_cons_succ, List.set_cons_zero]
    refine X.wpT_nil ?_
    show X.wpE _ _ _ _ _ _
    replace hxwd := hxw3.extN hxwd
    repeat
      refine X.wpE_still (o := ⟨_, _, _, _, _, _⟩) rfl rfl ?_
      apply Exists.intro
      refine ⟨fun w' hE => ?_, ?_⟩
      · have hE2 := hxwd.extN hE
        have hc := hE2.cells
        go_simp
        rfl
      simp only [Act.put, List.setIfInBounds_toArray, List.set_cons_succ, List.set_cons_zero]
    refine X.wpE_nil ?_
    have kp : wd.cell? ⟨rb, ro + p, none⟩ = some (.slice adp lp.length cp) := hxwd.cell hmcp id
    have kr : wd.cell? ⟨rb, ro + r, none⟩ = some (.slice adr lr.length cr) := hxwd.cell hmcr id
    have hfd : ∀ t, wd.frozen? ⟨rb, t, none⟩ = false := fun t => by rw [World.frozen?_of_block (w := w2) (hxwd.block rb hrb id)]; exact hfz t
    obtain ⟨u, ku⟩ : ∃ u, (wd.setCell ⟨rb, ro + p, none⟩ (.slice adr lr.length cr)).cell? ⟨rb, ro + r, none⟩ = some u := cell?_setCell_some (by exact kr)
    have Hxwd := Lib.hid hxwd
    clear hmcp hmcr hfz hxwd hxw3 c0 c1 m3 kr
    refine X.wpT_act (o := ⟨_, _, _, _, _, _⟩) rfl rfl ?_
    apply Exists.intro
    refine ⟨?_, ?_⟩
    · go_simp
      rfl
    simp only [Act.put]
    repeat
      refine X.wpT_pure (o := ⟨_, _, _, _, _, _⟩) rfl rfl ?_
      apply Exists.intro
      refine ⟨fun w' => ?_, ?_⟩
      · go_simp
        rfl
      simp only [Act.put, List.setIfInBounds_toArray, List.set_cons_succ, List.set_cons_zero]
    refine X.wpT_act (o := ⟨_, _, _, _, _, _⟩) rfl rfl ?_
    apply Exists.intro
    refine ⟨?_, ?_⟩
    · go_simp
      rfl
    simp only [Act.put]
    refine X.wpT_nil ?_
    go_wp2
    refine leaves_cons (f := 25) (args := #[.pointer (some ⟨a, 0, none⟩)]) (by simp) (by simp [go_sem]) ?_
    have Mwd := HM.out.ext Hxwd.out fun _ _ h => h
    have hrow := Mwd.row (x, y)
    have hlm : (ms (x, y)).length = (R (x, y)).length := Mwd.len (x, y)
    rw [Hrv.out, Mwd.len (x, y)] at hrow
    have hset := Own.set (Own.set hrow hpn (.slice adr lr.length cr)) hrn (.slice adp lp.length cp)
    have hsw : swapL (ms (x, y)) p r = ((ms (x, y)).set p (.slice adr lr.length cr)).set r (.slice adp lp.length cp) := by
      unfold swapL; rw [Hmp.out, Hmr.out]
    rw [← hsw] at hset
    obtain ⟨M6, hx6⟩ := MeshAt.moved (k := (x, y)) (l := swapL (ms (x, y)) p r) (L := swapL (R (x, y)) p r) (swapI p r) (swapI_inj p r) Mwd (by omega)
      (w6 := (wd.setCell ⟨rb, ro + p, none⟩ (.slice adr lr.length cr)).setCell ⟨rb, ro + r, none⟩ (.slice adp lp.length cp))
      (by rw [Hrv.out]; exact ((Ext.refl (fun z => (Value.slice (some ⟨rb, ro, none⟩) (R (x, y)).length cap).ownBlock = some z) wd).setCell (p := ⟨rb, ro + p, none⟩) (fun _ => rfl) _).setCell (p := ⟨rb, ro + r, none⟩) (fun _ => rfl) _)
      (by rw [Hrv.out, swapL_length, hlm]; exact hset) (by rw [swapL_length, swapL_length, hlm]) (fun t m' x' hm' hx' => by
        rw [swapL_get (by omega) (by omega)] at hm'
        rw [swapL_get hpn hrn] at hx'
        exact ⟨m', hm', rfl, Mwd.msg _ _ _ _ hm' hx'⟩)
    refine (unlock_mesh .returning ⟨_, _, _, _, M6⟩).mono ?_
    rintro e u' w9 ⟨rfl, rfl, h9, hx9, hs9⟩
    rw [e1.out, e2.out]
    exact ⟨_, results_tmp rfl _ _ _, did_door (Hx1.out.trans' (Hx2.out.extN Hxwd.out).nilMono) hx6 h9 hx9⟩
end
end Go.Proofs.YtbpjgdmmijehnaaDoor
