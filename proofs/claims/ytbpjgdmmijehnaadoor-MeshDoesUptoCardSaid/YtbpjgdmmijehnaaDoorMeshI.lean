/-
  The contract of Twice.
-/
import Derived.Test.YtbpjgdmmijehnaaDoorMeshH
namespace Go.Proofs.YtbpjgdmmijehnaaDoor
open Go.RowKit Go.X

section
variable {w : World} {a : Nat} {n : Int} {R : Lk → List (List UInt8)} {F : Nat → Prop}

def twiceV (n : Int) (R : Lk → List (List UInt8)) (k : Lk) (i : Int) : Int :=
  if askedV n R k [i] = 0 then (if 1024 ≤ (R k).length then 3 else 0) else askedV n R k [i]
def twiceR (n : Int) (R : Lk → List (List UInt8)) (k : Lk) (i : Int) : Lk → List (List UInt8) :=
  if twiceV n R k i = 0 then upd R k (R k ++ [(R k).getD i.toNat []]) else R
set_option maxRecDepth 100000 in
set_option maxHeartbeats 2000000 in
theorem twice_any (h : IsMesh w a n 0 R F) (x y i : Int) (hml : ∀ l ∈ R (x, y), l.length ≤ 2097194) :
    Calls Tryd.prog 15 #[.pointer (some ⟨a, 0, none⟩), .int .i64 x, .int .i64 y, .int .i64 i] w (Did (.int .i64 (twiceV n R (x, y) i)) w a n (twiceR n R (x, y) i) F) := by
  have Hml := Lib.hid hml; clear hml
  have H := Lib.hid h; clear h
  go_enter_defers Tryd.func15, Tryd.ntmps15
  go_wp2_with fail
  refine (lock_mesh H.out).mono ?_
  rintro e w1 ⟨rfl, H1, hx1, hs1⟩
  have HH1 := Lib.hid H1
  have Hx1 := Lib.hid hx1
  clear hs1 H1 hx1
  go_wp2_with fail
  have hal : Ext Nil w1 ((w1.alloc (Obj.cells #[Value.int IntKind.i64 x, Value.int IntKind.i64 y] 68)).alloc (Obj.cells #[Value.int IntKind.i64 i] 3)) := ((Ext.refl _ _).alloc _).alloc _
  have hin : Ints ((w1.alloc (Obj.cells #[Value.int IntKind.i64 x, Value.int IntKind.i64 y] 68)).alloc (Obj.cells #[Value.int IntKind.i64 i] 3)) (.slice (some ⟨w1.heap.size + 1, 0, none⟩) 1 1) [i] := by
    have := ints_new1 (w1.alloc (Obj.cells #[Value.int IntKind.i64 x, Value.int IntKind.i64 y] 68)) i
    rwa [World.size_alloc] at this
  refine (asked_any (HH1.out.grown hal) x y _ [i] (hin) (by simp)).mono ?_
  rintro e w2 ⟨rfl, hx2⟩
  have c0 : w2.cell? ⟨w1.heap.size, 0, none⟩ = some (.int .i64 x) := by rw [hx2.cells _ _ (by simp; omega)]; simp [World.cell?_alloc_past]
  have c1 : w2.cell? ⟨w1.heap.size, 1, none⟩ = some (.int .i64 y) := by rw [hx2.cells _ _ (by simp; omega)]; simp [World.cell?_alloc_past]
  have Hx2 := Lib.hid (hal.extN hx2)
  clear hx2 hal hin
  obtain ⟨kb, hkb⟩ : ∃ kb, kb = w1.heap.size := ⟨_, rfl⟩
  rw [← hkb] at c0 c1 ⊢
  clear hkb
  obtain ⟨ev, hev⟩ : ∃ ev, ev = askedV n R (x, y) [i] := ⟨_, rfl⟩
  rw [← hev]
  have Hev := Lib.hid hev; clear hev
  have hkb2 : kb < w2.heap.size := World.block_lt_of_cell? w2 _ c0
  by_cases hz : ev = 0
  case neg =>
    have hb : (ev != 0) = true := by rw [bne_iff_ne]; exact hz
    have Hz := Lib.hid hz; clear hz
    go_wp2
    refine leaves_cons (f := 25) (args := #[.pointer (some ⟨a, 0, none⟩)]) (by simp) (by simp [go_sem]) ?_
    refine (unlock_mesh .returning (HH1.out.grown Hx2.out)).mono ?_
    rintro e u' w9 ⟨rfl, rfl, h9, hx9, hs9⟩
    have e1 : twiceV n R (x, y) i = ev := by unfold twiceV; rw [← Hev.out, if_neg Hz.out]
    have e2 : twiceR n R (x, y) i = R := by unfold twiceR; rw [e1, if_neg Hz.out]
    rw [e1, e2]
    exact ⟨_, results_tmp rfl _ _ _, did_read (Hx1.out.trans' Hx2.out.nilMono) h9 hx9⟩
  case pos =>
    subst hz
    obtain ⟨q, mb, es, ms, M⟩ := HH1.out.grown Hx2.out
    have m3 := M.cell.2.2.2.1
    have ha2 : a < w2.heap.size := M.bound _ M.fa
    have hth := Lib.hid (asked_zero Hev.out).1
    have hij := (asked_zero Hev.out).2 i (by simp)
    obtain ⟨j, rfl⟩ := Int.eq_ofNat_of_zero_le hij.1
    have hj0 : (0 : Int) ≤ (j : Int) := hij.1
    have hj1 : (j : Int) < ((R (x, y)).length : Int) := hij.2
    clear hij
    have hjn : j < (R (x, y)).length := by omega
    obtain ⟨rb, ro, cap, m, l, hrv, hlc, hm, hRl, hmc, hfz, hmsg⟩ := M.elem2 (k := (x, y)) (i := j) hjn
    obtain ⟨adm, cm, rfl, hcm, hadm⟩ := Own.slice2 hmsg
    have hl := look_mesh M (x, y)
    rw [hrv] at hl
    have hrb : rb < w2.heap.size := World.block_lt_of_cell? w2 _ hmc
    have HM := Lib.hid M
    have hl3 : ∀ nn, (Instr.lookup 57 (.map (some mb)) (.agg #[.int .i64 x, .int .i64 y]) false).run Tryd.prog (w2.drewN nn) = .ok (.slice (some ⟨rb, ro, none⟩) (R (x, y)).length cap) (w2.drewN nn) := fun nn => hl _ ((Ext.refl _ _).drewN nn)
    have Hrv := Lib.hid hrv
    have Hmsg := Lib.hid hmsg
    have Hm := Lib.hid hm
    have HRl := Lib.hid hRl
    clear M hrv hmsg hm hRl hlc
    have hlm := Hml.out _ (List.mem_of_getElem? HRl.out)
    have Hgd : Hid ((R (x, y)).getD j [] = l) := by show (R (x, y)).getD j [] = l; rw [List.getD_eq_getElem?_getD, HRl.out]; rfl
    by_cases hfull : 1024 ≤ (R (x, y)).length
    case pos =>
      have dfull : decide ((1024 : Int) ≤ ((R (x, y)).length : Int)) = true := by simp; omega
      clear hl
      go_wp2_with fail
      go_quiet (fail)
      go_wp2
      refine leaves_cons (f := 25) (args := #[.pointer (some ⟨a, 0, none⟩)]) (by simp) (by simp [go_sem]) ?_
      refine (unlock_mesh .returning ((HH1.out.grown Hx2.out).grown ((Ext.refl _ _).drewN nq))).mono ?_
      rintro e u' w9 ⟨rfl, rfl, h9, hx9, hs9⟩
      have e1 : twiceV n R (x, y) (j : Int) = 3 := by unfold twiceV; rw [← Hev.out, if_pos rfl, if_pos hfull]
      have e2 : twiceR n R (x, y) (j : Int) = R := by unfold twiceR; rw [e1]; rfl
      rw [e1, e2]
      exact ⟨_, results_tmp rfl _ _ _, did_read (Hx1.out.trans' (Hx2.out.drewN nq).nilMono) h9 hx9⟩
    case neg =>
      have dfull : decide ((1024 : Int) ≤ ((R (x, y)).length : Int)) = false := by simp; omega
      have e1 : Hid (twiceV n R (x, y) (j : Int) = 0) := by show twiceV n R (x, y) (j : Int) = 0; unfold twiceV; rw [← Hev.out, if_pos rfl, if_neg hfull]
      have e2 : Hid (twiceR n R (x, y) (j : Int) = upd R (x, y) (R (x, y) ++ [l])) := by show twiceR n R (x, y) (j : Int) = _; unfold twiceR; rw [e1.out, if_pos rfl]; simp only [Int.toNat_natCast, Hgd.out]
      have Hl := Lib.hid hl; clear hl
      go_wp2_with fail
      go_quiet (fail)
      go_wp2_with fail
      clear hl3
      have hxq : Ext Nil w2 (w2.drewN nq) := (Ext.refl _ _).drewN nq
      refine X.wp_region_plan 16 [(0, true), (1, true), (2, true), (3, true), (4, true), (5, true), (6, true), (7, true), (8, true), (9, true), (10, true), (11, true), (12, true), (13, true), (14, false), (15, false)] [(16, false), (17, true), (19, true), (18, false), (20, false)] (by kernel_rfl) (by kernel_rfl) (fun wd hxwd hh => ?_)
      clear hh
      replace hxwd := hxq.extN hxwd
      repeat
        refine X.wpE_still (o := ⟨_, _, _, _, _, _⟩) rfl rfl ?_
        apply Exists.intro
        refine ⟨fun w' hE => ?_, ?_⟩
        · have hE2 := hxwd.extN hE
          have hc := hE2.cells
          have hl2 := Hl.out _ hE2
          go_simp
          rfl
        simp only [Act.put, List.setIfInBounds_toArray, List.set_cons_succ, List.set_cons_zero]
      refine X.wpE_call (o := ⟨_, _, _, _, _, _⟩) rfl rfl ?_
      apply Exists.intro
      apply Exists.intro
      refine ⟨?_, ?_⟩
      · go_simp
        exact ⟨rfl, rfl⟩
      have hmd : MsgIs wd (.slice adm l.length cm) l := Own.ext (F := Nil) Hmsg.out hxwd fun _ _ h => h
      have Hxwd := Lib.hid hxwd
      clear c0 c1 m3 hmc hfz hxwd hxq
      refine (clone_bytes (hmd.src (bv_one l)) (fun _ h => by cases h) (by omega)).mono ?_
      rintro e w4 ⟨m', rfl, hm', hx4, hnew⟩
      obtain ⟨ad3, c3, rfl⟩ := Own.slice hm'
      refine ⟨_, rfl, hx4, ?_⟩
      simp only [Act.put, List.setIfInBounds_toArray, List.set_cons_succ, List.set_cons_zero]
      refine X.wpE_grow (o := ⟨_, _, _, _, _, _⟩) rfl rfl ?_
      apply Exists.intro
      apply Exists.intro
      refine ⟨?_, ?_, ?_⟩
      · go_simp
        exact ⟨rfl, rfl⟩
      · exact (Ext.refl _ _).alloc _
      simp only [Act.put, List.setIfInBounds_toArray, List.set_cons_succ, List.set_cons_zero]
      refine X.wpE_nil ?_
      have hsrc5 : Src (w4.alloc (Obj.cells #[.slice ad3 l.length c3] 32)) (.slice (some ⟨w4.heap.size, 0, none⟩) 1 1) 1 1 [.slice ad3 l.length c3] := src_new w4 [.slice ad3 l.length c3] 32 (by simpa using Own.one hm')
      have hm5 : MsgIs (w4.alloc (Obj.cells #[.slice ad3 l.length c3] 32)) (.slice ad3 l.length c3) l := Own.ext (F := Nil) hm' ((Ext.refl _ _).alloc _) fun _ _ h => h
      have hx15 : Ext Nil w2 (w4.alloc (Obj.cells #[.slice ad3 l.length c3] 32)) := (Hxwd.out.extN hx4).alloc _
      have hlt5 : w4.heap.size < (w4.alloc (Obj.cells #[.slice ad3 l.length c3] 32)).heap.size := by simp
      have hmb4 : mb < w4.heap.size := Nat.lt_of_lt_of_le HM.out.map.lt (Hxwd.out.extN hx4).size
      have hnew2 : ∀ k, (Value.slice ad3 l.length c3).ownBlock = some k → w2.heap.size ≤ k := fun b hb => Nat.le_trans Hxwd.out.size (hnew b hb)
      obtain ⟨nb, hnb⟩ : ∃ nb, nb = w4.heap.size := ⟨_, rfl⟩
      rw [← hnb] at hsrc5 hlt5 hmb4 ⊢
      clear hm' hx4 hnew hnb
      generalize w4.alloc (Obj.cells #[.slice ad3 l.length c3] 32) = w5 at hx15 hsrc5 hm5 hlt5 ⊢
      obtain ⟨w6, es1, st, hr6, h6, hmem⟩ := X.run_mapEntry linkKey Tryd.underlying57 zeroRow (HM.out.map.ext hx15 id) (x, y)
      rw [get_rv] at hr6 h6 hmem
      have hown6 : Own w6 (rv es (x, y)) 32 1 (ms (x, y)).length (ms (x, y)) := Own.ext (Own.ext (HM.out.row (x, y)) hx15 fun _ _ h => h) h6.ext fun k hb e => HM.out.ne_m_row hb e
      have hsrc6 := hsrc5.ext h6.ext fun k hb e => by
        have e2 : nb = k := by simpa [Value.ownBlock] using hb
        omega
      have hlen := HM.out.len (x, y)
      have hr6' : (Instr.mapEntry 57 (.map (some mb)) (.agg #[.int .i64 x, .int .i64 y])).run Tryd.prog w5 = .ok (.tuple #[rv es (x, y), .int .i64 st]) w6 := hr6
      have Hx15 := Lib.hid hx15
      have H6 := Lib.hid h6
      have Hmem := Lib.hid hmem
      have Hm5 := Lib.hid hm5
      have Hown6 := Lib.hid hown6
      have Hsrc6 := Lib.hid hsrc6
      have Hlen := Lib.hid hlen
      clear hx15 h6 hmem hm5 hown6 hsrc6 hsrc5 hlen hr6
      refine X.wpT_run (o := ⟨_, _, _, _, _, _⟩) rfl rfl ?_
      apply Exists.intro
      apply Exists.intro
      refine ⟨?_, ?_⟩
      · go_simp
        exact ⟨rfl, rfl⟩
      clear hr6'
      simp only [Act.put, List.setIfInBounds_toArray, List.set_cons_succ, List.set_cons_zero]
      repeat
        refine X.wpT_pure (o := ⟨_, _, _, _, _, _⟩) rfl rfl ?_
        apply Exists.intro
        refine ⟨fun w' => ?_, ?_⟩
        · go_simp
          rfl
        simp only [Act.put, List.setIfInBounds_toArray, List.set_cons_succ, List.set_cons_zero]
      refine X.wpT_loud (o := ⟨_, _, _, _, _, _⟩) rfl rfl ?_
      refine X.wp_append _ _ 25 rfl elBytes ⟨_, Tryd.underlying25, fun _ h => by cases h⟩ Hown6.out Hsrc6.out rfl rfl (by have := Hlen.out; omega) (by have := Hlen.out; unfold maxLen; omega) ?_
      intro v7 w7 hA
      simp only [Act.put, List.setIfInBounds_toArray, List.set_cons_succ, List.set_cons_zero]
      have hmap7 : HasMap w7 mb kdl es1 := H6.out.has.ext hA.ext (fun e => HM.out.ne_m_row e rfl)
      obtain ⟨w8, es2, hr8, h8⟩ := X.run_entryStore (P := Tryd.prog) (mt := 57) hmap7 Hmem.out v7
      have HA := Lib.hid hA
      have H8 := Lib.hid h8
      clear hA h8 hmap7
      refine X.wpT_act (o := ⟨_, _, _, _, _, _⟩) rfl rfl ?_
      apply Exists.intro
      refine ⟨?_, ?_⟩
      · go_simp
        rfl
      clear hr8
      simp only [Act.put]
      refine X.wpT_nil ?_
      go_wp2
      refine leaves_cons (f := 25) (args := #[.pointer (some ⟨a, 0, none⟩)]) (by simp) (by simp [go_sem]) ?_
      obtain ⟨M8, hx8⟩ := MeshAt.pushed HM.out Hx15.out Hm5.out hnew2 H6.out HA.out H8.out
      refine (unlock_mesh .returning ⟨_, _, _, _, M8⟩).mono ?_
      rintro e u' w9 ⟨rfl, rfl, h9, hx9, hs9⟩
      rw [e1.out, e2.out]
      exact ⟨_, results_tmp rfl _ _ _, did_door (Hx1.out.trans' Hx2.out.nilMono) hx8 h9 hx9⟩
end
end Go.Proofs.YtbpjgdmmijehnaaDoor
