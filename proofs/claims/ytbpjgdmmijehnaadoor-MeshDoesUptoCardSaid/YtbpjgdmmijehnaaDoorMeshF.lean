/-
  The contract of Take.
-/
import Derived.Test.YtbpjgdmmijehnaaDoorMeshE
namespace Go.Proofs.YtbpjgdmmijehnaaDoor
open Go.RowKit Go.X

section
variable {w : World} {a : Nat} {n : Int} {R : Lk → List (List UInt8)} {F : Nat → Prop}

theorem asked_zero {n : Int} {R : Lk → List (List UInt8)} {k : Lk} {ls : List Int} (h : 0 = askedV n R k ls) : thereB n k = true ∧ ∀ i ∈ ls, 0 ≤ i ∧ i < (R k).length := by
  unfold askedV at h
  cases ht : thereB n k with
  | false => rw [ht] at h; simp at h
  | true =>
    rw [ht, if_pos rfl] at h
    split at h
    · rename_i hall
      exact ⟨rfl, fun i hi => of_decide_eq_true (List.all_eq_true.1 hall i hi)⟩
    · cases h
theorem asked_nil_one {n : Int} {R : Lk → List (List UInt8)} {k : Lk} {ev : Int} (h : ev = askedV n R k []) (hz : ¬ ev = 0) : ev = 1 ∧ thereB n k = false := by
  rw [askedV_nil] at h
  cases ht : thereB n k with
  | false => rw [ht] at h; exact ⟨h, rfl⟩
  | true => rw [ht] at h; exact absurd h hz

/-- What Take leaves: an error; or the first message, its memory the taker's. -/
def TookV (idle : Value) (w : World) (a : Nat) (n : Int) (R : Lk → List (List UInt8)) (F : Nat → Prop) (k : Lk) (e : Ending) (w' : World) : Prop :=
  if thereB n k then
    match R k with
    | [] => Did (.tuple #[nilS, idle]) w a n R F e w'
    | l :: L => ∃ m, e = .returned (.tuple #[m, .nilIface]) ∧ MsgIs w' m l ∧ IsMesh w' a n 0 (upd R k L) (fun b => Grow F w w' b ∧ m.ownBlock ≠ some b) ∧ Ext F w w' ∧ ∀ b, m.ownBlock = some b → F b ∧ b < w.heap.size
  else Did (.tuple #[nilS, .iface 28 (.int .i64 1)]) w a n R F e w'

/-- Memory that the mesh does not use any more. -/
theorem MeshAt.less {w : World} {a : Nat} {n lk : Int} {R : Lk → List (List UInt8)} {F : Nat → Prop} {q : Int} {mb : Nat} {es : List (Ent Lk)} {ms : Lk → List Value} (h : MeshAt w a n lk R F q mb es ms) {m : Value} {l : List UInt8} (hm : MsgIs w m l)
    (hno : ∀ (k : Lk) (i : Nat) (m' : Value) (b : Nat), (ms k)[i]? = some m' → m'.ownBlock = some b → m.ownBlock ≠ some b) : MeshAt w a n lk R (fun b => F b ∧ m.ownBlock ≠ some b) q mb es ms := by
  have tag : ∀ b, m.ownBlock = some b → ∃ C, w.heap[b]? = some (.cells C 5 (0, 0)) := fun b hb => Own.tag hm b hb
  exact { h with
    fa := ⟨h.fa, fun e => by obtain ⟨C, hC⟩ := tag a e; rw [h.cells] at hC; cases hC⟩
    fm := ⟨h.fm, fun e => by obtain ⟨C, hC⟩ := tag mb e; obtain ⟨c, hc, _⟩ := h.map.heap; rw [hc] at hC; cases hC⟩
    frow := fun k b hb => ⟨h.frow k b hb, fun e => by obtain ⟨C, hC⟩ := tag b e; obtain ⟨D, hD⟩ := h.rowTag hb; rw [hC] at hD; cases hD⟩
    fmsg := fun k i m' b hm' hb => ⟨h.fmsg k i m' b hm' hb, hno k i m' b hm' hb⟩
    bound := fun b hb => h.bound b hb.1 }
set_option maxRecDepth 100000 in
set_option maxHeartbeats 2000000 in
theorem take_any (h : IsMesh w a n 0 R F) (x y : Int) (idle : Value) (hid : w.cell? ⟨0, 0, none⟩ = some idle) (hF0 : ¬ F 0) (hcap : (R (x, y)).length ≤ 1024) :
    Calls Tryd.prog 10 #[.pointer (some ⟨a, 0, none⟩), .int .i64 x, .int .i64 y] w (TookV idle w a n R F (x, y)) := by
  have Hid := Lib.hid hid
  clear hid
  have H := Lib.hid h; clear h
  go_enter_defers Tryd.func10, Tryd.ntmps10
  go_wp2_with fail
  refine (lock_mesh H.out).mono ?_
  rintro e w1 ⟨rfl, H1, hx1, hs1⟩
  have HH1 := Lib.hid H1
  have Hx1 := Lib.hid hx1
  clear hs1 H1 hx1
  go_wp2_with fail
  have hal : Ext Nil w1 (w1.alloc (Obj.cells #[Value.int IntKind.i64 x, Value.int IntKind.i64 y] 68)) := ((Ext.refl _ _).alloc _)
  refine (asked_any (HH1.out.grown hal) x y _ [] (ints_nil _) (by simp)).mono ?_
  rintro e w2 ⟨rfl, hx2⟩
  have c0 : w2.cell? ⟨w1.heap.size, 0, none⟩ = some (.int .i64 x) := by rw [hx2.cells _ _ (by simp)]; simp
  have c1 : w2.cell? ⟨w1.heap.size, 1, none⟩ = some (.int .i64 y) := by rw [hx2.cells _ _ (by simp)]; simp
  have Hx2 := Lib.hid (hal.extN hx2)
  clear hx2 hal
  obtain ⟨kb, hkb⟩ : ∃ kb, kb = w1.heap.size := ⟨_, rfl⟩
  rw [← hkb] at c0 c1 ⊢
  clear hkb
  obtain ⟨ev, hev⟩ : ∃ ev, ev = askedV n R (x, y) [] := ⟨_, rfl⟩
  rw [← hev]
  have Hev := Lib.hid hev; clear hev
  have hkb2 : kb < w2.heap.size := World.block_lt_of_cell? w2 _ c0
  by_cases hz : ev = 0
  case neg =>
    have hb : (ev != 0) = true := by rw [bne_iff_ne]; exact hz
    have Hz := Lib.hid hz; clear hz
    go_wp2
    refine leaves_cons (f := 25) (args := #[.pointer (some ⟨a, 0, none⟩)]) (by simp) (by simp [go_sem]) ?_
    refine (unlock_mesh .returning (HH1.out.grown Hx2.out)).mono ?_
    rintro e u' w9 ⟨rfl, rfl, h9, hx9, hs9⟩
    obtain ⟨e1, e2⟩ := asked_nil_one Hev.out Hz.out
    rw [e1]
    refine ⟨_, results_tmp2 rfl _ _ _, ?_⟩
    unfold TookV
    rw [e2, if_neg (by decide)]
    exact did_read (Hx1.out.trans' Hx2.out.nilMono) h9 hx9
  case pos =>
    subst hz
    obtain ⟨q, mb, es, ms, M⟩ := HH1.out.grown Hx2.out
    have m3 := M.cell.2.2.2.1
    have ha2 : a < w2.heap.size := M.bound _ M.fa
    have hth := Lib.hid (asked_zero Hev.out).1
    obtain ⟨ad2, cap2, hrv⟩ := row_shape M (x, y)
    have hl := look_mesh M (x, y)
    rw [hrv] at hl
    have HM := Lib.hid M; clear M
    have Hrv := Lib.hid hrv; clear hrv
    go_wp2_with fail
    refine X.wp_region_plan 7 [(0, true), (1, true), (2, true), (3, true), (4, true), (5, true), (6, true)] [] (by kernel_rfl) (by kernel_rfl) (fun w3 hxw3 hh => ?_)
    clear hh
    repeat
      refine X.wpE_still (o := ⟨_, _, _, _, _, _⟩) rfl rfl ?_
      apply Exists.intro
      refine ⟨fun w' hE => ?_, ?_⟩
      · have hE2 := hxw3.extN hE
        have hc := hE2.cells
        have hl2 := hl _ hE2
        go_simp
        rfl
      simp only [Act.put, List.setIfInBounds_toArray, List.set_cons_succ, List.set_cons_zero]
    refine X.wpE_nil ?_
    refine X.wpT_nil ?_
    have Hx3 := Lib.hid hxw3; clear hxw3
    cases hR : R (x, y) with
    | nil =>
      have HR := Lib.hid hR; clear hR
      have hg : w3.cell? ⟨0, 0, none⟩ = some idle := (Hx2.out.extN Hx3.out).cell (Hx1.out.cell Hid.out hF0) id
      have hg0 : 0 < w3.heap.size := World.block_lt_of_cell? w3 _ hg
      clear hl m3 c0 c1
      go_wp2_with fail
      refine X.wp_region_plan 3 [(0, true), (1, true), (2, true)] [] (by kernel_rfl) (by kernel_rfl) (fun w4 hxw4 hh => ?_)
      clear hh
      repeat
        refine X.wpE_still (o := ⟨_, _, _, _, _, _⟩) rfl rfl ?_
        apply Exists.intro
        refine ⟨fun w' hE => ?_, ?_⟩
        · have hE2 := hxw4.extN hE
          have hc := hE2.cells
          go_simp
          rfl
        simp only [Act.put, List.setIfInBounds_toArray, List.set_cons_succ, List.set_cons_zero]
      refine X.wpE_nil ?_
      refine X.wpT_nil ?_
      go_wp2
      refine leaves_cons (f := 25) (args := #[.pointer (some ⟨a, 0, none⟩)]) (by simp) (by simp [go_sem]) ?_
      refine (unlock_mesh .returning ((HH1.out.grown Hx2.out).grown (Hx3.out.extN hxw4))).mono ?_
      rintro e u' w9 ⟨rfl, rfl, h9, hx9, hs9⟩
      refine ⟨_, results_tmp2 rfl _ _ _, ?_⟩
      unfold TookV
      rw [hth.out, if_pos rfl, HR.out]
      exact did_read (Hx1.out.trans' (Hx2.out.extN (Hx3.out.extN hxw4)).nilMono) h9 hx9
    | cons l L =>
      have HR := Lib.hid hR
      have hcl : (R (x, y)).length = L.length + 1 := by rw [hR]; rfl
      have hlen : ((L.length : Int) + 1 == 0) = false := by rw [beq_eq_false_iff_ne]; omega
      obtain ⟨rb, ro, cap, m, hrv, hlc, hm, hmc, hfz, hmsg⟩ := HM.out.elem (k := (x, y)) (i := 0) (by omega)
      have hrv2 := Hrv.out.symm.trans hrv
      injection hrv2 with e1 _ e2
      subst e1 e2
      have hmsg' : MsgIs w2 m l := by have : (R (x, y))[0]'(by omega) = l := by simp [hR]
                                      rw [this] at hmsg; exact hmsg
      rw [hcl] at hlc hrv
      have hrow2 := HM.out.row (x, y)
      rw [hrv, HM.out.len (x, y), hcl] at hrow2
      have hcut := fun w' (hx : Ext Nil w2 w') => Own.cut (l := 1) (h := L.length + 1) (hrow2.ext hx fun _ _ h => h) (by omega) (by omega)
      have hdrop : ((ms (x, y)).drop (1 * 1)).take ((L.length + 1 - 1) * 1) = (ms (x, y)).drop 1 := by
        rw [List.take_of_length_le]; rw [List.length_drop, HM.out.len (x, y), hcl]; omega
      rw [hdrop] at hcut
      have Hcut := Lib.hid hcut
      have Hmsg := Lib.hid hmsg'
      have Hm := Lib.hid hm
      have Hmc := Lib.hid hmc
      have Hhrv := Lib.hid hrv
      have Hcl := Lib.hid hcl
      have Hfz := Lib.hid hfz
      clear hcut hmsg hmsg' hm hmc hrv hfz hrow2 hdrop hR hl hcl
      have hx3 := Hx3.out
      simp only [List.length_cons]
      go_wp2_with fail
      refine X.wp_region_plan 8 [(0, true), (1, true), (2, true), (3, true), (4, true), (5, true), (6, true), (7, false)] [(8, false)] (by kernel_rfl) (by kernel_rfl) (fun wd hxwd hh => ?_)
      clear hh
      have hxwd2 := hx3.extN hxwd
      repeat
        refine X.wpE_still (o := ⟨_, _, _, _, _, _⟩) rfl rfl ?_
        apply Exists.intro
        refine ⟨fun w' hE => ?_, ?_⟩
        · have hE2 := hxwd2.extN hE
          have hc := hE2.cells
          go_simp
          rfl
        simp only [Act.put, List.setIfInBounds_toArray, List.set_cons_succ, List.set_cons_zero]
      refine X.wpE_still (o := ⟨_, _, _, _, _, _⟩) rfl rfl ?_
      refine ⟨cutV (some ⟨rb, ro, none⟩) 1 1 (L.length + 1) cap2, fun w' hE => X.exec_slice (h := L.length + 1) rfl elBytes rfl (.inr ⟨_, rfl⟩) (.inl ⟨rfl, rfl⟩) (by omega) hlc w', ?_⟩
      simp only [Act.put, List.setIfInBounds_toArray, List.set_cons_succ, List.set_cons_zero]
      refine X.wpE_call (o := ⟨_, _, _, _, _, _⟩) rfl rfl ?_
      apply Exists.intro
      apply Exists.intro
      refine ⟨?_, ?_⟩
      · go_simp
        exact ⟨rfl, rfl⟩
      have hones : ∀ u ∈ (ms (x, y)).drop 1, u.oneCell' = true := fun u hu => by
        obtain ⟨i, hi, rfl⟩ := List.getElem_of_mem (List.mem_of_mem_drop hu)
        obtain ⟨_, _, h2⟩ := HM.out.msgE (List.getElem?_eq_getElem hi)
        exact Own.one h2
      refine (clone_rows ((Hcut.out _ hxwd2).src hones) (fun _ h => by unfold cutV at h; cases h) (by have := Hcl.out; omega)).mono ?_
      rintro e w5 ⟨v', rfl, hv', hx5, hnew⟩
      refine ⟨_, rfl, hx5, ?_⟩
      simp only [Act.put, List.setIfInBounds_toArray, List.set_cons_succ, List.set_cons_zero]
      refine X.wpE_nil ?_
      have hx25 : Ext Nil w2 w5 := hxwd2.extN hx5
      obtain ⟨w6, es1, hr6, h6⟩ := X.run_mapUpdate linkKey Tryd.underlying57 (HM.out.map.ext hx25 id) (x, y) v'
      have hr6' : (Instr.mapUpdate 57 (.map (some mb)) (.agg #[.int .i64 x, .int .i64 y]) v').run Tryd.prog w5 = .ok () w6 := hr6
      have hml : (ms (x, y)).length = L.length + 1 := (HM.out.len (x, y)).trans Hcl.out
      obtain ⟨M6, hx6⟩ := MeshAt.replaced (d := 1) HM.out hx25 h6 (by rw [hml]; exact hv') fun b hb => Nat.le_trans hxwd2.size (hnew b hb)
      have hc6 : w6.cell? ⟨rb, ro, none⟩ = some m := h6.ext.cell (hx25.cell Hmc.out id) (fun e => HM.out.ne_m_row (k := (x, y)) (by rw [Hhrv.out]; rfl) e)
      have Hx6 := Lib.hid hx6
      have HM6 := Lib.hid M6
      have Hml := Lib.hid hml
      have H6 := Lib.hid h6
      clear hr6 hx6 M6 hml h6 hv' hnew hones
      refine X.wpT_act (o := ⟨_, _, _, _, _, _⟩) rfl rfl ?_
      apply Exists.intro
      refine ⟨?_, ?_⟩
      · go_simp
        rfl
      clear hr6'
      simp only [Act.put]
      refine X.wpT_nil ?_
      have hl0 : (0 : Int) < (L.length : Int) + 1 := by omega
      go_wp2
      refine leaves_cons (f := 25) (args := #[.pointer (some ⟨a, 0, none⟩)]) (by simp) (by simp [go_sem]) ?_
      have hG : Ext (fun b => b = mb) w2 w6 := hx25.nilMono.trans H6.out.ext fun _ _ e => e
      have hm6 : MsgIs w6 m l := Own.ext Hmsg.out hG fun b hb e => HM.out.ne_m_msg Hm.out hb e
      have hM6 : MeshAt w6 a n 1 (upd R (x, y) L) (fun b => Grow F w2 w6 b ∧ m.ownBlock ≠ some b) q mb es1 (upd ms (x, y) ((ms (x, y)).drop 1)) := by
        have := HM6.out.less hm6 fun k i m' b hm' hb e => by
          unfold upd at hm'
          split at hm'
          · rename_i ek
            rw [List.getElem?_drop] at hm'
            have := (HM.out.msgSep _ _ _ _ _ _ _ Hm.out hm' e hb).2
            omega
          · rename_i ek
            exact ek (HM.out.msgSep _ _ _ _ _ _ _ hm' Hm.out hb e).1
        rw [HR.out] at this
        exact this
      refine (unlock_mesh .returning ⟨_, _, _, _, hM6⟩).mono ?_
      rintro e u' w9 ⟨rfl, rfl, h9, hx9, hs9⟩
      refine ⟨_, results_tmp2 rfl _ _ _, ?_⟩
      unfold TookV
      rw [hth.out, if_pos rfl, HR.out]
      have hx02 : Ext F w w2 := Hx1.out.trans' Hx2.out.nilMono
      refine ⟨m, rfl, Own.ext hm6 hx9 fun b hb e => e.2 hb, ?_, ?_, ?_⟩
      · refine h9.wide (fun b hb => ⟨hb.1.imp id fun hb => ⟨by have := hx02.size; omega, by have := hx9.size; omega⟩, hb.2⟩) fun b hb => hb.1.elim (fun hf => ?_) (·.2)
        have := HM.out.bound b hf
        have := Hx6.out.size
        have := hx9.size
        omega
      · exact (hx02.trans' Hx6.out).trans hx9 fun k hk hg => hg.1.elim id fun hg => by have := hx02.size; omega
      · intro b hb
        have hf := HM.out.fmsg _ _ _ _ Hm.out hb
        exact ⟨hf, H.out.bound b hf⟩
end
end Go.Proofs.YtbpjgdmmijehnaaDoor
