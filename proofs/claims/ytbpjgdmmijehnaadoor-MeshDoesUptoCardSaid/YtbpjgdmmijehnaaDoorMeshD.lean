/-
  The contract of Send.
-/
import Derived.Test.YtbpjgdmmijehnaaDoorMeshC
namespace Go.Proofs.YtbpjgdmmijehnaaDoor
open Go.RowKit Go.X

section
variable {w : World} {a : Nat} {n : Int} {R : Lk → List (List UInt8)} {F : Nat → Prop}

theorem askedV_nil (n : Int) (R : Lk → List (List UInt8)) (k : Lk) : askedV n R k [] = if thereB n k then 0 else 1 := by
  unfold askedV; simp
theorem ints_nil (w : World) : Ints w (.slice none 0 0) [] := ⟨none, 0, rfl, by simp⟩
theorem IsMesh.grown {w w' : World} {lk : Int} (h : IsMesh w a n lk R F) (hx : Ext Nil w w') : IsMesh w' a n lk R F := h.ext hx fun _ _ h => h

theorem _root_.Go.X.Src.ext0 {F : Nat → Prop} {w w' : World} {x : Value} {sz m : Nat} {news : List Value} (h : Src w x sz m news) (hx : Ext F w w') (hn : news ≠ [] → ∀ b, x.ownBlock = some b → ¬ F b) : Src w' x sz m news := by
  by_cases h0 : news = []
  · subst h0
    refine ⟨h.1, h.2.1, ?_⟩
    rcases h.2.2 with h2 | ⟨a, c, rfl, hc⟩ | h2
    · exact .inl h2
    · exact .inr (.inl ⟨a, c, rfl, fun j u hu => by simp at hu⟩)
    · exact .inr (.inr h2)
  · exact h.ext hx (hn h0)
set_option maxRecDepth 100000 in
set_option maxHeartbeats 2000000 in
theorem send_any (h : IsMesh w a n 0 R F) (x y : Int) (v : Value) (b : List UInt8) (hv : BytesArg w v b) (hF : b ≠ [] → ∀ k, v.ownBlock = some k → ¬ F k) :
    Calls Tryd.prog 9 #[.pointer (some ⟨a, 0, none⟩), .int .i64 x, .int .i64 y, v] w (Did (.int .i64 (sendV n R (x, y) b)) w a n (sendR n R (x, y) b) F) := by
  obtain ⟨hsrc, ad, c, rfl⟩ := hv
  have H := Lib.hid h; clear h
  have Hsrc := Lib.hid hsrc; clear hsrc
  have HF := Lib.hid hF; clear hF
  go_enter_defers Tryd.func9, Tryd.ntmps9
  go_wp2_with fail
  refine (lock_mesh H.out).mono ?_
  rintro e w1 ⟨rfl, H1, hx1, hs1⟩
  have Hs1 := Lib.hid hs1; clear hs1
  go_wp2_with fail
  have hal : Ext Nil w1 (w1.alloc (Obj.cells #[Value.int IntKind.i64 x, Value.int IntKind.i64 y] 68)) := (Ext.refl _ _).alloc _
  refine (asked_any (H1.grown hal) x y _ [] (ints_nil _) (by simp)).mono ?_
  rintro e w2 ⟨rfl, hx2⟩
  rw [askedV_nil]
  have c0 : w2.cell? ⟨w1.heap.size, 0, none⟩ = some (.int .i64 x) := by rw [hx2.cells _ _ (by simp)]; simp
  have c1 : w2.cell? ⟨w1.heap.size, 1, none⟩ = some (.int .i64 y) := by rw [hx2.cells _ _ (by simp)]; simp
  have hs2 : w1.heap.size < w2.heap.size := by have := hx2.size; simp at this; omega
  have Hx2 := Lib.hid (hal.extN hx2)
  clear hx2 hal
  obtain ⟨kb, hkb⟩ : ∃ kb, kb = w1.heap.size := ⟨_, rfl⟩
  rw [← hkb] at c0 c1 hs2 ⊢
  have Hkb := Lib.hid hkb; clear hkb
  cases hth : thereB n (x, y) with
  | false =>
    have Hth := Lib.hid hth; clear hth
    simp only [Bool.false_eq_true, if_false]
    go_wp2
    refine leaves_cons (f := 25) (args := #[.pointer (some ⟨a, 0, none⟩)]) (by simp) (by simp [go_sem]) ?_
    refine (unlock_mesh .returning (H1.grown Hx2.out)).mono ?_
    rintro e u' w3 ⟨rfl, rfl, h3, hx3, hs3⟩
    have e1 : sendV n R (x, y) b = 1 := by unfold sendV; rw [Hth.out]; rfl
    have e2 : sendR n R (x, y) b = R := by unfold sendR; rw [e1]; rfl
    rw [e1, e2]
    exact ⟨_, results_tmp rfl _ _ _, did_read (hx1.trans' Hx2.out.nilMono) h3 hx3⟩
  | true =>
    have Hth := Lib.hid hth; clear hth
    simp only [if_true]
    by_cases hbig : 2097194 < b.length
    case pos =>
      have dbig : decide ((2097194 : Int) < (b.length : Int)) = true := by simp; omega
      go_wp2
      refine leaves_cons (f := 25) (args := #[.pointer (some ⟨a, 0, none⟩)]) (by simp) (by simp [go_sem]) ?_
      refine (unlock_mesh .returning (H1.grown Hx2.out)).mono ?_
      rintro e u' w9 ⟨rfl, rfl, h9, hx9, hs9⟩
      have e1 : sendV n R (x, y) b = 4 := by unfold sendV; rw [Hth.out, if_pos rfl]; rw [if_pos hbig]
      have e2 : sendR n R (x, y) b = R := by unfold sendR; rw [e1]; rfl
      rw [e1, e2]
      exact ⟨_, results_tmp rfl _ _ _, did_read (hx1.trans' Hx2.out.nilMono) h9 hx9⟩
    case neg =>
      have dbig : decide ((2097194 : Int) < (b.length : Int)) = false := by simp; omega
      obtain ⟨q, mb, es, ms, M⟩ := H1.grown Hx2.out
      have m3 := M.cell.2.2.2.1
      obtain ⟨ad2, cap2, hrv⟩ := row_shape M (x, y)
      have hl := look_mesh M (x, y)
      rw [hrv] at hl
      have hl2 : ∀ nn, (Instr.lookup 57 (.map (some mb)) (.agg #[.int .i64 x, .int .i64 y]) false).run Tryd.prog (w2.drewN nn) = .ok (.slice ad2 (R (x, y)).length cap2) (w2.drewN nn) := fun nn => hl _ ((Ext.refl _ _).drewN nn)
      clear hl
      have Hrv := Lib.hid hrv; clear hrv
      by_cases hfull : 1024 ≤ (R (x, y)).length
      case pos =>
        have dfull : decide ((1024 : Int) ≤ ((R (x, y)).length : Int)) = true := by simp; omega
        go_wp2_with fail
        go_quiet (fail)
        go_wp2
        refine leaves_cons (f := 25) (args := #[.pointer (some ⟨a, 0, none⟩)]) (by simp) (by simp [go_sem]) ?_
        refine (unlock_mesh .returning ((H1.grown Hx2.out).grown ((Ext.refl _ _).drewN nq))).mono ?_
        rintro e u' w9 ⟨rfl, rfl, h9, hx9, hs9⟩
        have e1 : sendV n R (x, y) b = 3 := by unfold sendV; rw [Hth.out, if_pos rfl]; rw [if_neg hbig, if_pos hfull]
        have e2 : sendR n R (x, y) b = R := by unfold sendR; rw [e1]; rfl
        rw [e1, e2]
        exact ⟨_, results_tmp rfl _ _ _, did_read (hx1.trans' (Hx2.out.drewN nq).nilMono) h9 hx9⟩
      case neg =>
        have dfull : decide ((1024 : Int) ≤ ((R (x, y)).length : Int)) = false := by simp; omega
        go_wp2_with fail
        go_quiet (fail)
        go_wp2_with fail
        clear hl2
        have hx3 : Ext Nil w2 (w2.drewN nq) := (Ext.refl _ _).drewN nq
        refine X.wp_region_plan 8 [(0, true), (1, true), (2, true), (3, true), (4, true), (5, true), (6, false), (7, false)] [(8, false), (9, true), (11, true), (10, false), (12, false)] (by kernel_rfl) (by kernel_rfl) (fun w3 hx3' hh => ?_)
        replace hx3 := hx3.extN hx3'
        clear hx3' hh
        have k0 := hx3.cell c0 id
        have k1 := hx3.cell c1 id
        have k3 := hx3.cell m3 id
        have hb3 : kb < w3.heap.size := World.block_lt_of_cell? w3 _ k0
        have ha3 : a < w3.heap.size := World.block_lt_of_cell? w3 _ k3
        clear c0 c1 m3 hs2
        have HM := Lib.hid M; clear M
        have Hx3 := Lib.hid hx3; clear hx3
        repeat
          refine X.wpE_still (o := ⟨_, _, _, _, _, _⟩) rfl rfl ?_
          apply Exists.intro
          refine ⟨fun w' hE => ?_, ?_⟩
          · have hc := hE.cells
            go_simp
            rfl
          simp only [Act.put, List.setIfInBounds_toArray, List.set_cons_succ, List.set_cons_zero]
        refine X.wpE_call (o := ⟨_, _, _, _, _, _⟩) rfl rfl ?_
        apply Exists.intro
        apply Exists.intro
        refine ⟨?_, ?_⟩
        · go_simp
          exact ⟨rfl, rfl⟩
        have hxs : Ext Nil w1 w3 := Hx2.out.extN Hx3.out
        refine (clone_bytes (Hsrc.out.ext0 (hx1.trans' hxs.nilMono) fun h => HF.out fun e => h (by rw [e]; rfl)) (fun _ h => by cases h) (by omega)).mono ?_
        rintro e w4 ⟨m, rfl, hm, hx4, hnew⟩
        obtain ⟨ad3, c3, rfl⟩ := Own.slice hm
        refine ⟨_, rfl, hx4, ?_⟩
        simp only [Act.put, List.setIfInBounds_toArray, List.set_cons_succ, List.set_cons_zero]
        refine X.wpE_grow (o := ⟨_, _, _, _, _, _⟩) rfl rfl ?_
        apply Exists.intro
        apply Exists.intro
        refine ⟨?_, ?_, ?_⟩
        · go_simp
          exact ⟨rfl, rfl⟩
        · exact (Ext.refl _ _).alloc _
        simp only [Act.put, List.setIfInBounds_toArray, List.set_cons_succ, List.set_cons_zero]
        refine X.wpE_nil ?_
        -- the tail
        have hx15 : Ext Nil w2 (w4.alloc (Obj.cells #[.slice ad3 b.length c3] 32)) := (Hx3.out.extN hx4).alloc _
        have hsrc5 : Src (w4.alloc (Obj.cells #[.slice ad3 b.length c3] 32)) (.slice (some ⟨w4.heap.size, 0, none⟩) 1 1) 1 1 [.slice ad3 b.length c3] := src_new w4 [.slice ad3 b.length c3] 32 (by simpa using Own.one hm)
        have hm5 : MsgIs (w4.alloc (Obj.cells #[.slice ad3 b.length c3] 32)) (.slice ad3 b.length c3) b := Own.ext (F := Nil) hm ((Ext.refl _ _).alloc _) fun _ _ h => h
        have hlt5 : w4.heap.size < (w4.alloc (Obj.cells #[.slice ad3 b.length c3] 32)).heap.size := by simp
        have hmb4 : mb < w4.heap.size := Nat.lt_of_lt_of_le HM.out.map.lt (Hx3.out.extN hx4).size
        have hnew2 : ∀ k, (Value.slice ad3 b.length c3).ownBlock = some k → w2.heap.size ≤ k := fun b hb => Nat.le_trans Hx3.out.size (hnew b hb)
        obtain ⟨nb, hnb⟩ : ∃ nb, nb = w4.heap.size := ⟨_, rfl⟩
        rw [← hnb] at hsrc5 hlt5 hmb4 ⊢
        have Hm := Lib.hid hm; clear hm hx4 hnew hnb
        generalize w4.alloc (Obj.cells #[.slice ad3 b.length c3] 32) = w5 at hx15 hsrc5 hm5 hlt5 ⊢
        obtain ⟨w6, es1, st, hr6, h6, hmem⟩ := X.run_mapEntry linkKey Tryd.underlying57 zeroRow (HM.out.map.ext hx15 id) (x, y)
        rw [get_rv] at hr6 h6 hmem
        have hown6 : Own w6 (rv es (x, y)) 32 1 (ms (x, y)).length (ms (x, y)) := Own.ext (Own.ext (HM.out.row (x, y)) hx15 fun _ _ h => h) h6.ext fun k hb e => HM.out.ne_m_row hb e
        have hsrc6 := hsrc5.ext h6.ext fun k hb e => by
          have e2 : nb = k := by simpa [Value.ownBlock] using hb
          omega
        have hlen := HM.out.len (x, y)
        have Hx15 := Lib.hid hx15
        have H6 := Lib.hid h6
        have Hmem := Lib.hid hmem
        have Hm5 := Lib.hid hm5
        have Hown6 := Lib.hid hown6
        have Hsrc6 := Lib.hid hsrc6
        have Hlen := Lib.hid hlen
        clear hx15 h6 hmem hm5 hown6 hsrc6 hsrc5 hlen
        have hr6' : (Instr.mapEntry 57 (.map (some mb)) (.agg #[.int .i64 x, .int .i64 y])).run Tryd.prog w5 = .ok (.tuple #[rv es (x, y), .int .i64 st]) w6 := hr6
        clear hr6
        refine X.wpT_run (o := ⟨_, _, _, _, _, _⟩) rfl rfl ?_
        apply Exists.intro
        apply Exists.intro
        refine ⟨?_, ?_⟩
        · go_simp
          exact ⟨rfl, rfl⟩
        clear hr6'
        simp only [Act.put, List.setIfInBounds_toArray, List.set_cons_succ, List.set_cons_zero]
        repeat
          refine X.wpT_pure (o := ⟨_, _, _, _, _, _⟩) rfl rfl ?_
          apply Exists.intro
          refine ⟨fun w' => ?_, ?_⟩
          · go_simp
            rfl
          simp only [Act.put, List.setIfInBounds_toArray, List.set_cons_succ, List.set_cons_zero]
        refine X.wpT_loud (o := ⟨_, _, _, _, _, _⟩) rfl rfl ?_
        refine X.wp_append _ _ 25 rfl elBytes ⟨_, Tryd.underlying25, fun _ h => by cases h⟩ Hown6.out Hsrc6.out rfl rfl (by have := Hlen.out; omega) (by have := Hlen.out; unfold maxLen; omega) ?_
        intro v7 w7 hA
        simp only [Act.put, List.setIfInBounds_toArray, List.set_cons_succ, List.set_cons_zero]
        have hmap7 : HasMap w7 mb kdl es1 := H6.out.has.ext hA.ext (fun e => HM.out.ne_m_row e rfl)
        obtain ⟨w8, es2, hr8, h8⟩ := X.run_entryStore (P := Tryd.prog) (mt := 57) hmap7 Hmem.out v7
        have HA := Lib.hid hA
        have H8 := Lib.hid h8
        clear hA h8 hmap7
        refine X.wpT_act (o := ⟨_, _, _, _, _, _⟩) rfl rfl ?_
        apply Exists.intro
        refine ⟨?_, ?_⟩
        · go_simp
          rfl
        clear hr8
        simp only [Act.put]
        refine X.wpT_nil ?_
        go_wp2
        refine leaves_cons (f := 25) (args := #[.pointer (some ⟨a, 0, none⟩)]) (by simp) (by simp [go_sem]) ?_
        obtain ⟨M8, hx8⟩ := MeshAt.pushed HM.out Hx15.out Hm5.out hnew2 H6.out HA.out H8.out
        refine (unlock_mesh .returning ⟨_, _, _, _, M8⟩).mono ?_
        rintro e u' w9 ⟨rfl, rfl, h9, hx9, hs9⟩
        have e1 : sendV n R (x, y) b = 0 := by unfold sendV; rw [Hth.out, if_pos rfl, if_neg hbig, if_neg hfull]
        have e2 : sendR n R (x, y) b = upd R (x, y) (R (x, y) ++ [b]) := by unfold sendR; rw [e1]; rfl
        rw [e1, e2]
        exact ⟨_, results_tmp rfl _ _ _, did_door (hx1.trans' Hx2.out.nilMono) hx8 h9 hx9⟩
end
end Go.Proofs.YtbpjgdmmijehnaaDoor
