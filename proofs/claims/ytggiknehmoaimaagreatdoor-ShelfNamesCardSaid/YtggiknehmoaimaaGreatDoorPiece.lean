/-
  SHA-256 of the program: a piece.
-/
import Derived.Test.YtggiknehmoaimaaGreatDoorSha
import Derived.Deep.Cut
namespace Go.X
open Go.RowKit
/-- Bytes that lie in memory. -/
def BytesIn (w : World) (v : Value) (l : Bytes) : Prop := ∃ ad c, v = .slice ad l.length c ∧ l.length ≤ c ∧ ∀ i x, l[i]? = some x → ∃ b o, ad = some ⟨b, o, none⟩ ∧ w.cell? ⟨b, o + i, none⟩ = some (bval x)
theorem BytesIn.ext {F : Nat → Prop} {w w' : World} {v : Value} {l : Bytes} (h : BytesIn w v l) (hx : Ext F w w') (hn : l ≠ [] → ∀ b, v.ownBlock = some b → ¬ F b) : BytesIn w' v l := by
  obtain ⟨ad, c, rfl, hc, h⟩ := h
  refine ⟨ad, c, rfl, hc, fun i x hi => ?_⟩
  obtain ⟨b, o, rfl, h1⟩ := h i x hi
  exact ⟨b, o, rfl, hx.cell h1 (hn (fun e => by rw [e] at hi; simp at hi) b rfl)⟩
theorem BytesIn.ext0 {w w' : World} {v : Value} {l : Bytes} (h : BytesIn w v l) (hx : Ext Nil w w') : BytesIn w' v l := h.ext hx fun _ _ _ h => h
end Go.X
namespace Go.Proofs.YtggiknehmoaimaaGreatDoor
open Go Go.RowKit Go.X

theorem start_world {Φ : World → Prop} {w1 : World} {A B : Array Value} {D : List Value} {e : TypeId} {Z : List Value} (hZ : B.toList = Z) (h : ∀ w2, Row w2 w1.heap.size e D → Row w2 (w1.heap.size + 1) e Z → Ext Nil w1 w2 → w2.heap.size = w1.heap.size + 2 → Φ w2) :
    Φ (((w1.alloc (.cells A e)).setRow w1.heap.size D.toArray).alloc (.cells B e)) := by
  refine h _ ?_ ?_ ?_ ?_
  · exact ((row_alloc w1 A e).setRow D).ext0 ((Ext.refl _ _).alloc _)
  · have := row_alloc ((w1.alloc (.cells A e)).setRow w1.heap.size D.toArray) B e
    rw [hZ] at this
    simpa using this
  · exact (((Ext.refl Nil w1).alloc _).setRow (fun h => by omega) _).alloc _
  · simp
theorem set_next {α : Type} (A : List α) (z v : α) (n k : Nat) (hA : A.length = k) (hk : k < n) : (A ++ List.replicate (n - k) z).set k v = A ++ [v] ++ List.replicate (n - (k + 1)) z := by
  rw [List.set_append_right _ _ (by omega), hA, Nat.sub_self]
  obtain ⟨m, hm⟩ : ∃ m, n - k = m + 1 := ⟨n - k - 1, by omega⟩
  rw [hm, List.replicate_succ, List.set_cons_zero, show n - (k + 1) = m by omega]
  simp
theorem words_length (l : Bytes) : ∀ t, (wordsF l t).length = t
  | 0 => rfl
  | t + 1 => by simp [wordsF, words_length l t]
set_option maxRecDepth 100000 in
set_option maxHeartbeats 8000000 in
theorem piece_any {w : World} {s : S8} {v : Value} {l : Bytes} (hv : BytesIn w v l) (hl : l.length = 64) :
    Calls Tryz.prog 154 #[.agg (s.list.map wval).toArray, v] w fun e w' => e = .returned (.agg ((pieceF s l).list.map wval).toArray) ∧ Ext Nil w w' := by
  obtain ⟨ad, cp, rfl, hcp, hbytes⟩ := hv
  have Hb := Lib.hid hbytes; clear hbytes
  have Hl := Lib.hid hl
  rw [hl] at hcp ⊢
  clear hl
  go_enter Tryz.func154, Tryz.ntmps154
  go_wp2_with fail
  have hr0 : Row ((w.alloc (.cells (s.list.map wval).toArray 74)).alloc (.cells #[.int .u32 0, .int .u32 0, .int .u32 0, .int .u32 0, .int .u32 0, .int .u32 0, .int .u32 0, .int .u32 0] 74)) w.heap.size 74 (s.list.map wval) := (row_new w _ _).ext0 ((Ext.refl _ _).alloc _)
  have hr4 : Row ((w.alloc (.cells (s.list.map wval).toArray 74)).alloc (.cells #[.int .u32 0, .int .u32 0, .int .u32 0, .int .u32 0, .int .u32 0, .int .u32 0, .int .u32 0, .int .u32 0] 74)) (w.heap.size + 1) 74 (#[Value.int .u32 0, .int .u32 0, .int .u32 0, .int .u32 0, .int .u32 0, .int .u32 0, .int .u32 0, .int .u32 0]).toList := by
    have := row_alloc (w.alloc (.cells (s.list.map wval).toArray 74)) #[.int .u32 0, .int .u32 0, .int .u32 0, .int .u32 0, .int .u32 0, .int .u32 0, .int .u32 0, .int .u32 0] 74
    rwa [World.size_alloc] at this
  have hx0 : Ext Nil w ((w.alloc (.cells (s.list.map wval).toArray 74)).alloc (.cells #[.int .u32 0, .int .u32 0, .int .u32 0, .int .u32 0, .int .u32 0, .int .u32 0, .int .u32 0, .int .u32 0] 74)) := ((Ext.refl _ _).alloc _).alloc _
  refine (rounds_any _).mono ?_
  rintro e w1 ⟨rfl, hx1⟩
  have R0 := Lib.hid (hr0.ext0 hx1)
  have R4 := Lib.hid (hr4.ext0 hx1)
  have Hx1 := Lib.hid (hx0.extN hx1)
  clear hr0 hr4 hx0 hx1
  go_wp2_with (refine wpList_store_all (o := ⟨none, _, _, _, _, _⟩) rfl (.tmp 5) (.tmp 21) rfl rfl (vs := roundsF.map wval) rfl aLong (row_alloc w1 _ _) rfl rfl (one_u32 _) ?_)
  refine start_world (Φ := fun w2 => Code.wp _ _ _ _ w2) (Z := List.replicate 64 (.int .u32 0)) rfl ?_
  intro w2 hk hw hx2 hs2
  obtain ⟨b0, hb0⟩ : ∃ b0, b0 = w.heap.size := ⟨_, rfl⟩
  obtain ⟨bk, hbk⟩ : ∃ bk, bk = w1.heap.size := ⟨_, rfl⟩
  rw [← hb0, ← hbk]
  rw [← hbk] at hk hw
  have r0 := R0.out.ext0 hx2
  have r4 := R4.out.ext0 hx2
  rw [← hb0] at r0 r4
  have hlt := R4.out.lt
  have Hlt : Hid (b0 + 1 < bk) := by show b0 + 1 < bk; omega
  have Hxw := Lib.hid (Hx1.out.extN hx2)
  have HR0 := Lib.hid r0
  have HR4 := Lib.hid r4
  have HRK := Lib.hid hk
  have HRW := Lib.hid hw
  have Hwb : Hid (∀ wr, Ext (fun b => b = bk + 1) w2 wr → Ext Nil w wr) := fun wr h => (Hx1.out.extN hx2).trans h fun b hb e => by have := Hx1.out.size; omega
  have Hb0 := Lib.hid hb0
  clear R0 R4 Hx1 hk hw hx2 hs2 hlt hb0 hbk r0 r4
  go_wp2_with fail
  go_loopw [22] (fun t wr => ∃ k : Nat, t = .int .i64 k ∧ k ≤ 64 ∧ Ext (fun b => b = bk + 1) w2 wr ∧ Row wr (bk + 1) 76 ((wordsF l k).map wval ++ List.replicate (64 - k) (.int .u32 0))) (fun t _ => 64 - (intOf t).toNat)
  case atStart => exact ⟨0, rfl, by omega, Ext.refl _ _, HRW.out⟩
  case round =>
    obtain ⟨k, rfl, hk, hxr, hrw⟩ := hrel
    have Hxr := Lib.hid hxr
    have Hrw := Lib.hid hrw
    clear hxr hrw
    by_cases hlt : k < 64
    case pos =>
      by_cases h16 : k < 16
      case pos =>
        go_wp2_with fail
        refine X.wp_region_plan 35 [(0, true), (1, true), (2, true), (3, true), (4, true), (5, true), (6, true), (7, true), (8, true), (9, true), (10, true), (11, true), (12, true), (13, true), (14, true), (15, true), (16, true), (17, true), (18, true), (19, true), (20, true), (21, true), (22, true), (23, true), (24, true), (25, true), (26, true), (27, true), (28, true), (29, true), (30, true), (31, true), (32, true), (33, true), (34, true)] [(35, false)] (by kernel_rfl) (by kernel_rfl) (fun wd hxwd hh => ?_)
        clear hh
        obtain ⟨x0, e0⟩ : ∃ x, l[4 * k]? = some x := ⟨_, List.getElem?_eq_getElem (by have := Hl.out; omega)⟩
        obtain ⟨x1, e1⟩ : ∃ x, l[4 * k + 1]? = some x := ⟨_, List.getElem?_eq_getElem (by have := Hl.out; omega)⟩
        obtain ⟨x2, e2⟩ : ∃ x, l[4 * k + 2]? = some x := ⟨_, List.getElem?_eq_getElem (by have := Hl.out; omega)⟩
        obtain ⟨x3, e3⟩ : ∃ x, l[4 * k + 3]? = some x := ⟨_, List.getElem?_eq_getElem (by have := Hl.out; omega)⟩
        obtain ⟨sb, so, rfl, m0⟩ := Hb.out _ _ e0
        obtain ⟨_, _, ee, m1⟩ := Hb.out _ _ e1
        injection ee with ee; injection ee with ea eb; subst ea eb
        obtain ⟨_, _, ee, m2⟩ := Hb.out _ _ e2
        injection ee with ee; injection ee with ea eb; subst ea eb
        obtain ⟨_, _, ee, m3⟩ := Hb.out _ _ e3
        injection ee with ee; injection ee with ea eb; subst ea eb
        have E0 := Lib.hid e0
        have E1 := Lib.hid e1
        have E2 := Lib.hid e2
        have E3 := Lib.hid e3
        have M0 := Lib.hid m0
        have M1 := Lib.hid m1
        have M2 := Lib.hid m2
        have M3 := Lib.hid m3
        have Hxd := Lib.hid hxwd
        clear e0 e1 e2 e3 m0 m1 m2 m3 hxwd
        have u0 : (x0.toNat : Int) < 256 := by have := x0.toNat_lt; omega
        have u1 : (x1.toNat : Int) < 256 := by have := x1.toNat_lt; omega
        have u2 : (x2.toNat : Int) < 256 := by have := x2.toNat_lt; omega
        have u3 : (x3.toNat : Int) < 256 := by have := x3.toNat_lt; omega
        have q0 : IntKind.i64.wrap (4 * (k : Int)) = 4 * (k : Int) := by rw [IntKind.wrap_i64]; omega
        have q1 : IntKind.i64.wrap (4 * (k : Int) + 1) = 4 * (k : Int) + 1 := by rw [IntKind.wrap_i64]; omega
        have q2 : IntKind.i64.wrap (4 * (k : Int) + 2) = 4 * (k : Int) + 2 := by rw [IntKind.wrap_i64]; omega
        have q3 : IntKind.i64.wrap (4 * (k : Int) + 3) = 4 * (k : Int) + 3 := by rw [IntKind.wrap_i64]; omega
        have n0 : (4 * (k : Int)).toNat = 4 * k := by omega
        have n1 : (4 * (k : Int) + 1).toNat = 4 * k + 1 := by omega
        have n2 : (4 * (k : Int) + 2).toNat = 4 * k + 2 := by omega
        have n3 : (4 * (k : Int) + 3).toNat = 4 * k + 3 := by omega
        have p0 : 0 ≤ 4 * (k : Int) := by omega
        have p1 : 0 ≤ 4 * (k : Int) + 1 := by omega
        have p2 : 0 ≤ 4 * (k : Int) + 2 := by omega
        have p3 : 0 ≤ 4 * (k : Int) + 3 := by omega
        have b0 : 4 * (k : Int) < 64 := by omega
        have b1 : 4 * (k : Int) + 1 < 64 := by omega
        have b2 : 4 * (k : Int) + 2 < 64 := by omega
        have b3 : 4 * (k : Int) + 3 < 64 := by omega
        iterate 35
          refine X.wpE_still (o := ⟨_, _, _, _, _, _⟩) rfl rfl ?_
          apply Exists.intro
          refine ⟨fun w' hE => ?_, ?_⟩
          · have hxW := (Hwb.out _ Hxr.out).extN (Hxd.out.extN hE)
            have m0 := hxW.cell M0.out id
            have m1 := hxW.cell M1.out id
            have m2 := hxW.cell M2.out id
            have m3 := hxW.cell M3.out id
            unfold bval at m0 m1 m2 m3
            clear hxW hE
            go_simp
            rfl
          simp only [Act.put, List.setIfInBounds_toArray, List.set_cons_succ, List.set_cons_zero]
        refine X.wpE_nil ?_
        have hrd := Hrw.out.ext0 Hxd.out
        have hcell : wd.cell? ⟨bk + 1, k, none⟩ = some (.int .u32 0) := hrd.cell (by rw [List.getElem?_append_right (by simp [words_length]), List.length_map, words_length, Nat.sub_self, List.getElem?_replicate, if_pos (by omega)])
        have hfz := hrd.frozen k
        have Hrd := Lib.hid hrd
        clear hrd
        refine X.wpT_act (o := ⟨_, _, _, _, _, _⟩) rfl rfl ?_
        apply Exists.intro
        refine ⟨?_, ?_⟩
        · go_simp
          rfl
        simp only [Act.put]
        refine X.wpT_nil ?_
        have Hval : Hid (Value.int .u32 (bits .or .u32 (bits .or .u32 (bits .or .u32 (IntKind.u32.wrap (IntKind.u32.wrap x0.toNat * 16777216)) (IntKind.u32.wrap (IntKind.u32.wrap x1.toNat * 65536))) (IntKind.u32.wrap (IntKind.u32.wrap x2.toNat * 256))) (IntKind.u32.wrap x3.toNat)) = wval (word l k)) := by
          show _ = _
          rw [word_val]
          unfold wval word
          simp [List.getD_eq_getElem?_getD, E0.out, E1.out, E2.out, E3.out]
        rw [Hval.out]
        clear q0 q1 q2 q3 n0 n1 n2 n3 p0 p1 p2 p3 b0 b1 b2 b3 u0 u1 u2 u3
        go_wp2
        go_roundw
        case rel =>
          have h1 := Hrd.out.set k (wval (word l k))
          rw [set_next _ _ _ 64 k (by simp [words_length]) hlt] at h1
          refine ⟨k + 1, by go_num, by omega, (Hxr.out.trans' Hxd.out.nilMono).setCell (fun _ => rfl) _, ?_⟩
          have e : (wordsF l (k + 1)).map wval = (wordsF l k).map wval ++ [wval (word l k)] := by simp [wordsF, h16]
          rw [e]
          exact h1
        case measure => simp [intOf]; omega
      case neg =>
        have q15 : IntKind.i64.wrap ((k : Int) - 15) = (k : Int) - 15 := by rw [IntKind.wrap_i64]; omega
        have q2 : IntKind.i64.wrap ((k : Int) - 2) = (k : Int) - 2 := by rw [IntKind.wrap_i64]; omega
        have q16 : IntKind.i64.wrap ((k : Int) - 16) = (k : Int) - 16 := by rw [IntKind.wrap_i64]; omega
        have q7 : IntKind.i64.wrap ((k : Int) - 7) = (k : Int) - 7 := by rw [IntKind.wrap_i64]; omega
        have n15 : ((k : Int) - 15).toNat = k - 15 := by omega
        have n2 : ((k : Int) - 2).toNat = k - 2 := by omega
        have n16 : ((k : Int) - 16).toNat = k - 16 := by omega
        have n7 : ((k : Int) - 7).toNat = k - 7 := by omega
        have p15 : 15 ≤ (k : Int) := by omega
        have p2 : 2 ≤ (k : Int) := by omega
        have p16 : 16 ≤ (k : Int) := by omega
        have p7 : 7 ≤ (k : Int) := by omega
        have b15 : (k : Int) - 15 < 64 := by omega
        have b2 : (k : Int) - 2 < 64 := by omega
        have b16 : (k : Int) - 16 < 64 := by omega
        have b7 : (k : Int) - 7 < 64 := by omega
        obtain ⟨x, hx⟩ : ∃ x, x = (wordsF l k).getD (k - 15) 0 := ⟨_, rfl⟩
        obtain ⟨y, hy⟩ : ∃ y, y = (wordsF l k).getD (k - 2) 0 := ⟨_, rfl⟩
        obtain ⟨a, ha⟩ : ∃ a, a = (wordsF l k).getD (k - 16) 0 := ⟨_, rfl⟩
        obtain ⟨b, hb⟩ : ∃ b, b = (wordsF l k).getD (k - 7) 0 := ⟨_, rfl⟩
        have hcells : ∀ w', Ext Nil wr w' → w'.cell? ⟨bk + 1, k - 15, none⟩ = some (.int .u32 x.toNat) ∧ w'.cell? ⟨bk + 1, k - 2, none⟩ = some (.int .u32 y.toNat) ∧ w'.cell? ⟨bk + 1, k - 16, none⟩ = some (.int .u32 a.toNat) ∧ w'.cell? ⟨bk + 1, k - 7, none⟩ = some (.int .u32 b.toNat) := fun w' hx' => by
          have hr := Hrw.out.ext0 hx'
          have get : ∀ i, i < k → w'.cell? ⟨bk + 1, i, none⟩ = some (.int .u32 ((wordsF l k).getD i 0).toNat) := fun i hi => hr.cell (by
            rw [List.getElem?_append_left (by simp [words_length, hi]), List.getElem?_map, List.getD_eq_getElem?_getD, List.getElem?_eq_getElem (by rw [words_length]; exact hi)]
            rfl)
          rw [hx, hy, ha, hb]
          exact ⟨get _ (by omega), get _ (by omega), get _ (by omega), get _ (by omega)⟩
        have Hcell := Lib.hid hcells
        have Hx := Lib.hid hx
        have Hy := Lib.hid hy
        have Ha := Lib.hid ha
        have Hb' := Lib.hid hb
        clear hcells hx hy ha hb
        go_wp2_with fail
        refine X.wp_region_plan 10 [(0, true), (1, true), (2, true), (3, true), (4, true), (5, true), (6, true), (7, true), (8, true), (9, true)] [] (by kernel_rfl) (by kernel_rfl) (fun wd hxwd hh => ?_)
        clear hh
        have Hxd := Lib.hid hxwd
        clear hxwd
        iterate 10
          refine X.wpE_still (o := ⟨_, _, _, _, _, _⟩) rfl rfl ?_
          apply Exists.intro
          refine ⟨fun w' hE => ?_, ?_⟩
          · have hE2 := Hxd.out.extN hE
            obtain ⟨c15, c2, c16, c7⟩ := Hcell.out w' hE2
            clear hE2 hE
            go_simp
            rfl
          simp only [Act.put, List.setIfInBounds_toArray, List.set_cons_succ, List.set_cons_zero]
        refine X.wpE_nil ?_
        refine X.wpT_nil ?_
        go_wp2_with fail
        refine X.wp_region_plan 29 [(0, true), (1, true), (2, true), (3, true), (4, true), (5, true), (7, true), (10, true), (11, true), (14, true), (15, true), (16, true), (17, true), (19, true), (21, true), (24, true), (25, true), (6, false), (8, false), (9, true), (12, true), (13, true), (18, true), (20, false), (22, false), (23, true), (26, true), (27, true), (28, true)] [(29, false)] (by kernel_rfl) (by kernel_rfl) (fun wf hxwf hh => ?_)
        clear hh
        have Hxf := Lib.hid (Hxd.out.extN hxwf)
        clear hxwf
        iterate 17
          refine X.wpE_still (o := ⟨_, _, _, _, _, _⟩) rfl rfl ?_
          apply Exists.intro
          refine ⟨fun w' hE => ?_, ?_⟩
          · have hE2 := Hxf.out.extN hE
            obtain ⟨c15, c2, c16, c7⟩ := Hcell.out w' hE2
            clear hE2 hE
            go_simp
            rfl
          simp only [Act.put, List.setIfInBounds_toArray, List.set_cons_succ, List.set_cons_zero]
        refine X.wpE_call (o := ⟨_, _, _, _, _, _⟩) rfl rfl ?_
        apply Exists.intro
        apply Exists.intro
        refine ⟨?_, ?_⟩
        · go_simp
          exact ⟨rfl, rfl⟩
        refine (turned_any x 7 7 7 rfl rfl (by decide) (by decide) _).mono ?_
        rintro e we ⟨rfl, q1, rfl⟩
        refine ⟨_, rfl, (Ext.refl _ _).drewN q1, ?_⟩
        simp only [Act.put, List.setIfInBounds_toArray, List.set_cons_succ, List.set_cons_zero]
        refine X.wpE_call (o := ⟨_, _, _, _, _, _⟩) rfl rfl ?_
        apply Exists.intro
        apply Exists.intro
        refine ⟨?_, ?_⟩
        · go_simp
          exact ⟨rfl, rfl⟩
        refine (turned_any x 18 18 18 rfl rfl (by decide) (by decide) _).mono ?_
        rintro e we ⟨rfl, q2', rfl⟩
        refine ⟨_, rfl, (Ext.refl _ _).drewN q2', ?_⟩
        simp only [Act.put, List.setIfInBounds_toArray, List.set_cons_succ, List.set_cons_zero]
        iterate 4
          refine X.wpE_still (o := ⟨_, _, _, _, _, _⟩) rfl rfl ?_
          apply Exists.intro
          refine ⟨fun w' hE => ?_, ?_⟩
          · have hE2 := Hxf.out.extN (((Ext.refl _ _).drewN q1).extN (((Ext.refl _ _).drewN q2').extN hE))
            obtain ⟨c15, c2, c16, c7⟩ := Hcell.out w' hE2
            clear hE2 hE
            go_simp
            rfl
          simp only [Act.put, List.setIfInBounds_toArray, List.set_cons_succ, List.set_cons_zero]
        refine X.wpE_call (o := ⟨_, _, _, _, _, _⟩) rfl rfl ?_
        apply Exists.intro
        apply Exists.intro
        refine ⟨?_, ?_⟩
        · go_simp
          exact ⟨rfl, rfl⟩
        refine (turned_any y 17 17 17 rfl rfl (by decide) (by decide) _).mono ?_
        rintro e we ⟨rfl, q3, rfl⟩
        refine ⟨_, rfl, (Ext.refl _ _).drewN q3, ?_⟩
        simp only [Act.put, List.setIfInBounds_toArray, List.set_cons_succ, List.set_cons_zero]
        refine X.wpE_call (o := ⟨_, _, _, _, _, _⟩) rfl rfl ?_
        apply Exists.intro
        apply Exists.intro
        refine ⟨?_, ?_⟩
        · go_simp
          exact ⟨rfl, rfl⟩
        refine (turned_any y 19 19 19 rfl rfl (by decide) (by decide) _).mono ?_
        rintro e we ⟨rfl, q4, rfl⟩
        refine ⟨_, rfl, (Ext.refl _ _).drewN q4, ?_⟩
        simp only [Act.put, List.setIfInBounds_toArray, List.set_cons_succ, List.set_cons_zero]
        iterate 4
          refine X.wpE_still (o := ⟨_, _, _, _, _, _⟩) rfl rfl ?_
          apply Exists.intro
          refine ⟨fun w' hE => ?_, ?_⟩
          · have hE2 := Hxf.out.extN (((Ext.refl _ _).drewN q1).extN (((Ext.refl _ _).drewN q2').extN (((Ext.refl _ _).drewN q3).extN (((Ext.refl _ _).drewN q4).extN hE))))
            obtain ⟨c15, c2, c16, c7⟩ := Hcell.out w' hE2
            clear hE2 hE
            go_simp
            rfl
          simp only [Act.put, List.setIfInBounds_toArray, List.set_cons_succ, List.set_cons_zero]
        refine X.wpE_nil ?_
        have hwf : Ext Nil wr ((((wf.drewN q1).drewN q2').drewN q3).drewN q4) := (((Hxf.out.drewN q1).drewN q2').drewN q3).drewN q4
        generalize (((wf.drewN q1).drewN q2').drewN q3).drewN q4 = wg at hwf ⊢
        have hrd := Hrw.out.ext0 hwf
        have hcell : wg.cell? ⟨bk + 1, k, none⟩ = some (.int .u32 0) := hrd.cell (by rw [List.getElem?_append_right (by simp [words_length]), List.length_map, words_length, Nat.sub_self, List.getElem?_replicate, if_pos (by omega)])
        have hfz := hrd.frozen k
        have Hrd := Lib.hid hrd
        have Hwf := Lib.hid hwf
        clear hrd hwf
        obtain ⟨nv, hnv⟩ : ∃ nv : UInt32, nv = a + (rotr x 7 ^^^ rotr x 18 ^^^ x >>> 3) + b + (rotr y 17 ^^^ rotr y 19 ^^^ y >>> 10) := ⟨_, rfl⟩
        have hval : IntKind.u32.wrap (IntKind.u32.wrap (IntKind.u32.wrap ((a.toNat : Int) + bits .xor .u32 (bits .xor .u32 (rotr x 7).toNat (rotr x 18).toNat) ((x.toNat : Int) / 8)) + b.toNat) + bits .xor .u32 (bits .xor .u32 (rotr y 17).toNat (rotr y 19).toNat) ((y.toNat : Int) / 1024)) = (nv.toNat : Int) := by
          rw [s_shr' x 3 (by decide) 8 (by decide), s_shr' y 10 (by decide) 1024 (by decide), s_xor, s_xor, s_xor, s_xor, s_addw, s_addw, s_addw, hnv]
          rfl
        rw [hval]
        have Hnv := Lib.hid hnv
        clear hval hnv
        refine X.wpT_act (o := ⟨_, _, _, _, _, _⟩) rfl rfl ?_
        apply Exists.intro
        refine ⟨?_, ?_⟩
        · go_simp
          rfl
        simp only [Act.put]
        refine X.wpT_nil ?_
        clear q15 q2 q16 q7 n15 n2 n16 n7 p15 p2 p16 p7 b15 b2 b16 b7
        go_wp2
        go_roundw
        case rel =>
          have h1 := Hrd.out.set k (wval nv)
          rw [set_next _ _ _ 64 k (by simp [words_length]) hlt] at h1
          refine ⟨k + 1, by go_num, by omega, (Hxr.out.trans' Hwf.out.nilMono).setCell (fun _ => rfl) _, ?_⟩
          have e : (wordsF l (k + 1)).map wval = (wordsF l k).map wval ++ [wval nv] := by
            rw [Hnv.out, Hx.out, Hy.out, Ha.out, Hb'.out]
            simp [wordsF, h16]
          rw [e]
          exact h1
        case measure => simp [intOf]; omega
    case neg =>
      obtain rfl : k = 64 := by omega
      rw [show (((64 : Nat) : Int)) = 64 from rfl]
      go_wp2_with fail
      obtain ⟨wl, rfl⟩ : ∃ wl, wl = wr := ⟨wr, rfl⟩
      have Hx64 := Lib.hid (Hwb.out _ Hxr.out)
      have hc8 : ∀ w', Ext Nil wl w' → w'.cell? ⟨b0, 0, none⟩ = some (.int .u32 s.a.toNat) ∧ w'.cell? ⟨b0, 1, none⟩ = some (.int .u32 s.b.toNat) ∧ w'.cell? ⟨b0, 2, none⟩ = some (.int .u32 s.c.toNat) ∧ w'.cell? ⟨b0, 3, none⟩ = some (.int .u32 s.d.toNat) ∧ w'.cell? ⟨b0, 4, none⟩ = some (.int .u32 s.e.toNat) ∧ w'.cell? ⟨b0, 5, none⟩ = some (.int .u32 s.f.toNat) ∧ w'.cell? ⟨b0, 6, none⟩ = some (.int .u32 s.g.toNat) ∧ w'.cell? ⟨b0, 7, none⟩ = some (.int .u32 s.h.toNat) := fun w' hx' => by
        have hr := (HR0.out.ext Hxr.out (by have := Hlt.out; omega)).ext0 hx'
        exact ⟨hr.cell rfl, hr.cell rfl, hr.cell rfl, hr.cell rfl, hr.cell rfl, hr.cell rfl, hr.cell rfl, hr.cell rfl⟩
      have HC8 := Lib.hid hc8
      have hckw : ∀ w', Ext Nil wl w' → ∀ i, i < 64 → w'.cell? ⟨bk, i, none⟩ = some (.int .u32 (roundsF.getD i 0).toNat) ∧ w'.cell? ⟨bk + 1, i, none⟩ = some (.int .u32 ((wordsF l 64).getD i 0).toNat) := fun w' hx' i hi => by
        have hr := (HRK.out.ext Hxr.out (by omega)).ext0 hx'
        have hr2 := Hrw.out.ext0 hx'
        refine ⟨hr.cell ?_, hr2.cell ?_⟩
        · rw [List.getElem?_map, List.getD_eq_getElem?_getD, List.getElem?_eq_getElem (show i < roundsF.length from hi)]
          rfl
        · rw [List.getElem?_append_left (by simp [words_length, hi]), List.getElem?_map, List.getD_eq_getElem?_getD, List.getElem?_eq_getElem (by rw [words_length]; exact hi)]
          rfl
      have HCK := Lib.hid hckw
      have H4r := Lib.hid (HR4.out.ext Hxr.out (by have := Hlt.out; omega))
      clear hc8 hckw hk hlt
      refine X.wp_region_plan 24 [(0, true), (1, true), (2, true), (3, true), (4, true), (5, true), (6, true), (7, true), (8, true), (9, true), (10, true), (11, true), (12, true), (13, true), (14, true), (15, true), (16, true), (17, true), (18, true), (19, true), (20, true), (21, true), (22, true), (23, true)] [] (by kernel_rfl) (by kernel_rfl) (fun wd hxwd hh => ?_)
      clear hh
      have Hxd := Lib.hid hxwd
      clear hxwd
      iterate 24
        refine X.wpE_still (o := ⟨_, _, _, _, _, _⟩) rfl rfl ?_
        apply Exists.intro
        refine ⟨fun w' hE => ?_, ?_⟩
        · have hE2 := Hxd.out.extN hE
          obtain ⟨c0, c1, c2, c3, c4, c5, c6, c7⟩ := HC8.out w' hE2
          clear hE2 hE
          go_simp
          rfl
        simp only [Act.put, List.setIfInBounds_toArray, List.set_cons_succ, List.set_cons_zero]
      refine X.wpE_nil ?_
      refine X.wpT_nil ?_
      go_wp2_with fail
      go_loopw [10, 11, 12, 13, 14, 15, 16, 17, 116] (fun sa sb sc sd se sf sg sh t wq => ∃ (k : Nat) (st : S8), t = .int .i64 k ∧ k ≤ 64 ∧ Hid (st = turnsF (wordsF l 64) s k) ∧ Ext Nil wl wq ∧ sa = .int .u32 st.a.toNat ∧ sb = .int .u32 st.b.toNat ∧ sc = .int .u32 st.c.toNat ∧ sd = .int .u32 st.d.toNat ∧ se = .int .u32 st.e.toNat ∧ sf = .int .u32 st.f.toNat ∧ sg = .int .u32 st.g.toNat ∧ sh = .int .u32 st.h.toNat) (fun _ _ _ _ _ _ _ _ t _ => 64 - (intOf t).toNat)
      case atStart => exact ⟨0, s, rfl, by omega, rfl, Hxd.out, rfl, rfl, rfl, rfl, rfl, rfl, rfl, rfl⟩
      case round =>
        obtain ⟨k, st, rfl, hk, Hst, hxq, rfl, rfl, rfl, rfl, rfl, rfl, rfl, rfl⟩ := hrel
        have Hxq := Lib.hid hxq
        clear hxq
        by_cases hlt : k < 64
        case pos =>
          obtain ⟨kk, hkk⟩ : ∃ kk, kk = roundsF.getD k 0 := ⟨_, rfl⟩
          obtain ⟨ww, hww⟩ : ∃ ww, ww = (wordsF l 64).getD k 0 := ⟨_, rfl⟩
          have hcw : ∀ w', Ext Nil _ w' → _ := fun w' h => HCK.out w' h k hlt
          rw [← hkk, ← hww] at hcw
          have HCW := Lib.hid hcw
          have Hkk := Lib.hid hkk
          have Hww := Lib.hid hww
          clear hcw hkk hww
          go_wp2_with fail
          refine X.wp_region_plan 28 [(0, true), (1, true), (3, true), (6, true), (10, true), (11, true), (12, true), (13, true), (14, true), (15, true), (16, true), (17, true), (19, true), (20, true), (21, true), (23, true), (24, true), (25, true), (2, false), (4, false), (5, true), (7, false), (8, true), (9, true), (18, true), (22, true), (26, true), (27, true)] [] (by kernel_rfl) (by kernel_rfl) (fun wf hxwf hh => ?_)
          clear hh
          have Hxf := Lib.hid (Hxq.out.extN hxwf)
          clear hxwf
          iterate 18
            refine X.wpE_still (o := ⟨_, _, _, _, _, _⟩) rfl rfl ?_
            apply Exists.intro
            refine ⟨fun w' hE => ?_, ?_⟩
            · have hE2 := Hxf.out.extN hE
              obtain ⟨ck, cw⟩ := HCW.out w' hE2
              clear hE2 hE
              go_simp
              rfl
            simp only [Act.put, List.setIfInBounds_toArray, List.set_cons_succ, List.set_cons_zero]
          refine X.wpE_call (o := ⟨_, _, _, _, _, _⟩) rfl rfl ?_
          apply Exists.intro
          apply Exists.intro
          refine ⟨?_, ?_⟩
          · go_simp
            exact ⟨rfl, rfl⟩
          refine (turned_any st.e 6 6 6 rfl rfl (by decide) (by decide) _).mono ?_
          rintro e we ⟨rfl, q1, rfl⟩
          refine ⟨_, rfl, (Ext.refl _ _).drewN q1, ?_⟩
          simp only [Act.put, List.setIfInBounds_toArray, List.set_cons_succ, List.set_cons_zero]
          refine X.wpE_call (o := ⟨_, _, _, _, _, _⟩) rfl rfl ?_
          apply Exists.intro
          apply Exists.intro
          refine ⟨?_, ?_⟩
          · go_simp
            exact ⟨rfl, rfl⟩
          refine (turned_any st.e 11 11 11 rfl rfl (by decide) (by decide) _).mono ?_
          rintro e we ⟨rfl, q2, rfl⟩
          refine ⟨_, rfl, (Ext.refl _ _).drewN q2, ?_⟩
          simp only [Act.put, List.setIfInBounds_toArray, List.set_cons_succ, List.set_cons_zero]
          iterate 1
            refine X.wpE_still (o := ⟨_, _, _, _, _, _⟩) rfl rfl ?_
            apply Exists.intro
            refine ⟨fun w' hE => ?_, ?_⟩
            · have hE2 := Hxf.out.extN (((Ext.refl _ _).drewN q1).extN (((Ext.refl _ _).drewN q2).extN hE))
              obtain ⟨ck, cw⟩ := HCW.out w' hE2
              clear hE2 hE
              go_simp
              rfl
            simp only [Act.put, List.setIfInBounds_toArray, List.set_cons_succ, List.set_cons_zero]
          refine X.wpE_call (o := ⟨_, _, _, _, _, _⟩) rfl rfl ?_
          apply Exists.intro
          apply Exists.intro
          refine ⟨?_, ?_⟩
          · go_simp
            exact ⟨rfl, rfl⟩
          refine (turned_any st.e 25 25 25 rfl rfl (by decide) (by decide) _).mono ?_
          rintro e we ⟨rfl, q3, rfl⟩
          refine ⟨_, rfl, (Ext.refl _ _).drewN q3, ?_⟩
          simp only [Act.put, List.setIfInBounds_toArray, List.set_cons_succ, List.set_cons_zero]
          iterate 6
            refine X.wpE_still (o := ⟨_, _, _, _, _, _⟩) rfl rfl ?_
            apply Exists.intro
            refine ⟨fun w' hE => ?_, ?_⟩
            · have hE2 := Hxf.out.extN (((Ext.refl _ _).drewN q1).extN (((Ext.refl _ _).drewN q2).extN (((Ext.refl _ _).drewN q3).extN hE)))
              obtain ⟨ck, cw⟩ := HCW.out w' hE2
              clear hE2 hE
              go_simp
              rfl
            simp only [Act.put, List.setIfInBounds_toArray, List.set_cons_succ, List.set_cons_zero]
          refine X.wpE_nil ?_
          refine X.wpT_nil ?_
          have hwg : Ext Nil wl (((wf.drewN q1).drewN q2).drewN q3) := ((Hxf.out.drewN q1).drewN q2).drewN q3
          generalize ((wf.drewN q1).drewN q2).drewN q3 = wg at hwg ⊢
          have Hwg := Lib.hid hwg
          clear hwg
          obtain ⟨nu, hnu⟩ : ∃ nu : UInt32, nu = st.h + (rotr st.e 6 ^^^ rotr st.e 11 ^^^ rotr st.e 25) + (st.e &&& st.f ^^^ ~~~ st.e &&& st.g) + kk + ww := ⟨_, rfl⟩
          have hval : IntKind.u32.wrap (IntKind.u32.wrap (IntKind.u32.wrap (IntKind.u32.wrap ((st.h.toNat : Int) + bits .xor .u32 (bits .xor .u32 (rotr st.e 6).toNat (rotr st.e 11).toNat) (rotr st.e 25).toNat) + bits .xor .u32 (bits .and .u32 st.e.toNat st.f.toNat) (bits .and .u32 (bits .xor .u32 (if IntKind.u32.signed = true then -1 else IntKind.u32.max) st.e.toNat) st.g.toNat)) + kk.toNat) + ww.toNat) = (nu.toNat : Int) := by
            rw [s_not, s_xor, s_xor, s_and, s_and, s_xor, s_addw, s_addw, s_addw, s_addw, hnu]
          rw [hval]
          have Hnu := Lib.hid hnu
          clear hval hnu
          go_wp2_with fail
          refine (turned_any st.a 2 2 2 rfl rfl (by decide) (by decide) _).mono ?_
          rintro e we ⟨rfl, p1, rfl⟩
          go_wp2_with fail
          refine (turned_any st.a 13 13 13 rfl rfl (by decide) (by decide) _).mono ?_
          rintro e we ⟨rfl, p2, rfl⟩
          go_wp2_with fail
          refine (turned_any st.a 22 22 22 rfl rfl (by decide) (by decide) _).mono ?_
          rintro e we ⟨rfl, p3, rfl⟩
          go_upto_region 17 with (fail)
          obtain ⟨nv, hnv⟩ : ∃ nv : UInt32, nv = (rotr st.a 2 ^^^ rotr st.a 13 ^^^ rotr st.a 22) + (st.a &&& st.b ^^^ st.a &&& st.c ^^^ st.b &&& st.c) := ⟨_, rfl⟩
          have hval : (bits .xor .u32 (bits .xor .u32 (rotr st.a 2).toNat (rotr st.a 13).toNat) (rotr st.a 22).toNat + bits .xor .u32 (bits .xor .u32 (bits .and .u32 st.a.toNat st.b.toNat) (bits .and .u32 st.a.toNat st.c.toNat)) (bits .and .u32 st.b.toNat st.c.toNat)) % 4294967296 = (nv.toNat : Int) := by
            rw [s_xor, s_xor, s_and, s_and, s_and, s_xor, s_xor, s_add, hnv]
          rw [hval]
          have Hnv := Lib.hid hnv
          clear hval hnv
          go_wp2
          go_roundw
          case rel =>
            refine ⟨k + 1, roundF kk ww st, by go_num, by omega, ?_, ?_, ?_, rfl, rfl, rfl, ?_, rfl, rfl, rfl⟩
            · show _ = _
              rw [Hkk.out, Hww.out, Hst.out]; rfl
            · exact Hwg.out.drewN _
            · rw [s_add, Hnu.out, Hnv.out]; rfl
            · rw [s_add, Hnu.out]; rfl
          case measure => simp [intOf]; omega
        case neg =>
          obtain rfl : k = 64 := by omega
          obtain ⟨c0, c1, c2, c3, c4, c5, c6, c7⟩ := HC8.out _ Hxq.out
          have H4q := Lib.hid (H4r.out.ext0 Hxq.out)
          clear hk hlt
          have d0 := H4q.out.cell (i := 0) rfl
          have d1 := H4q.out.cell (i := 1) rfl
          have d2 := H4q.out.cell (i := 2) rfl
          have d3 := H4q.out.cell (i := 3) rfl
          have d4 := H4q.out.cell (i := 4) rfl
          have d5 := H4q.out.cell (i := 5) rfl
          have d6 := H4q.out.cell (i := 6) rfl
          have d7 := H4q.out.cell (i := 7) rfl
          have hf := H4q.out.frozen
          go_wp2
          have hrow := ((((((((((((((((H4q.out).set 0 (.int .u32 (((s.a.toNat : Int) + st.a.toNat) % 4294967296)))).set 1 (.int .u32 (((s.b.toNat : Int) + st.b.toNat) % 4294967296)))).set 2 (.int .u32 (((s.c.toNat : Int) + st.c.toNat) % 4294967296)))).set 3 (.int .u32 (((s.d.toNat : Int) + st.d.toNat) % 4294967296)))).set 4 (.int .u32 (((s.e.toNat : Int) + st.e.toNat) % 4294967296)))).set 5 (.int .u32 (((s.f.toNat : Int) + st.f.toNat) % 4294967296)))).set 6 (.int .u32 (((s.g.toNat : Int) + st.g.toNat) % 4294967296)))).set 7 (.int .u32 (((s.h.toNat : Int) + st.h.toNat) % 4294967296)))
          have hrow2 : Row _ (b0 + 1) _ [.int .u32 (((s.a.toNat : Int) + st.a.toNat) % 4294967296), .int .u32 (((s.b.toNat : Int) + st.b.toNat) % 4294967296), .int .u32 (((s.c.toNat : Int) + st.c.toNat) % 4294967296), .int .u32 (((s.d.toNat : Int) + st.d.toNat) % 4294967296), .int .u32 (((s.e.toNat : Int) + st.e.toNat) % 4294967296), .int .u32 (((s.f.toNat : Int) + st.f.toNat) % 4294967296), .int .u32 (((s.g.toNat : Int) + st.g.toNat) % 4294967296), .int .u32 (((s.h.toNat : Int) + st.h.toNat) % 4294967296)] := hrow
          have hfin : [.int .u32 (((s.a.toNat : Int) + st.a.toNat) % 4294967296), .int .u32 (((s.b.toNat : Int) + st.b.toNat) % 4294967296), .int .u32 (((s.c.toNat : Int) + st.c.toNat) % 4294967296), .int .u32 (((s.d.toNat : Int) + st.d.toNat) % 4294967296), .int .u32 (((s.e.toNat : Int) + st.e.toNat) % 4294967296), .int .u32 (((s.f.toNat : Int) + st.f.toNat) % 4294967296), .int .u32 (((s.g.toNat : Int) + st.g.toNat) % 4294967296), .int .u32 (((s.h.toNat : Int) + st.h.toNat) % 4294967296)] = (pieceF s l).list.map wval := by
            rw [s_add, s_add, s_add, s_add, s_add, s_add, s_add, s_add, Hst.out]; rfl
          rw [hfin] at hrow2
          have hnew : ∀ {p : Addr}, p.block = b0 + 1 → p.block < w.heap.size → Nil p.block := fun h1 h2 => by have := Hb0.out; omega
          exact bodyPost_ret (results_row (b := b0 + 1) (C := (pieceF s l).list.map wval) rfl rfl aWords hrow2 rfl) rfl ⟨rfl, (((((((((Hx64.out.extN Hxq.out).setCell (hnew rfl) _).setCell (hnew rfl) _).setCell (hnew rfl) _).setCell (hnew rfl) _).setCell (hnew rfl) _).setCell (hnew rfl) _).setCell (hnew rfl) _).setCell (hnew rfl) _)⟩
end Go.Proofs.YtggiknehmoaimaaGreatDoor
