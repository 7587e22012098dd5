/-
  SHA-256 of the program: what a Digest holds; New.
-/
import Derived.Test.YtggiknehmoaimaaGreatDoorBytes
import Derived.Deep.DeepCutAuto
namespace Go.Proofs.YtggiknehmoaimaaGreatDoor
open Go Go.RowKit Go.X

theorem set_last {α : Type} (A : List α) (a b : α) (n : Nat) (h : A.length = n) : (A ++ [a]).set n b = A ++ [b] := by
  subst h; rw [List.set_append_right _ _ (Nat.le_refl _), Nat.sub_self]; rfl
theorem slice_rest (d : Nat) (w : World) : (Instr.sliceAt 264 (.pointer (some ⟨d, 8, none⟩)) none none none).run Tryz.prog w = .ok (.slice (some ⟨d, 8, none⟩) 64 64) w := by
  have hal : Tryz.prog.arrayLen 264 = 64 := by kernel_rfl
  rw [run_sliceAt_array_all w 264 ⟨d, 8, none⟩ (by kernel_rfl), hal]
  have hs : (sizeOf (Tryz.prog.elem 264)).run Tryz.prog w = .ok 1 w := by kernel_rfl
  rw [hs]
  simp [Result.andThen, slicedAt, X.add_lit]
/-- A Digest that took in the bytes B. -/
def DigestIs (w : World) (d : Nat) (B : Bytes) : Prop :=
  ∃ R : Bytes, R.length = 64 ∧ R.take (B.length % 64) = B.drop (64 * (B.length / 64)) ∧ Row w d 266 ((piecesF beginsF B (B.length / 64)).list.map wval ++ bv R ++ [.int .i64 B.length])

set_option maxRecDepth 100000 in
set_option maxHeartbeats 1000000 in
theorem digest_new (w : World) : Calls Tryz.prog 135 #[] w fun e w' => ∃ d, e = .returned (.pointer (some ⟨d, 0, none⟩)) ∧ w.heap.size ≤ d ∧ DigestIs w' d [] ∧ Ext Nil w w' := by
  go_enter Tryz.func135, Tryz.ntmps135
  go_wp2_with fail
  refine (begins_any _).mono ?_
  rintro e w1 ⟨rfl, hx1⟩
  go_wp2
  go_ret
  have hrow := row_alloc w1 (List.foldl (fun cs x => cs.setIfInBounds x.snd x.fst) Tryz.zeroCells266 (List.map wval beginsF.list).zipIdx) 266
  have hc : (List.foldl (fun cs x => cs.setIfInBounds x.snd x.fst) Tryz.zeroCells266 (List.map wval beginsF.list).zipIdx).toList = (piecesF beginsF [] (0 / 64)).list.map wval ++ bv (List.replicate 64 0) ++ [.int .i64 0] := by kernel_rfl
  rw [hc] at hrow
  exact ⟨w1.heap.size, rfl, hx1.size, ⟨List.replicate 64 0, rfl, rfl, hrow⟩, hx1.alloc _⟩

set_option maxRecDepth 100000 in
set_option maxHeartbeats 4000000 in
theorem digest_write {w : World} {d : Nat} {B l : Bytes} {v : Value} (h : DigestIs w d B) (hv : BytesIn w v l) (hn : l ≠ [] → ∀ b, v.ownBlock = some b → b ≠ d) (hb : B.length + l.length ≤ 1152921504606846976) :
    Calls Tryz.prog 136 #[.pointer (some ⟨d, 0, none⟩), v] w fun e w' => e = .returned (.tuple #[]) ∧ DigestIs w' d (B ++ l) ∧ Ext (fun b => b = d) w w' := by
  obtain ⟨R, hR, hRp, hrow⟩ := h
  obtain ⟨ad, cp, rfl, hcp, hby⟩ := hv
  have hrl := hrow.lt
  have n0 : w.cell? ⟨d, 72, none⟩ = some (.int .i64 B.length) := hrow.cell (by
    rw [List.getElem?_append_right (by simp [S8.list, bv, hR])]
    simp [S8.list, bv, hR])
  have fz := hrow.frozen
  have Hrow := Lib.hid hrow
  have Hby := Lib.hid hby
  have Hn := Lib.hid hn
  have HRp := Lib.hid hRp
  have HR := Lib.hid hR
  clear hrow hby hn hRp hR
  go_enter Tryz.func136, Tryz.ntmps136
  go_upto_if 21 with (fail)
  go_cut [1] (fun v wr => ∃ (j : Nat) (R' : Bytes) (adj : Option Addr) (cj : Nat), v = .slice adj (l.length - j) cj ∧ j ≤ l.length ∧ (B.length + j) % 64 = 0 ∧ BytesIn w (.slice adj (l.length - j) cj) (l.drop j) ∧ (l.drop j ≠ [] → ∀ b, (Value.slice adj (l.length - j) cj).ownBlock = some b → b ≠ d) ∧ R'.length = 64 ∧ Ext (fun b => b = d) w wr ∧
      Row wr d 266 ((piecesF beginsF (B ++ l.take j) ((B ++ l.take j).length / 64)).list.map wval ++ bv R' ++ [Value.int .i64 ((B.length : Int) + l.length)]))
  case first =>
    have Hn0 : Hid (Row (w.setCell ⟨d, 72, none⟩ (.int .i64 ((B.length : Int) + l.length))) d 266 ((piecesF beginsF B (B.length / 64)).list.map wval ++ bv R ++ [Value.int .i64 ((B.length : Int) + l.length)])) := by
      have := Hrow.out.set 72 (.int .i64 ((B.length : Int) + l.length))
      rwa [set_last _ _ _ 72 (by simp [S8.list, bv, HR.out])] at this
    have Hx1 : Hid (Ext (fun b => b = d) w (w.setCell ⟨d, 72, none⟩ (.int .i64 ((B.length : Int) + l.length)))) := (Ext.refl (fun b => b = d) w).setCell (fun _ => rfl) _
    generalize w.setCell ⟨d, 72, none⟩ (.int .i64 ((B.length : Int) + l.length)) = w1 at Hn0 Hx1 ⊢
    clear n0 fz
    by_cases hf : B.length % 64 = 0
    case pos =>
      have e1 : (B.length : Int) % 64 = 0 := by omega
      go_wp2_with fail
      go_meet
      exact ⟨0, R, ad, cp, rfl, by omega, by omega, ⟨ad, cp, by simp, by simpa using hcp, by simpa using Hby.out⟩, by simpa using Hn.out, HR.out, Hx1.out, by simpa using Hn0.out⟩
    case neg =>
      have hF1 : 0 < (B.length : Int) % 64 := by omega
      have hF2 : (B.length : Int) % 64 < 64 := by omega
      have hsA : ∀ w', (Instr.sliceAt 264 (.pointer (some ⟨d, 8, none⟩)) (some (.int .i64 ((B.length : Int) % 64))) none none).run Tryz.prog w' = .ok (.slice (some ⟨d, 8 + B.length % 64, none⟩) (64 - B.length % 64) (64 - B.length % 64)) w' := by
        intro w'
        have hal : Tryz.prog.arrayLen 264 = 64 := by kernel_rfl
        rw [run_sliceAt_array_l w' 264 ⟨d, 8, none⟩ (by kernel_rfl) .i64 _ (by omega) (by rw [hal]; omega), hal]
        have hs : (sizeOf (Tryz.prog.elem 264)).run Tryz.prog w' = .ok 1 w' := by kernel_rfl
        rw [hs]
        simp only [Result.andThen, slicedAt]
        have e : ((B.length : Int) % 64).toNat = B.length % 64 := by omega
        rw [e, if_neg (by omega)]
        simp [X.add_lit]
      obtain ⟨n, hn⟩ : ∃ n, n = Nat.min l.length (64 - B.length % 64) := ⟨_, rfl⟩
      have hn1 : n ≤ l.length := by rw [hn]; exact Nat.min_le_left _ _
      have hn2 : n ≤ 64 - B.length % 64 := by rw [hn]; exact Nat.min_le_right _ _
      have hbw : BytesIn w (.slice ad l.length cp) l := ⟨ad, cp, rfl, hcp, Hby.out⟩
      have hb1 : BytesIn w1 (.slice ad l.length cp) l := hbw.ext Hx1.out fun h0 b hb e => Hn.out h0 b hb e
      obtain ⟨wc, hcp2, hrc, hxc⟩ := Go.X.run_copy_any (P := Tryz.prog) (off := 8 + B.length % 64) (dLen := 64 - B.length % 64) (dCap := 64 - B.length % 64) 29 29 3 Tryz.underlying29 (by kernel_rfl) Hn0.out hb1 n hn (by simp [S8.list, bv, HR.out]; omega)
      have hlt : (l.take n).length = n := by rw [List.length_take, Nat.min_eq_left hn1]
      have h2 := Go.X.rest_row (S := (piecesF beginsF B (B.length / 64)).list.map wval) (R := R) (x := l.take n) (z := .int .i64 ((B.length : Int) + l.length)) (f := B.length % 64) (by simp [S8.list]) HR.out (by omega)
      rw [hlt] at h2
      rw [h2] at hrc
      have hsl := fun w' => X.run_slice (P := Tryz.prog) elB ad l.length cp n l.length (some (.int .i64 n)) none (.inr ⟨_, rfl⟩) (.inl ⟨rfl, rfl⟩) hn1 hcp w'
      obtain ⟨ad5, c5, h5⟩ : ∃ ad5 c5, cutV ad 1 n l.length cp = .slice ad5 (l.length - n) c5 := ⟨_, _, rfl⟩
      rw [h5] at hsl
      have hcut := Go.X.bytesIn_cut hbw hn1
      rw [h5] at hcut
      have H5 := Lib.hid h5
      have Hcut := Lib.hid hcut
      have Hrc := Lib.hid hrc
      have Hxc := Lib.hid (Hx1.out.trans' hxc)
      have Hbw := Lib.hid hbw
      have Hnn := Lib.hid hn
      have HF : Hid (0 < B.length % 64) := by show 0 < B.length % 64; omega
      clear hbw hb1 hcut h5 h2 hrc hxc hn hf
      by_cases hs : B.length % 64 + n < 64
      case pos =>
        have hs' : (B.length : Int) % 64 + n < 64 := by omega
        go_wp2_with fail
        refine bodyPost_ret_by (v := .tuple #[]) (results_none rfl _ _ _) rfl ⟨rfl, ?_, Hxc.out⟩
        have en : n = l.length := by have h3 : n = min l.length (64 - B.length % 64) := Hnn.out; omega
        have e1 : (B ++ l).length / 64 = B.length / 64 := by rw [List.length_append]; omega
        have e2 : (B ++ l).length % 64 = B.length % 64 + l.length := by rw [List.length_append]; omega
        have e3 : (R.take (B.length % 64)).length = B.length % 64 := by rw [List.length_take, HR.out]; omega
        refine ⟨R.take (B.length % 64) ++ l.take n ++ R.drop (B.length % 64 + n), ?_, ?_, ?_⟩
        · rw [List.length_append, List.length_append, e3, hlt, List.length_drop, HR.out]; omega
        · rw [e2, e1, List.take_append_of_le_length (by rw [List.length_append, e3, hlt, en]; omega), List.take_of_length_le (by rw [List.length_append, e3, hlt, en]; omega), HRp.out, List.drop_append_of_le_length (by omega), en, List.take_length]
        · rw [e1, Go.X.pieces_app _ _ _ _ (by omega), show ((B ++ l).length : Int) = (B.length : Int) + l.length by rw [List.length_append]; rfl]
          exact Hrc.out
      case neg =>
        have hs' : ¬ (B.length : Int) % 64 + n < 64 := by omega
        have Hen : Hid (B.length % 64 + n = 64) := by show B.length % 64 + n = 64; omega
        have hX : (R.take (B.length % 64) ++ l.take n ++ R.drop (B.length % 64 + n)).length = 64 := by
          rw [List.length_append, List.length_append, List.length_take, HR.out, hlt, List.length_drop, HR.out]; omega
        have hXe : R.take (B.length % 64) ++ l.take n ++ R.drop (B.length % 64 + n) = R.take (B.length % 64) ++ l.take n := by rw [Hen.out, List.drop_eq_nil_of_le (by rw [HR.out]; exact Nat.le_refl _), List.append_nil]
        have HX := Lib.hid hX
        have HXe := Lib.hid hXe
        clear hX hXe
        have hs2 : decide ((B.length : Int) % 64 + n < 64) = false := by simp; omega
        clear hs hs' hn2
        go_wp2_with fail
        refine X.wp_region_plan 12 [(0, true), (1, true), (2, true), (3, true), (4, true), (5, true), (6, true), (7, true), (8, true), (9, false), (10, true), (11, true)] [(12, false)] (by kernel_rfl) (by kernel_rfl) (fun wd hxwd hh => ?_)
        clear hh
        have Hrd := Lib.hid (Hrc.out.ext0 hxwd)
        have Hxd := Lib.hid (Hxc.out.trans' hxwd.nilMono)
        clear hxwd
        iterate 4
          refine X.wpE_still (o := ⟨_, _, _, _, _, _⟩) rfl rfl ?_
          apply Exists.intro
          refine ⟨fun w' hE => ?_, ?_⟩
          · go_simp
            rfl
          simp only [Act.put, List.setIfInBounds_toArray, List.set_cons_succ, List.set_cons_zero]
        refine X.wpE_still (o := ⟨_, _, _, _, _, _⟩) rfl rfl ?_
        refine ⟨.agg ((piecesF beginsF B (B.length / 64)).list.map wval).toArray, fun w' hE => ?_, ?_⟩
        · exact X.exec_load (off := 0) rfl rfl aWords (Hrd.out.ext0 hE) (by simp [S8.list, bv])
        simp only [Act.put, List.setIfInBounds_toArray, List.set_cons_succ, List.set_cons_zero]
        iterate 3
          refine X.wpE_still (o := ⟨_, _, _, _, _, _⟩) rfl rfl ?_
          apply Exists.intro
          refine ⟨fun w' hE => ?_, ?_⟩
          · go_simp
            rfl
          simp only [Act.put, List.setIfInBounds_toArray, List.set_cons_succ, List.set_cons_zero]
        refine X.wpE_still (o := ⟨_, _, _, _, _, _⟩) rfl rfl ?_
        refine ⟨.slice (some ⟨d, 8, none⟩) 64 64, fun w' hE => X.exec_slice_arr rfl rfl (slice_rest d) w', ?_⟩
        simp only [Act.put, List.setIfInBounds_toArray, List.set_cons_succ, List.set_cons_zero]
        refine X.wpE_call (o := ⟨_, _, _, _, _, _⟩) rfl rfl ?_
        apply Exists.intro
        apply Exists.intro
        refine ⟨?_, ?_⟩
        · go_simp
          exact ⟨rfl, rfl⟩
        have hbt := Go.X.row_bytes (n := 8) Hrd.out (by simp [S8.list])
        rw [HX.out] at hbt
        refine (piece_any hbt HX.out).mono ?_
        rintro e w3 ⟨rfl, hx3⟩
        refine ⟨_, rfl, hx3, ?_⟩
        simp only [Act.put, List.setIfInBounds_toArray, List.set_cons_succ, List.set_cons_zero]
        iterate 2
          refine X.wpE_still (o := ⟨_, _, _, _, _, _⟩) rfl rfl ?_
          apply Exists.intro
          refine ⟨fun w' hE => ?_, ?_⟩
          · go_simp
            rfl
          simp only [Act.put, List.setIfInBounds_toArray, List.set_cons_succ, List.set_cons_zero]
        refine X.wpE_nil ?_
        have hr3 := Hrd.out.ext0 hx3
        refine X.wpT_act (o := ⟨_, _, _, _, _, _⟩) rfl rfl ⟨_, X.exec_store (off := 0) rfl rfl rfl aWords hr3 (by simp [S8.list, bv]) (by simp [S8.list]) (one_u32 _), ?_⟩
        have Hr3 := Lib.hid hr3
        have Hx3 := Lib.hid (Hxd.out.trans' hx3.nilMono)
        clear hr3 hx3 hbt
        simp only [Act.put]
        refine X.wpT_nil ?_
        refine Go.X.store_world (Φ := fun W => Exit.then _ _ _ _ W) Hr3.out ?_
        intro W4 hW4 hxW4
        have hr4 : Row W4 d 266 ((piecesF beginsF (B ++ l.take n) ((B ++ l.take n).length / 64)).list.map wval ++ bv (R.take (B.length % 64) ++ l.take n ++ R.drop (B.length % 64 + n)) ++ [Value.int .i64 ((B.length : Int) + l.length)]) := by
          have hp := Go.X.pieces_fill (s := beginsF) Hen.out hn1 HRp.out
          rw [← HXe.out] at hp
          rw [hp]
          have h1 := hW4
          have e8 : List.drop (0 + 8) ((piecesF beginsF B (B.length / 64)).list.map wval ++ bv (R.take (B.length % 64) ++ l.take n ++ R.drop (B.length % 64 + n)) ++ [Value.int .i64 ((B.length : Int) + l.length)]) = bv (R.take (B.length % 64) ++ l.take n ++ R.drop (B.length % 64 + n)) ++ [Value.int .i64 ((B.length : Int) + l.length)] := by
            rw [List.append_assoc, List.drop_append_of_le_length (by simp [S8.list])]
            simp [S8.list]
          rw [e8, List.take_zero, List.nil_append, ← List.append_assoc] at h1
          exact h1
        have Hr4 := Lib.hid hr4
        have Hx4 := Lib.hid (Hx3.out.trans' hxW4)
        clear hr4 hxW4 hW4
        go_wp2_with fail
        go_meet
        refine ⟨n, _, ad5, c5, rfl, hn1, by have := Hen.out; omega, Hcut.out, fun h0 b hb e => ?_, HX.out, Hx4.out, Hr4.out⟩
        rw [← H5.out] at hb
        obtain ⟨x, hx1, hx2⟩ := X.cutV_block hb
        exact Hn.out (fun e0 => h0 (by rw [e0]; simp)) b (by rw [hx1]; simp [Value.ownBlock, hx2]) e
  case rest =>
    go_wp2_with fail
    go_loopw [1] (fun v wr => ∃ (j : Nat) (R' : Bytes) (adj : Option Addr) (cj : Nat), v = .slice adj (l.length - j) cj ∧ j ≤ l.length ∧ (B.length + j) % 64 = 0 ∧ BytesIn w (.slice adj (l.length - j) cj) (l.drop j) ∧ (l.drop j ≠ [] → ∀ b, (Value.slice adj (l.length - j) cj).ownBlock = some b → b ≠ d) ∧ R'.length = 64 ∧ Ext (fun b => b = d) w wr ∧
      Row wr d 266 ((piecesF beginsF (B ++ l.take j) ((B ++ l.take j).length / 64)).list.map wval ++ bv R' ++ [Value.int .i64 ((B.length : Int) + l.length)])) (fun v _ => match v with | .slice _ n _ => n | _ => 0)
    case atStart => exact hcut
    case round =>
      obtain ⟨j, R', adj, cj, rfl, hj, hmod, hby, hne, hR', hxr, hrow⟩ := hrel
      have Hby' := Lib.hid hby
      have Hne' := Lib.hid hne
      have HR' := Lib.hid hR'
      have Hxr := Lib.hid hxr
      have Hrow' := Lib.hid hrow
      clear hby hne hR' hxr hrow
      by_cases h64 : 64 ≤ l.length - j
      case pos =>
        have h64' : 64 ≤ ((l.length - j : Nat) : Int) := by omega
        have hcut := Go.X.bytesIn_cut (k := 64) (l := l.drop j) (by have := Hby'.out; rwa [← List.length_drop] at this) (by rw [List.length_drop]; exact h64)
        rw [List.length_drop] at hcut
        have Hcut := Lib.hid hcut
        clear hcut
        go_wp2_with fail
        refine X.wp_region_plan 10 [(0, true), (1, true), (2, true), (3, true), (4, true), (5, true), (6, true), (7, false), (8, true), (9, true)] [(10, false)] (by kernel_rfl) (by kernel_rfl) (fun wd hxwd hh => ?_)
        clear hh
        have Hrd := Lib.hid (Hrow'.out.ext0 hxwd)
        have Hxd := Lib.hid hxwd
        clear hxwd
        iterate 4
          refine X.wpE_still (o := ⟨_, _, _, _, _, _⟩) rfl rfl ?_
          apply Exists.intro
          refine ⟨fun w' hE => ?_, ?_⟩
          · go_simp
            rfl
          simp only [Act.put, List.setIfInBounds_toArray, List.set_cons_succ, List.set_cons_zero]
        refine X.wpE_still (o := ⟨_, _, _, _, _, _⟩) rfl rfl ?_
        refine ⟨.agg ((piecesF beginsF (B ++ l.take j) ((B ++ l.take j).length / 64)).list.map wval).toArray, fun w' hE => ?_, ?_⟩
        · exact X.exec_load (off := 0) rfl rfl aWords (Hrd.out.ext0 hE) (by simp [S8.list, bv, HR'.out])
        simp only [Act.put, List.setIfInBounds_toArray, List.set_cons_succ, List.set_cons_zero]
        refine X.wpE_still (o := ⟨_, _, _, _, _, _⟩) rfl rfl ?_
        apply Exists.intro
        refine ⟨fun w' hE => ?_, ?_⟩
        · go_simp
          rfl
        simp only [Act.put, List.setIfInBounds_toArray, List.set_cons_succ, List.set_cons_zero]
        have hcj : l.length - j ≤ cj := by
          obtain ⟨_, _, e, h, _⟩ := Hby'.out
          injection e with _ _ e
          subst e
          rw [List.length_drop] at h
          exact h
        refine X.wpE_still (o := ⟨_, _, _, _, _, _⟩) rfl rfl ?_
        refine ⟨cutV adj 1 0 64 cj, fun w' hE => X.exec_slice (h := 64) rfl elB rfl (.inl ⟨rfl, rfl⟩) (.inr ⟨_, rfl⟩) (by omega) (by omega) w', ?_⟩
        simp only [Act.put, List.setIfInBounds_toArray, List.set_cons_succ, List.set_cons_zero]
        refine X.wpE_call (o := ⟨_, _, _, _, _, _⟩) rfl rfl ?_
        apply Exists.intro
        apply Exists.intro
        refine ⟨?_, ?_⟩
        · go_simp
          exact ⟨rfl, rfl⟩
        have hbt : BytesIn wd (cutV adj 1 0 64 cj) ((l.drop j).take 64) := by
          have h1 := Go.X.bytesIn_take (k := 64) Hby'.out (by rw [List.length_drop]; exact h64)
          refine (h1.ext Hxr.out fun h0 b hb e => ?_).ext0 Hxd.out
          obtain ⟨x, hx1, hx2⟩ := X.cutV_block hb
          exact Hne'.out (fun e0 => h0 (by rw [e0]; rfl)) b (by rw [hx1]; simp [Value.ownBlock, hx2]) e
        refine (piece_any hbt (by rw [List.length_take, List.length_drop]; omega)).mono ?_
        rintro e w3 ⟨rfl, hx3⟩
        refine ⟨_, rfl, hx3, ?_⟩
        simp only [Act.put, List.setIfInBounds_toArray, List.set_cons_succ, List.set_cons_zero]
        iterate 2
          refine X.wpE_still (o := ⟨_, _, _, _, _, _⟩) rfl rfl ?_
          apply Exists.intro
          refine ⟨fun w' hE => ?_, ?_⟩
          · go_simp
            rfl
          simp only [Act.put, List.setIfInBounds_toArray, List.set_cons_succ, List.set_cons_zero]
        refine X.wpE_nil ?_
        have hr3 := Hrd.out.ext0 hx3
        refine X.wpT_act (o := ⟨_, _, _, _, _, _⟩) rfl rfl ⟨_, X.exec_store (off := 0) rfl rfl rfl aWords hr3 (by simp [S8.list, bv, HR'.out]) (by simp [S8.list]) (one_u32 _), ?_⟩
        have Hr3 := Lib.hid hr3
        have Hx3 := Lib.hid hx3
        clear hr3 hx3 hbt
        simp only [Act.put]
        refine X.wpT_nil ?_
        refine Go.X.store_world (Φ := fun W => Exit.then _ _ _ _ W) Hr3.out ?_
        intro W4 hW4 hxW4
        have hr4 : Row W4 d 266 ((piecesF beginsF (B ++ l.take (j + 64)) ((B ++ l.take (j + 64)).length / 64)).list.map wval ++ bv R' ++ [Value.int .i64 ((B.length : Int) + l.length)]) := by
          have h1 := hW4
          have e : B ++ l.take (j + 64) = (B ++ l.take j) ++ (l.drop j).take 64 := by rw [List.append_assoc, ← List.take_add]
          have hx : ((l.drop j).take 64).length = 64 := by rw [List.length_take, List.length_drop]; omega
          have hm : (B ++ l.take j).length % 64 = 0 := by rw [List.length_append, List.length_take, Nat.min_eq_left hj]; exact hmod
          have hlen : (B ++ l.take j).length = B.length + j := by rw [List.length_append, List.length_take, Nat.min_eq_left hj]
          rw [e, Go.X.pieces_step _ _ _ hm hx, hlen]
          rw [hlen] at h1
          have e8 : List.drop (0 + 8) ((piecesF beginsF (B ++ l.take j) ((B.length + j) / 64)).list.map wval ++ bv R' ++ [Value.int .i64 ((B.length : Int) + l.length)]) = bv R' ++ [Value.int .i64 ((B.length : Int) + l.length)] := by
            rw [List.append_assoc, List.drop_append_of_le_length (by simp [S8.list])]
            simp [S8.list]
          rw [e8, List.take_zero, List.nil_append, ← List.append_assoc] at h1
          exact h1
        have hx4 : Ext (fun b => b = d) w W4 := (Hxr.out.trans' (Hxd.out.extN Hx3.out).nilMono).trans' hxW4
        have Hr4 := Lib.hid hr4
        have Hx4 := Lib.hid hx4
        clear hW4 hxW4 hr4 hx4 Hr3 Hx3 Hrd Hxd
        have hsl := fun w' => X.run_slice (P := Tryz.prog) elB adj (l.length - j) cj 64 (l.length - j) (some (.int .i64 64)) none (.inr ⟨_, rfl⟩) (.inl ⟨rfl, rfl⟩) h64 hcj w'
        obtain ⟨ad5, c5, h5⟩ : ∃ ad5 c5, cutV adj 1 64 (l.length - j) cj = .slice ad5 (l.length - (j + 64)) c5 := ⟨_, _, by unfold cutV; rw [show l.length - j - 64 = l.length - (j + 64) by omega]⟩
        rw [h5] at hsl
        have H5 := Lib.hid h5
        clear h5
        go_wp2
        go_roundw
        case rel =>
          refine ⟨j + 64, R', ad5, c5, rfl, by omega, by omega, ?_, ?_, HR'.out, Hx4.out, Hr4.out⟩
          · have := Hcut.out
            rw [H5.out, List.drop_drop] at this
            exact this
          · intro h0 b hb
            rw [← H5.out] at hb
            obtain ⟨x, hx1, hx2⟩ := X.cutV_block hb
            exact Hne'.out (fun e0 => h0 (by rw [← List.drop_drop, e0]; rfl)) b (by rw [hx1]; simp [Value.ownBlock, hx2])
        case measure => show l.length - (j + 64) < l.length - j; omega
      case neg =>
        have h64' : ¬ 64 ≤ ((l.length - j : Nat) : Int) := by omega
        have hbr : BytesIn wr (.slice adj (l.length - j) cj) (l.drop j) := Hby'.out.ext Hxr.out fun h0 b hb e => Hne'.out h0 b hb e
        rw [← List.length_drop] at hbr
        obtain ⟨wc, hcp2, hrc, hxc⟩ := Go.X.run_copy_any (P := Tryz.prog) (sp := adj) (sCap := cj) (off := 8) (dLen := 64) (dCap := 64) 29 29 3 Tryz.underlying29 (by kernel_rfl) Hrow'.out (l := l.drop j) hbr (l.length - j) (by rw [List.length_drop]; exact (Nat.min_eq_left (by omega)).symm) (by simp [S8.list, bv, HR'.out]; omega)
        rw [List.length_drop] at hcp2
        have Hrc := Lib.hid hrc
        have Hxc := Lib.hid hxc
        clear hrc hxc
        go_wp2
        refine bodyPost_end (v := .tuple #[]) (results_none rfl _ _ _) rfl ⟨rfl, ?_, Hxr.out.trans' Hxc.out⟩
        obtain ⟨l1, l2, l3, l4⟩ := Go.X.left_over (B := B) (l := l) (j := j) hj hmod (by omega)
        have hdl : (l.drop j).length = l.length - j := List.length_drop
        refine ⟨l.drop j ++ R'.drop (l.length - j), by rw [List.length_append, List.length_drop, List.length_drop, HR'.out]; omega, ?_, ?_⟩
        · rw [l2, l3, ← hdl, List.take_left]
        · rw [l4]
          have h1 := Hrc.out
          rw [← hdl, List.take_length] at h1
          have h2 := Go.X.rest_row (S := (piecesF beginsF (B ++ l.take j) ((B ++ l.take j).length / 64)).list.map wval) (R := R') (x := l.drop j) (z := .int .i64 ((B.length : Int) + l.length)) (f := 0) (by simp [S8.list]) HR'.out (by omega)
          rw [show 8 + 0 = 8 from rfl, Nat.zero_add, List.take_zero, List.nil_append] at h2
          rw [h2, hdl] at h1
          rw [show ((B ++ l).length : Int) = (B.length : Int) + l.length by rw [List.length_append]; rfl]
          exact h1
end Go.Proofs.YtggiknehmoaimaaGreatDoor
