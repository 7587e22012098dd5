/-
  A pair of meshes: one step. (Printed by gen_step.py.)
-/
import Derived.Test.YtbpjgdmmijehnaaDoorTake
namespace Go.Proofs.YtbpjgdmmijehnaaDoor
open Go.RowKit Go.X

section
variable {w w' w0 w1 w2 : World} {m r bk : Nat} {n : Int} {R R' : Lk → List (List UInt8)} {F G Fp K : Nat → Prop} {os : List Out} {q : Int} {vo vw idle : Value} {v : Value} {e : Ending}
theorem stepped_two (h : Half w0 m r n R R Fp) (hx1 : Ext Fp w0 w1) (h2 : Half w2 m r n R' R' (Grow (Grow Fp w0 w1) w1 w2)) (hx2 : Ext (Grow Fp w0 w1) w1 w2) (hfew : Few R') : Stepped v w0 m r n Fp (.returned v) w2 := by
  have s1 := hx1.size
  have s2 := hx2.size
  refine ⟨rfl, ⟨R', hfew, h2.wide (fun b hb => grow_grow s1 s2 hb) fun b hb => ?_⟩, hx1.trans hx2 fun b hk hg => hg.elim id fun h => by omega⟩
  rcases hb with hb | hb
  · have := h.bound b hb; omega
  · exact hb.2
theorem stepped_len (hx1 : Ext Fp w0 w1) (h2 : Half w1 m r n R R (Grow Fp w0 w1)) (hfew : Few R) : Stepped v w0 m r n Fp (.returned v) w1 :=
  ⟨rfl, ⟨R, hfew, h2⟩, hx1⟩
theorem kept_stepped (B : BookAt w bk os q vo vw K) (hlen : os.length < 30) (hq0 : 0 ≤ q) (hq1 : q < 16777216) (hd : ∀ b, Fp b → ¬ K b) (hb1 : ∀ b, Fp b → b < w.heap.size) (h : Stepped v w m r n Fp e w') : Kept v w m r n bk (fun b => Fp b ∨ K b) e w' := by
  obtain ⟨h1, ⟨R', hf, h2⟩, hx⟩ := h
  have s := hx.size
  refine ⟨h1, ⟨R', _, os, q, vo, vw, K, hf, h2, B.ext hx fun b hk hf => hd b hf hk, hlen, hq0, hq1, fun b hb hk => ?_, fun b hb => ?_, fun b hb => ?_⟩, hx.mono fun b _ h => .inl h⟩
  · rcases hb with hb | hb
    · exact hd b hb hk
    · have := B.bound b hk; omega
  · rcases hb with hb | hb
    · exact hb.imp .inl id
    · exact .inl (.inr hb)
  · rcases hb with (hb | hb) | hb
    · have := hb1 b hb; omega
    · have := B.bound b hb; omega
    · exact hb.2
theorem Kept.wide (h : Kept v w m r n bk F e w') (hF : ∀ b, F b → G b) (hG : ∀ b, G b → b < w.heap.size) : Kept v w m r n bk G e w' := by
  obtain ⟨h1, ⟨R, Fp, os, q, vo, vw, K, a1, a2, a3, a4, a5, a6, a7, a8, _⟩, hx⟩ := h
  refine ⟨h1, ⟨R, Fp, os, q, vo, vw, K, a1, a2, a3, a4, a5, a6, a7, fun b hb => (a8 b hb).imp (hF b) id, fun b hb => ?_⟩, hx.mono fun b _ h => hF b h⟩
  have := hx.size
  rcases hb with hb | hb
  · have := hG b hb; omega
  · exact hb.2
theorem Kept.since (h : Kept v w0 m r n bk F e w') (hx : Ext Nil w w0) (hF : ∀ b, F b → b < w.heap.size) : Kept v w m r n bk F e w' := by
  obtain ⟨h1, ⟨R, Fp, os, q, vo, vw, K, a1, a2, a3, a4, a5, a6, a7, a8, _⟩, hx2⟩ := h
  have s1 := hx.size
  have s2 := hx2.size
  refine ⟨h1, ⟨R, Fp, os, q, vo, vw, K, a1, a2, a3, a4, a5, a6, a7, fun b hb => (a8 b hb).imp id fun h => ⟨by omega, h.2⟩, fun b hb => ?_⟩, hx.nilMono.trans' hx2⟩
  rcases hb with hb | hb
  · have := hF b hb; omega
  · exact hb.2
set_option maxRecDepth 100000 in
set_option maxHeartbeats 8000000 in
theorem step_pair (T : Two w m r n bk F) (hi : IdleAt w idle) (hF0 : ¬ F 0) (kind x y i j q0 : Int) (c : UInt8) (vb : Value) (b : List UInt8) (hb : BytesAt w vb b) (hsep : b ≠ [] → ∀ z, vb.ownBlock = some z → ¬ F z) (hlb : b.length ≤ 1048576) :
    Calls Tryd.prog 19 #[pairV m r, stepV kind x y i j q0 c vb, .pointer (some ⟨bk, 0, none⟩)] w (Kept (.bool true) w m r n bk F) := by
  obtain ⟨R, Fp, os, q, vo, vw, K, hfew, hh, B, hlen, hq0, hq1, hd, hsub, hbound⟩ := T
  obtain ⟨adb, cb, rfl, _⟩ := hb.2.1
  refine Calls.mono ?_ fun e w' (h : Kept (.bool true) w m r n bk (fun b => Fp b ∨ K b) e w') => h.wide hsub hbound
  have hidle := hi
  have H := Lib.hid hh
  have HBk := Lib.hid B
  have Hd := Lib.hid hd
  have Hi := Lib.hid hi
  have Hfew := Lib.hid hfew
  have Hb := Lib.hid hb
  have Hsep : Hid (b ≠ [] → ∀ z, (Value.slice adb b.length cb).ownBlock = some z → ¬ Fp z) := fun h0 z hz hf => hsep h0 z hz (hsub z (.inl hf))
  have hcap := (hfew (x, y)).1
  have Hml : Hid (∀ l ∈ R (x, y), l.length ≤ 2097194) := (hfew (x, y)).2
  have HF0 : Hid (¬ Fp 0) := fun h => hF0 (hsub 0 (.inl h))
  have HK0 : Hid (¬ K 0) := fun h => hF0 (hsub 0 (.inr h))
  have HbF : Hid (∀ z, Fp z ∨ K z → z < w.heap.size) := fun z h => hbound z (hsub z h)
  clear hh B hd hi hfew hb hsep hsub hbound hF0 hidle
  by_cases hk3 : kind = 3
  case pos =>
    subst hk3
    unfold pairV stepV
    go_enter Tryd.func19, Tryd.ntmps19
    go_wp2_with fail
    have hbx := boxed w m r [.int .i64 3, .int .i64 x, .int .i64 y, .int .i64 i, .int .i64 j, .int .i64 q0, .int .u8 c.toNat, .slice adb b.length cb]
    generalize ((w.alloc (.cells #[.pointer (some ⟨m, 0, none⟩), .pointer (some ⟨r, 0, none⟩)] 48)).alloc (.cells #[.int .i64 3, .int .i64 x, .int .i64 y, .int .i64 i, .int .i64 j, .int .i64 q0, .int .u8 c.toNat, .slice adb b.length cb] 53)) = w0 at hbx ⊢
    obtain ⟨pb, hpb⟩ : ∃ pb, pb = w.heap.size := ⟨_, rfl⟩
    rw [← hpb] at hbx ⊢
    have HB := Lib.hid hbx
    have Hpb := Lib.hid hpb
    clear hbx hpb
    have Hh : Hid (Half w0 m r n R R Fp) := H.out.grown HB.out.ext
    refine (half_mesh Hh.out (fun Fm hm _ => drop_any hm x y i hcap)).mono ?_
    rintro e w1 ⟨rfl, h1, hx1⟩
    have H1 := Lib.hid h1
    have Hx1 := Lib.hid hx1
    clear h1 hx1
    obtain ⟨sv, hsv⟩ : ∃ sv, sv = askedV n R (x, y) [i] := ⟨_, rfl⟩
    rw [← hsv]
    have Hsv := Lib.hid hsv
    clear hsv
    obtain ⟨c0, c1, c2, c3, c4, c5, c6, c7, c8, c9⟩ := HB.out.cells Hx1.out fun b h1 _ h => by have := HbF.out b (.inl h); have := Hpb.out; omega
    go_wp2_with fail
    refine (half_ref H1.out (fun Fr hr => drop_ref hr x y i hcap)).mono ?_
    rintro e w2 ⟨rfl, h2, hx2⟩
    rw [← Hsv.out]
    have H2 := Lib.hid h2
    have Hx2 := Lib.hid hx2
    clear h2 hx2 c0 c1 c2 c3 c4 c5 c6 c7 c8 c9
    go_wp2
    go_ret
    have hs0 := HB.out.size
    have hx0 := HB.out.ext
    have hst : Stepped (.bool true) w0 m r n Fp (.returned (.bool true)) w2 := stepped_two (R' := dropR n R (x, y) i) Hh.out Hx1.out H2.out Hx2.out (few_drop Hfew.out)
    exact (kept_stepped (HBk.out.ext hx0 fun _ _ h => h) hlen hq0 hq1 Hd.out (fun b hb => Nat.lt_of_lt_of_le (HbF.out b (.inl hb)) hx0.size) hst).since hx0 HbF.out
  have hk3' : (kind == 3) = false := by simpa using hk3
  clear hk3
  by_cases hk4 : kind = 4
  case pos =>
    subst hk4
    unfold pairV stepV
    go_enter Tryd.func19, Tryd.ntmps19
    go_wp2_with fail
    have hbx := boxed w m r [.int .i64 4, .int .i64 x, .int .i64 y, .int .i64 i, .int .i64 j, .int .i64 q0, .int .u8 c.toNat, .slice adb b.length cb]
    generalize ((w.alloc (.cells #[.pointer (some ⟨m, 0, none⟩), .pointer (some ⟨r, 0, none⟩)] 48)).alloc (.cells #[.int .i64 4, .int .i64 x, .int .i64 y, .int .i64 i, .int .i64 j, .int .i64 q0, .int .u8 c.toNat, .slice adb b.length cb] 53)) = w0 at hbx ⊢
    obtain ⟨pb, hpb⟩ : ∃ pb, pb = w.heap.size := ⟨_, rfl⟩
    rw [← hpb] at hbx ⊢
    have HB := Lib.hid hbx
    have Hpb := Lib.hid hpb
    clear hbx hpb
    have Hh : Hid (Half w0 m r n R R Fp) := H.out.grown HB.out.ext
    refine (half_mesh Hh.out (fun Fm hm _ => twice_any hm x y i Hml.out)).mono ?_
    rintro e w1 ⟨rfl, h1, hx1⟩
    have H1 := Lib.hid h1
    have Hx1 := Lib.hid hx1
    clear h1 hx1
    obtain ⟨sv, hsv⟩ : ∃ sv, sv = twiceV n R (x, y) i := ⟨_, rfl⟩
    rw [← hsv]
    have Hsv := Lib.hid hsv
    clear hsv
    obtain ⟨c0, c1, c2, c3, c4, c5, c6, c7, c8, c9⟩ := HB.out.cells Hx1.out fun b h1 _ h => by have := HbF.out b (.inl h); have := Hpb.out; omega
    go_wp2_with fail
    refine (half_ref H1.out (fun Fr hr => twice_ref hr x y i hcap Hml.out)).mono ?_
    rintro e w2 ⟨rfl, h2, hx2⟩
    rw [← Hsv.out]
    have H2 := Lib.hid h2
    have Hx2 := Lib.hid hx2
    clear h2 hx2 c0 c1 c2 c3 c4 c5 c6 c7 c8 c9
    go_wp2
    go_ret
    have hs0 := HB.out.size
    have hx0 := HB.out.ext
    have hst : Stepped (.bool true) w0 m r n Fp (.returned (.bool true)) w2 := stepped_two (R' := twiceR n R (x, y) i) Hh.out Hx1.out H2.out Hx2.out (few_twice Hfew.out)
    exact (kept_stepped (HBk.out.ext hx0 fun _ _ h => h) hlen hq0 hq1 Hd.out (fun b hb => Nat.lt_of_lt_of_le (HbF.out b (.inl hb)) hx0.size) hst).since hx0 HbF.out
  have hk4' : (kind == 4) = false := by simpa using hk4
  clear hk4
  by_cases hk5 : kind = 5
  case pos =>
    subst hk5
    unfold pairV stepV
    go_enter Tryd.func19, Tryd.ntmps19
    go_wp2_with fail
    have hbx := boxed w m r [.int .i64 5, .int .i64 x, .int .i64 y, .int .i64 i, .int .i64 j, .int .i64 q0, .int .u8 c.toNat, .slice adb b.length cb]
    generalize ((w.alloc (.cells #[.pointer (some ⟨m, 0, none⟩), .pointer (some ⟨r, 0, none⟩)] 48)).alloc (.cells #[.int .i64 5, .int .i64 x, .int .i64 y, .int .i64 i, .int .i64 j, .int .i64 q0, .int .u8 c.toNat, .slice adb b.length cb] 53)) = w0 at hbx ⊢
    obtain ⟨pb, hpb⟩ : ∃ pb, pb = w.heap.size := ⟨_, rfl⟩
    rw [← hpb] at hbx ⊢
    have HB := Lib.hid hbx
    have Hpb := Lib.hid hpb
    clear hbx hpb
    have Hh : Hid (Half w0 m r n R R Fp) := H.out.grown HB.out.ext
    refine (half_mesh Hh.out (fun Fm hm _ => swap_any hm x y i j)).mono ?_
    rintro e w1 ⟨rfl, h1, hx1⟩
    have H1 := Lib.hid h1
    have Hx1 := Lib.hid hx1
    clear h1 hx1
    obtain ⟨sv, hsv⟩ : ∃ sv, sv = askedV n R (x, y) [i, j] := ⟨_, rfl⟩
    rw [← hsv]
    have Hsv := Lib.hid hsv
    clear hsv
    obtain ⟨c0, c1, c2, c3, c4, c5, c6, c7, c8, c9⟩ := HB.out.cells Hx1.out fun b h1 _ h => by have := HbF.out b (.inl h); have := Hpb.out; omega
    go_wp2_with fail
    refine (half_ref H1.out (fun Fr hr => swap_ref hr x y i j)).mono ?_
    rintro e w2 ⟨rfl, h2, hx2⟩
    rw [← Hsv.out]
    have H2 := Lib.hid h2
    have Hx2 := Lib.hid hx2
    clear h2 hx2 c0 c1 c2 c3 c4 c5 c6 c7 c8 c9
    go_wp2
    go_ret
    have hs0 := HB.out.size
    have hx0 := HB.out.ext
    have hst : Stepped (.bool true) w0 m r n Fp (.returned (.bool true)) w2 := stepped_two (R' := swapR n R (x, y) i j) Hh.out Hx1.out H2.out Hx2.out (few_swap Hfew.out)
    exact (kept_stepped (HBk.out.ext hx0 fun _ _ h => h) hlen hq0 hq1 Hd.out (fun b hb => Nat.lt_of_lt_of_le (HbF.out b (.inl hb)) hx0.size) hst).since hx0 HbF.out
  have hk5' : (kind == 5) = false := by simpa using hk5
  clear hk5
  by_cases hk6 : kind = 6
  case pos =>
    subst hk6
    unfold pairV stepV
    go_enter Tryd.func19, Tryd.ntmps19
    go_wp2_with fail
    have hbx := boxed w m r [.int .i64 6, .int .i64 x, .int .i64 y, .int .i64 i, .int .i64 j, .int .i64 q0, .int .u8 c.toNat, .slice adb b.length cb]
    generalize ((w.alloc (.cells #[.pointer (some ⟨m, 0, none⟩), .pointer (some ⟨r, 0, none⟩)] 48)).alloc (.cells #[.int .i64 6, .int .i64 x, .int .i64 y, .int .i64 i, .int .i64 j, .int .i64 q0, .int .u8 c.toNat, .slice adb b.length cb] 53)) = w0 at hbx ⊢
    obtain ⟨pb, hpb⟩ : ∃ pb, pb = w.heap.size := ⟨_, rfl⟩
    rw [← hpb] at hbx ⊢
    have HB := Lib.hid hbx
    have Hpb := Lib.hid hpb
    clear hbx hpb
    have Hh : Hid (Half w0 m r n R R Fp) := H.out.grown HB.out.ext
    refine (half_mesh Hh.out (fun Fm hm _ => flip_any hm x y i q0 c Hml.out)).mono ?_
    rintro e w1 ⟨rfl, h1, hx1⟩
    have H1 := Lib.hid h1
    have Hx1 := Lib.hid hx1
    clear h1 hx1
    obtain ⟨sv, hsv⟩ : ∃ sv, sv = flipV n R (x, y) i c := ⟨_, rfl⟩
    rw [← hsv]
    have Hsv := Lib.hid hsv
    clear hsv
    obtain ⟨c0, c1, c2, c3, c4, c5, c6, c7, c8, c9⟩ := HB.out.cells Hx1.out fun b h1 _ h => by have := HbF.out b (.inl h); have := Hpb.out; omega
    go_wp2_with fail
    refine (half_ref H1.out (fun Fr hr => flip_ref hr x y i q0 c Hml.out)).mono ?_
    rintro e w2 ⟨rfl, h2, hx2⟩
    rw [← Hsv.out]
    have H2 := Lib.hid h2
    have Hx2 := Lib.hid hx2
    clear h2 hx2 c0 c1 c2 c3 c4 c5 c6 c7 c8 c9
    go_wp2
    go_ret
    have hs0 := HB.out.size
    have hx0 := HB.out.ext
    have hst : Stepped (.bool true) w0 m r n Fp (.returned (.bool true)) w2 := stepped_two (R' := flipR n R (x, y) i q0 c) Hh.out Hx1.out H2.out Hx2.out (few_flip Hfew.out)
    exact (kept_stepped (HBk.out.ext hx0 fun _ _ h => h) hlen hq0 hq1 Hd.out (fun b hb => Nat.lt_of_lt_of_le (HbF.out b (.inl hb)) hx0.size) hst).since hx0 HbF.out
  have hk6' : (kind == 6) = false := by simpa using hk6
  clear hk6
  by_cases hk7 : kind = 7
  case pos =>
    subst hk7
    unfold pairV stepV
    go_enter Tryd.func19, Tryd.ntmps19
    go_wp2_with fail
    have hbx := boxed w m r [.int .i64 7, .int .i64 x, .int .i64 y, .int .i64 i, .int .i64 j, .int .i64 q0, .int .u8 c.toNat, .slice adb b.length cb]
    generalize ((w.alloc (.cells #[.pointer (some ⟨m, 0, none⟩), .pointer (some ⟨r, 0, none⟩)] 48)).alloc (.cells #[.int .i64 7, .int .i64 x, .int .i64 y, .int .i64 i, .int .i64 j, .int .i64 q0, .int .u8 c.toNat, .slice adb b.length cb] 53)) = w0 at hbx ⊢
    obtain ⟨pb, hpb⟩ : ∃ pb, pb = w.heap.size := ⟨_, rfl⟩
    rw [← hpb] at hbx ⊢
    have HB := Lib.hid hbx
    have Hpb := Lib.hid hpb
    clear hbx hpb
    have Hh : Hid (Half w0 m r n R R Fp) := H.out.grown HB.out.ext
    refine (half_mesh Hh.out (fun Fm hm _ => clip_any hm x y i q0 Hml.out)).mono ?_
    rintro e w1 ⟨rfl, h1, hx1⟩
    have H1 := Lib.hid h1
    have Hx1 := Lib.hid hx1
    clear h1 hx1
    obtain ⟨sv, hsv⟩ : ∃ sv, sv = askedV n R (x, y) [i] := ⟨_, rfl⟩
    rw [← hsv]
    have Hsv := Lib.hid hsv
    clear hsv
    obtain ⟨c0, c1, c2, c3, c4, c5, c6, c7, c8, c9⟩ := HB.out.cells Hx1.out fun b h1 _ h => by have := HbF.out b (.inl h); have := Hpb.out; omega
    go_wp2_with fail
    refine (half_ref H1.out (fun Fr hr => clip_ref hr x y i q0 Hml.out)).mono ?_
    rintro e w2 ⟨rfl, h2, hx2⟩
    rw [← Hsv.out]
    have H2 := Lib.hid h2
    have Hx2 := Lib.hid hx2
    clear h2 hx2 c0 c1 c2 c3 c4 c5 c6 c7 c8 c9
    go_wp2
    go_ret
    have hs0 := HB.out.size
    have hx0 := HB.out.ext
    have hst : Stepped (.bool true) w0 m r n Fp (.returned (.bool true)) w2 := stepped_two (R' := clipR n R (x, y) i q0) Hh.out Hx1.out H2.out Hx2.out (few_clip Hfew.out)
    exact (kept_stepped (HBk.out.ext hx0 fun _ _ h => h) hlen hq0 hq1 Hd.out (fun b hb => Nat.lt_of_lt_of_le (HbF.out b (.inl hb)) hx0.size) hst).since hx0 HbF.out
  have hk7' : (kind == 7) = false := by simpa using hk7
  clear hk7
  by_cases hk8 : kind = 8
  case pos =>
    subst hk8
    unfold pairV stepV
    go_enter Tryd.func19, Tryd.ntmps19
    go_wp2_with fail
    have hbx := boxed w m r [.int .i64 8, .int .i64 x, .int .i64 y, .int .i64 i, .int .i64 j, .int .i64 q0, .int .u8 c.toNat, .slice adb b.length cb]
    generalize ((w.alloc (.cells #[.pointer (some ⟨m, 0, none⟩), .pointer (some ⟨r, 0, none⟩)] 48)).alloc (.cells #[.int .i64 8, .int .i64 x, .int .i64 y, .int .i64 i, .int .i64 j, .int .i64 q0, .int .u8 c.toNat, .slice adb b.length cb] 53)) = w0 at hbx ⊢
    obtain ⟨pb, hpb⟩ : ∃ pb, pb = w.heap.size := ⟨_, rfl⟩
    rw [← hpb] at hbx ⊢
    have HB := Lib.hid hbx
    have Hpb := Lib.hid hpb
    clear hbx hpb
    have Hh : Hid (Half w0 m r n R R Fp) := H.out.grown HB.out.ext
    refine (half_mesh Hh.out (fun Fm hm _ => clear_any hm x y)).mono ?_
    rintro e w1 ⟨rfl, h1, hx1⟩
    have H1 := Lib.hid h1
    have Hx1 := Lib.hid hx1
    clear h1 hx1
    obtain ⟨sv, hsv⟩ : ∃ sv, sv = askedV n R (x, y) [] := ⟨_, rfl⟩
    rw [← hsv]
    have Hsv := Lib.hid hsv
    clear hsv
    obtain ⟨c0, c1, c2, c3, c4, c5, c6, c7, c8, c9⟩ := HB.out.cells Hx1.out fun b h1 _ h => by have := HbF.out b (.inl h); have := Hpb.out; omega
    go_wp2_with fail
    refine (half_ref H1.out (fun Fr hr => clear_ref hr x y)).mono ?_
    rintro e w2 ⟨rfl, h2, hx2⟩
    rw [← Hsv.out]
    have H2 := Lib.hid h2
    have Hx2 := Lib.hid hx2
    clear h2 hx2 c0 c1 c2 c3 c4 c5 c6 c7 c8 c9
    go_wp2
    go_ret
    have hs0 := HB.out.size
    have hx0 := HB.out.ext
    have hst : Stepped (.bool true) w0 m r n Fp (.returned (.bool true)) w2 := stepped_two (R' := clearR n R (x, y)) Hh.out Hx1.out H2.out Hx2.out (few_clear Hfew.out)
    exact (kept_stepped (HBk.out.ext hx0 fun _ _ h => h) hlen hq0 hq1 Hd.out (fun b hb => Nat.lt_of_lt_of_le (HbF.out b (.inl hb)) hx0.size) hst).since hx0 HbF.out
  have hk8' : (kind == 8) = false := by simpa using hk8
  clear hk8
  by_cases hk1 : kind = 1
  case pos =>
    subst hk1
    unfold pairV stepV
    go_enter Tryd.func19, Tryd.ntmps19
    go_wp2_with fail
    have hbx := boxed w m r [.int .i64 1, .int .i64 x, .int .i64 y, .int .i64 i, .int .i64 j, .int .i64 q0, .int .u8 c.toNat, .slice adb b.length cb]
    generalize ((w.alloc (.cells #[.pointer (some ⟨m, 0, none⟩), .pointer (some ⟨r, 0, none⟩)] 48)).alloc (.cells #[.int .i64 1, .int .i64 x, .int .i64 y, .int .i64 i, .int .i64 j, .int .i64 q0, .int .u8 c.toNat, .slice adb b.length cb] 53)) = w0 at hbx ⊢
    obtain ⟨pb, hpb⟩ : ∃ pb, pb = w.heap.size := ⟨_, rfl⟩
    rw [← hpb] at hbx ⊢
    have HB := Lib.hid hbx
    have Hpb := Lib.hid hpb
    clear hbx hpb
    have Hh : Hid (Half w0 m r n R R Fp) := H.out.grown HB.out.ext
    refine (send_pair Hh.out Hfew.out 1 x y i j q0 c (.slice adb b.length cb) b (Hb.out.ext (F := Nil) HB.out.ext fun _ _ _ h => h) Hsep.out hlb).mono ?_
    rintro e w2 hst0
    have hst := (kept_stepped (HBk.out.ext HB.out.ext fun _ _ h => h) hlen hq0 hq1 Hd.out (fun b hb => Nat.lt_of_lt_of_le (HbF.out b (.inl hb)) HB.out.ext.size) hst0)
    clear hst0
    obtain ⟨rfl, hst⟩ : e = .returned (.bool true) ∧ Hid (Kept (.bool true) w0 m r n bk (fun b => Fp b ∨ K b) e w2) := ⟨hst.1, hst⟩
    go_wp2
    go_ret
    have hs0 := HB.out.size
    have hx0 := HB.out.ext
    exact hst.out.since hx0 HbF.out
  have hk1' : (kind == 1) = false := by simpa using hk1
  clear hk1
  by_cases hk9 : kind = 9
  case pos =>
    subst hk9
    unfold pairV stepV
    go_enter Tryd.func19, Tryd.ntmps19
    go_wp2_with fail
    have hbx := boxed w m r [.int .i64 9, .int .i64 x, .int .i64 y, .int .i64 i, .int .i64 j, .int .i64 q0, .int .u8 c.toNat, .slice adb b.length cb]
    generalize ((w.alloc (.cells #[.pointer (some ⟨m, 0, none⟩), .pointer (some ⟨r, 0, none⟩)] 48)).alloc (.cells #[.int .i64 9, .int .i64 x, .int .i64 y, .int .i64 i, .int .i64 j, .int .i64 q0, .int .u8 c.toNat, .slice adb b.length cb] 53)) = w0 at hbx ⊢
    obtain ⟨pb, hpb⟩ : ∃ pb, pb = w.heap.size := ⟨_, rfl⟩
    rw [← hpb] at hbx ⊢
    have HB := Lib.hid hbx
    have Hpb := Lib.hid hpb
    clear hbx hpb
    have Hh : Hid (Half w0 m r n R R Fp) := H.out.grown HB.out.ext
    refine (many_any Hh.out Hfew.out 9 x y i j q0 c (.slice adb b.length cb) b (Hb.out.ext (F := Nil) HB.out.ext fun _ _ _ h => h) Hsep.out).mono ?_
    rintro e w2 hst0
    have hst := (kept_stepped (HBk.out.ext HB.out.ext fun _ _ h => h) hlen hq0 hq1 Hd.out (fun b hb => Nat.lt_of_lt_of_le (HbF.out b (.inl hb)) HB.out.ext.size) hst0)
    clear hst0
    obtain ⟨rfl, hst⟩ : e = .returned (.bool true) ∧ Hid (Kept (.bool true) w0 m r n bk (fun b => Fp b ∨ K b) e w2) := ⟨hst.1, hst⟩
    go_wp2
    go_ret
    have hs0 := HB.out.size
    have hx0 := HB.out.ext
    exact hst.out.since hx0 HbF.out
  have hk9' : (kind == 9) = false := by simpa using hk9
  clear hk9
  by_cases hk2 : kind = 2
  case pos =>
    subst hk2
    unfold pairV stepV
    go_enter Tryd.func19, Tryd.ntmps19
    go_wp2_with fail
    have hbx := boxed w m r [.int .i64 2, .int .i64 x, .int .i64 y, .int .i64 i, .int .i64 j, .int .i64 q0, .int .u8 c.toNat, .slice adb b.length cb]
    generalize ((w.alloc (.cells #[.pointer (some ⟨m, 0, none⟩), .pointer (some ⟨r, 0, none⟩)] 48)).alloc (.cells #[.int .i64 2, .int .i64 x, .int .i64 y, .int .i64 i, .int .i64 j, .int .i64 q0, .int .u8 c.toNat, .slice adb b.length cb] 53)) = w0 at hbx ⊢
    obtain ⟨pb, hpb⟩ : ∃ pb, pb = w.heap.size := ⟨_, rfl⟩
    rw [← hpb] at hbx ⊢
    have HB := Lib.hid hbx
    have Hpb := Lib.hid hpb
    clear hbx hpb
    have Hh : Hid (Half w0 m r n R R Fp) := H.out.grown HB.out.ext
    refine (take_pair Hh.out Hfew.out (HBk.out.ext HB.out.ext fun _ _ h => h) hlen hq0 hq1 Hd.out ⟨Hi.out.1, HB.out.ext.cell Hi.out.2 id⟩ HF0.out HK0.out 2 x y i j q0 c adb b.length cb).mono ?_
    rintro e w2 hst
    obtain ⟨rfl, hst⟩ : e = .returned (.bool true) ∧ Hid (Kept (.bool true) w0 m r n bk (fun b => Fp b ∨ K b) e w2) := ⟨hst.1, hst⟩
    go_wp2
    go_ret
    have hs0 := HB.out.size
    have hx0 := HB.out.ext
    exact hst.out.since hx0 HbF.out
  have hk2' : (kind == 2) = false := by simpa using hk2
  clear hk2
  unfold pairV stepV
  go_enter Tryd.func19, Tryd.ntmps19
  go_wp2_with fail
  have hbx := boxed w m r [.int .i64 kind, .int .i64 x, .int .i64 y, .int .i64 i, .int .i64 j, .int .i64 q0, .int .u8 c.toNat, .slice adb b.length cb]
  generalize ((w.alloc (.cells #[.pointer (some ⟨m, 0, none⟩), .pointer (some ⟨r, 0, none⟩)] 48)).alloc (.cells #[.int .i64 kind, .int .i64 x, .int .i64 y, .int .i64 i, .int .i64 j, .int .i64 q0, .int .u8 c.toNat, .slice adb b.length cb] 53)) = w0 at hbx ⊢
  obtain ⟨pb, hpb⟩ : ∃ pb, pb = w.heap.size := ⟨_, rfl⟩
  rw [← hpb] at hbx ⊢
  have HB := Lib.hid hbx
  have Hpb := Lib.hid hpb
  clear hbx hpb
  have Hh : Hid (Half w0 m r n R R Fp) := H.out.grown HB.out.ext
  refine (half_mesh Hh.out (fun Fm hm _ => len_any hm x y)).mono ?_
  rintro e w1 ⟨rfl, h1, hx1⟩
  have H1 := Lib.hid h1
  have Hx1 := Lib.hid hx1
  clear h1 hx1
  obtain ⟨c0, c1, c2, c3, c4, c5, c6, c7, c8, c9⟩ := HB.out.cells Hx1.out fun b h1 _ h => by have := HbF.out b (.inl h); have := Hpb.out; omega
  go_wp2_with fail
  refine (half_len H1.out x y).mono ?_
  rintro e w2 ⟨rfl, rfl⟩
  clear c0 c1 c2 c3 c4 c5 c6 c7 c8 c9
  go_wp2
  go_ret
  have hx0 := HB.out.ext
  exact (kept_stepped (HBk.out.ext hx0 fun _ _ h => h) hlen hq0 hq1 Hd.out (fun b hb => Nat.lt_of_lt_of_le (HbF.out b (.inl hb)) hx0.size) (stepped_len Hx1.out H1.out Hfew.out)).since hx0 HbF.out
end
end Go.Proofs.YtbpjgdmmijehnaaDoor
