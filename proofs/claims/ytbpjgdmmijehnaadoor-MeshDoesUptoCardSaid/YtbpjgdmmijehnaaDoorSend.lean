/-
  A pair of meshes: send.
-/
import Derived.Test.YtbpjgdmmijehnaaDoorMany
import Derived.Laws.CopyOwn
import Derived.Laws.MakeOwn
namespace Go.Proofs.YtbpjgdmmijehnaaDoor
open Go.RowKit Go.X

theorem own_row {w : World} {b : Nat} {xs : List Value} {e : TypeId} (h : w.heap[b]? = some (.cells xs.toArray e (0, 0))) (hl : xs.length ≤ maxLen) :
    Own w (.slice (some ⟨b, 0, none⟩) xs.length xs.length) e 1 xs.length xs :=
  ⟨by simp, .inr ⟨b, 0, xs.length, xs.toArray, rfl, h, Nat.le_refl _, hl, by simp, fun j _ => by simp⟩⟩
theorem row_get {w : World} {b i : Nat} {c : List UInt8} {x : UInt8} (h : w.heap[b]? = some (.cells (bv c).toArray 5 (0, 0))) (hx : c[i]? = some x) : w.cell? ⟨b, i, none⟩ = some (.int .u8 x.toNat) := by
  rw [cell_of_row w b _ _ _ (0, 0) h]
  simp [bv, hx]
theorem row_set {w : World} {b i : Nat} {c : List UInt8} {x : UInt8} (h : w.heap[b]? = some (.cells (bv c).toArray 5 (0, 0))) : (w.setCell ⟨b, i, none⟩ (.int .u8 x.toNat)).heap[b]? = some (.cells (bv (c.set i x)).toArray 5 (0, 0)) := by
  simp [World.setCell, Array.getElem?_modify, h, bv, List.map_set]
theorem row_frozen {w : World} {b i : Nat} {C : Array Value} {e : TypeId} (h : w.heap[b]? = some (.cells C e (0, 0))) : w.frozen? ⟨b, i, none⟩ = false := by
  simp [World.frozen?, h]
/-- The marks behind what is handed in, k of them laid. -/
def mk8 (k : Nat) : List UInt8 := (List.range 8).map fun i => if i < k then UInt8.ofNat (160 + i) else 0
theorem mk8_length (k : Nat) : (mk8 k).length = 8 := by simp [mk8]
theorem mk8_set {k : Nat} : (mk8 k).set k (UInt8.ofNat (160 + k)) = mk8 (k + 1) := by
  apply List.ext_getElem?
  intro i
  rw [List.getElem?_set]
  unfold mk8
  simp only [List.getElem?_map, List.length_map, List.length_range]
  by_cases e : k = i
  · subst e
    by_cases hk : k < 8
    · simp [hk]
    · simp [hk]
  · rw [if_neg e]
    by_cases hi : i < 8
    · have : i < k ↔ i < k + 1 := by omega
      simp [hi, this]
    · simp [hi]
theorem mk8_get {k : Nat} (h : k < 8) : (mk8 8)[k]? = some (UInt8.ofNat (160 + k)) := by
  simp [mk8, h]
theorem mark_nat {k : Nat} (h : k < 8) : ((UInt8.ofNat (160 + k)).toNat : Int) = 160 + (k : Int) := by
  rw [UInt8.toNat_ofNat']; omega
/-- New memory of bytes. -/
theorem make_bytes (w : World) (n : Nat) (hn : n ≤ 100000000) : (Instr.makeSlice 32 (.int .i64 n) (.int .i64 n)).run Tryd.prog w = .ok (.slice (some ⟨w.heap.size, 0, none⟩) n n) (w.alloc (.cells (bv (List.replicate n 0)).toArray 5)) := by
  have hi : ∃ i z, Tryd.prog.info? 5 = some i ∧ i.zero = some z ∧ i.size = 1 ∧ i.bytes = 1 ∧ z = .int .u8 0 := by
    have h : (Tryd.prog.info? 5).bind (fun i => i.zero.map fun z => (i.size, i.bytes, z)) = some (1, 1, .int .u8 0) := by kernel_rfl
    cases h0 : Tryd.prog.info? 5 with
    | none => rw [h0] at h; cases h
    | some i =>
      rw [h0] at h
      cases hz : i.zero with
      | none => simp [hz] at h
      | some z =>
        simp only [Option.bind_some, hz, Option.map_some, Option.some.injEq, Prod.mk.injEq] at h
        exact ⟨i, z, rfl, hz, h.1, h.2.1, h.2.2⟩
  obtain ⟨i, z, hi, hz, h1, h2, rfl⟩ := hi
  have := run_make (P := Tryd.prog) w 32 5 i _ Tryd.underlying32 hi hz .i64 .i64 n n (by omega) (by omega) (by rw [h2]; omega) (by omega)
  rw [this]
  have e : madeCells (Value.int IntKind.u8 0).cells (n * i.size) = (bv (List.replicate n 0)).toArray := by
    rw [h1, Nat.mul_one]
    apply Array.ext'
    simp only [madeCells, bv, Array.toList_map, Array.toList_range, List.map_replicate]
    apply List.ext_getElem?
    intro j
    by_cases hj : j < n
    · simp [hj, Value.cells, Nat.mod_one]
    · simp [hj]
  simp only [Int.toNat_natCast]
  rw [e]

/-- The two boxes of a step. -/
structure Boxed (w w0 : World) (m r : Nat) (sv : List Value) (pb : Nat) : Prop where
  at_ : pb = w.heap.size
  size : w0.heap.size = w.heap.size + 2
  ext : Ext Nil w w0
  p : w0.heap[pb]? = some (.cells #[.pointer (some ⟨m, 0, none⟩), .pointer (some ⟨r, 0, none⟩)] 48 (0, 0))
  s : w0.heap[pb + 1]? = some (.cells sv.toArray 53 (0, 0))
theorem boxed (w : World) (m r : Nat) (sv : List Value) : Boxed w ((w.alloc (.cells #[.pointer (some ⟨m, 0, none⟩), .pointer (some ⟨r, 0, none⟩)] 48)).alloc (.cells sv.toArray 53)) m r sv w.heap.size where
  at_ := rfl
  size := by simp
  ext := ((Ext.refl Nil w).alloc _).alloc _
  p := ((Ext.refl Nil (w.alloc (.cells #[.pointer (some ⟨m, 0, none⟩), .pointer (some ⟨r, 0, none⟩)] 48))).alloc _).heap (heap_alloc_new w _) id
  s := by
    have := heap_alloc_new (w.alloc (.cells #[.pointer (some ⟨m, 0, none⟩), .pointer (some ⟨r, 0, none⟩)] 48)) (.cells sv.toArray 53)
    rwa [World.size_alloc] at this
theorem Boxed.cells {w w0 w1 : World} {m r pb : Nat} {kind x y i j q : Int} {c : UInt8} {vb : Value} (h : Boxed w w0 m r [.int .i64 kind, .int .i64 x, .int .i64 y, .int .i64 i, .int .i64 j, .int .i64 q, .int .u8 c.toNat, vb] pb) {G : Nat → Prop} (hx : Ext G w0 w1) (hG : ∀ b, w.heap.size ≤ b → b < w0.heap.size → ¬ G b) :
    w1.cell? ⟨pb, 0, none⟩ = some (.pointer (some ⟨m, 0, none⟩)) ∧ w1.cell? ⟨pb, 1, none⟩ = some (.pointer (some ⟨r, 0, none⟩)) ∧
    w1.cell? ⟨pb + 1, 0, none⟩ = some (.int .i64 kind) ∧ w1.cell? ⟨pb + 1, 1, none⟩ = some (.int .i64 x) ∧ w1.cell? ⟨pb + 1, 2, none⟩ = some (.int .i64 y) ∧ w1.cell? ⟨pb + 1, 3, none⟩ = some (.int .i64 i) ∧
    w1.cell? ⟨pb + 1, 4, none⟩ = some (.int .i64 j) ∧ w1.cell? ⟨pb + 1, 5, none⟩ = some (.int .i64 q) ∧ w1.cell? ⟨pb + 1, 6, none⟩ = some (.int .u8 c.toNat) ∧ w1.cell? ⟨pb + 1, 7, none⟩ = some vb := by
  have h1 := h.at_; have h2 := h.size
  have hp := hx.heap h.p (hG pb (by omega) (by omega))
  have hs := hx.heap h.s (hG (pb + 1) (by omega) (by omega))
  refine ⟨?_, ?_, ?_, ?_, ?_, ?_, ?_, ?_, ?_, ?_⟩ <;> first | (rw [cell_of_row w1 pb _ _ _ (0, 0) hp]; rfl) | (rw [cell_of_row w1 (pb + 1) _ _ _ (0, 0) hs]; rfl)

theorem heap_three (w : World) (A B : Obj) (C : Array Value) (e : TypeId) : (((w.alloc A).alloc B).alloc (.cells C e)).heap[w.heap.size + 2]? = some (.cells C e (0, 0)) := by
  have := heap_alloc_new ((w.alloc A).alloc B) (.cells C e)
  rwa [World.size_alloc, World.size_alloc] at this
theorem bytes_cells {w w' : World} {ad : Option Addr} {c : Nat} {l : List UInt8} (h : BytesAt w (.slice ad l.length c) l) (hx : Ext Nil w w') (h0 : 0 < l.length) : ∃ a, ad = some a ∧ ∀ j v, (bv l)[j]? = some v → w'.cell? (a.add j) = some v := by
  rcases h.1.2.2 with ⟨_, h1⟩ | ⟨a, c', e, h1⟩ | ⟨_, e, _⟩
  · omega
  · injection e with e1
    exact ⟨a, e1, fun j v hv => hx.cell (h1 j v hv) id⟩
  · cases e
theorem splice_mk (b : List UInt8) : splice (bv (List.replicate (b.length + 8) 0)) 0 (bv b) = bv (b ++ mk8 0) := by
  have : mk8 0 = List.replicate 8 0 := by decide
  rw [this]
  simp [splice, bv, List.drop_replicate]

section
variable {w : World} {m r : Nat} {n : Int} {R : Lk → List (List UInt8)} {F : Nat → Prop}
set_option maxRecDepth 100000 in
set_option maxHeartbeats 8000000 in
theorem send_pair (h : Half w m r n R R F) (hfew : Few R) (kind x y i0 j0 q : Int) (c : UInt8) (vb : Value) (b : List UInt8) (hb : BytesAt w vb b) (hsep : b ≠ [] → ∀ z, vb.ownBlock = some z → ¬ F z) (hlen : b.length ≤ 1048576) :
    Calls Tryd.prog 30 #[pairV m r, stepV kind x y i0 j0 q c vb] w (Stepped (.bool true) w m r n F) := by
  obtain ⟨adb, cb, rfl, _⟩ := hb.2.1
  have H := Lib.hid h; clear h
  have Hfew := Lib.hid hfew; clear hfew
  have Hb := Lib.hid hb; clear hb
  have Hsep := Lib.hid hsep; clear hsep
  have hmk : ∀ w', (Instr.makeSlice 32 (.int .i64 ((b.length : Int) + 8)) (.int .i64 ((b.length : Int) + 8))).run Tryd.prog w' = .ok (.slice (some ⟨w'.heap.size, 0, none⟩) (b.length + 8) (b.length + 8)) (w'.alloc (.cells (bv (List.replicate (b.length + 8) 0)).toArray 5)) := fun w' => make_bytes w' (b.length + 8) (by omega)
  unfold pairV stepV
  go_enter Tryd.func30, Tryd.ntmps30
  go_wp2_with (refine wpList_copy_splice (o := ⟨some 20, _, _, _, _, _⟩) rfl (.tmp 17) (.tmp 19) 32 32 rfl 5 Tryd.underlying32 (by kernel_rfl) _ _ _ _ _ _ rfl rfl (w.heap.size + 2) 0 (bv (List.replicate (b.length + 8) 0)) 5 (heap_three w _ _ _ _) (bv b) (by simp [bv_length]) (fun h0 => ⟨rfl, bytes_cells Hb.out (((Ext.refl Nil w).alloc _).alloc _ |>.alloc _) (by simpa [bv_length] using h0)⟩) (by simp [bv_length]) (bv_one b) (w.heap.size + 2) _ (Below.refl _ _) (Nat.le_refl _) ?_; intro w1 hG hB)
  rw [splice_mk] at hG
  clear hmk
  have hbx := boxed w m r [.int .i64 kind, .int .i64 x, .int .i64 y, .int .i64 i0, .int .i64 j0, .int .i64 q, .int .u8 c.toNat, .slice adb b.length cb]
  have hx1 : Ext Nil ((w.alloc (.cells #[.pointer (some ⟨m, 0, none⟩), .pointer (some ⟨r, 0, none⟩)] 48)).alloc (.cells #[.int .i64 kind, .int .i64 x, .int .i64 y, .int .i64 i0, .int .i64 j0, .int .i64 q, .int .u8 c.toNat, .slice adb b.length cb] 53)) w1 := by
    refine Ext.of_below ?_
    rw [World.size_alloc, World.size_alloc]
    exact (((Below.refl _ _).alloc (by simp) _)).trans hB
  generalize ((w.alloc (.cells #[.pointer (some ⟨m, 0, none⟩), .pointer (some ⟨r, 0, none⟩)] 48)).alloc (.cells #[.int .i64 kind, .int .i64 x, .int .i64 y, .int .i64 i0, .int .i64 j0, .int .i64 q, .int .u8 c.toNat, .slice adb b.length cb] 53)) = w0 at hbx hx1
  clear hB
  obtain ⟨ib, hib⟩ : ∃ ib, ib = w.heap.size + 2 := ⟨_, rfl⟩
  obtain ⟨pb, hpb⟩ : ∃ pb, pb = w.heap.size := ⟨_, rfl⟩
  rw [← hib] at hG ⊢
  rw [← hpb] at hbx ⊢
  have hib0 : ib = w0.heap.size := by rw [hbx.size]; exact hib
  have hbw : ∀ z, F z → z < pb := fun z hz => by have := H.out.bound z hz; omega
  have HBw := Lib.hid hbw
  have HB := Lib.hid hbx
  have Hx1 := Lib.hid hx1
  have Hib := Lib.hid hib0
  have Hpb := Lib.hid hpb
  have hpi : pb + 2 = ib := by omega
  have Hpi := Lib.hid hpi
  clear hbw hbx hx1 hib hib0 hpb hpi
  go_loopw [6] (fun i wr => ∃ k : Nat, i = .int .i64 k ∧ k ≤ 8 ∧ Ext Nil w0 wr ∧ Hid (wr.heap[ib]? = some (.cells (bv (b ++ mk8 k)).toArray 5 (0, 0)))) (fun i _ => 8 - (intOf i).toNat)
  case atStart => exact ⟨0, rfl, by omega, Hx1.out, hG⟩
  case round =>
    obtain ⟨k, rfl, hk, hxr, hrow⟩ := hrel
    have Hxr := Lib.hid hxr
    obtain ⟨c0, c1, c2, c3, c4, c5, c6, c7, c8, c9⟩ := HB.out.cells hxr fun _ _ _ h => h
    clear hxr c2 c5 c6 c7 c8
    by_cases hk8 : k < 8
    case pos =>
      have hcell : wr.cell? ⟨ib, b.length + k, none⟩ = some (.int .u8 ((mk8 k)[k]'(by rw [mk8_length]; exact hk8)).toNat) := row_get hrow.out (by rw [List.getElem?_append_right (by omega), Nat.add_sub_cancel_left]; exact List.getElem?_eq_getElem _)
      have hfz : wr.frozen? ⟨ib, b.length + k, none⟩ = false := row_frozen hrow.out
      go_wp2
      go_roundw
      case rel =>
        refine ⟨k + 1, by go_num, by omega, Hxr.out.setCell (fun h => by have := Hib.out; simp only at h; omega) _, ?_⟩
        have := row_set (i := b.length + k) (x := UInt8.ofNat (160 + k)) hrow.out
        rw [mark_nat hk8, List.set_append_right _ _ (by omega), Nat.add_sub_cancel_left, mk8_set] at this
        exact this
      case measure => simp [intOf]; omega
    case neg =>
      obtain rfl : k = 8 := by omega
      clear hk hk8
      clear c0 c1 c3 c4 c9
      have hO : ∀ w', w'.heap[ib]? = some (.cells (bv (b ++ mk8 8)).toArray 5 (0, 0)) → Own w' (cutV (some ⟨ib, 0, none⟩) 1 0 b.length (b.length + 8)) 5 1 b.length (bv b) := fun w' h => by
        have h1 := own_row h (by rw [bv_length, List.length_append, mk8_length]; unfold maxLen; omega)
        rw [bv_length, List.length_append, mk8_length] at h1
        have h2 := h1.cut (l := 0) (h := b.length) (by omega) (by omega)
        have e : ((bv (b ++ mk8 8)).drop (0 * 1)).take ((b.length - 0) * 1) = bv b := by simp [bv]
        rw [e] at h2
        exact h2
      obtain ⟨cv, hcv⟩ : ∃ cv, cv = cutV (some ⟨ib, 0, none⟩) 1 0 b.length (b.length + 8) := ⟨_, rfl⟩
      rw [← hcv] at hO
      have HO := Lib.hid hO
      have Hcv := Lib.hid hcv
      clear hO hcv
      obtain ⟨adv, cc, rfl⟩ := (HO.out _ hrow.out).slice
      have HF : Hid (Half wr m r n R R F) := H.out.grown (HB.out.ext.extN Hxr.out)
      go_wp2_with fail
      refine X.wp_region_planG F 13 [(0, true), (1, true), (2, true), (3, true), (4, true), (5, true), (6, true), (7, true), (8, true), (9, true), (10, true), (11, false), (12, true)] [] (by kernel_rfl) (by kernel_rfl) (fun wd hxwd hh => ?_)
      have Hxd := Lib.hid (Hxr.out.extN hxwd)
      have Hrd := Lib.hid (hxwd.heap hrow.out id)
      have HFd : Hid (Half wd m r n R R F) := HF.out.grown hxwd
      clear hh hxwd HF
      iterate 10
        refine X.wpE_still (o := ⟨_, _, _, _, _, _⟩) rfl rfl ?_
        apply Exists.intro
        refine ⟨fun w' hE => ?_, ?_⟩
        · obtain ⟨c0, c1, c2, c3, c4, c5, c6, c7, c8, c9⟩ := HB.out.cells (Hxd.out.nilMono.trans' hE) fun b h1 _ h => by have := HBw.out b h; have := Hpb.out; omega
          go_simp
          rfl
        simp only [Act.put, List.setIfInBounds_toArray, List.set_cons_succ, List.set_cons_zero]
      refine X.wpE_still (o := ⟨_, _, _, _, _, _⟩) rfl rfl ?_
      refine ⟨cutV (some ⟨ib, 0, none⟩) 1 0 b.length (b.length + 8), fun w' hE => X.exec_slice (h := b.length) rfl elByte rfl (.inl ⟨rfl, rfl⟩) (.inr ⟨_, rfl⟩) (by omega) (by omega) w', ?_⟩
      simp only [Act.put, List.setIfInBounds_toArray, List.set_cons_succ, List.set_cons_zero]
      rw [← Hcv.out]
      refine X.wpE_call (o := ⟨_, _, _, _, _, _⟩) rfl rfl ?_
      apply Exists.intro
      apply Exists.intro
      refine ⟨?_, ?_⟩
      · go_simp
        exact ⟨rfl, rfl⟩
      refine (half_mesh HFd.out (fun Fm hm hsub => send_any hm x y _ b ⟨(HO.out _ Hrd.out).src (bv_one b), adv, cc, rfl⟩ ?_)).mono ?_
      · intro hb0 z hz hf
        have : ib = z := by
          rw [Hcv.out] at hz
          obtain ⟨a, e1, e2⟩ := cutV_block hz
          simp only [Option.some.injEq] at e1
          subst e1
          exact e2
        have h1 := HBw.out z (hsub z hf)
        have h2 := Hpi.out
        omega
      rintro e w3 ⟨rfl, h3, hx3⟩
      refine ⟨_, rfl, hx3, ?_⟩
      simp only [Act.put, List.setIfInBounds_toArray, List.set_cons_succ, List.set_cons_zero]
      refine X.wpE_still (o := ⟨_, _, _, _, _, _⟩) rfl rfl ?_
      apply Exists.intro
      refine ⟨fun w' hE => ?_, ?_⟩
      · go_simp
        rfl
      simp only [Act.put, List.setIfInBounds_toArray, List.set_cons_succ, List.set_cons_zero]
      refine X.wpE_nil ?_
      refine X.wpT_nil ?_
      have hFn : ∀ z, pb ≤ z → ¬ F z := fun z h hf => by have := HBw.out z hf; omega
      have Hr3 := Lib.hid (hx3.heap Hrd.out (hFn ib (by have := Hpi.out; omega)))
      have Hx03 : Hid (Ext F w0 w3) := Hxd.out.nilMono.trans' hx3
      have H3 := Lib.hid h3
      have Hx3 := Lib.hid hx3
      have HFn := Lib.hid hFn
      clear h3 hx3 hFn hrow
      have hb3 : BytesAt w3 (.slice adb b.length cb) b := (Hb.out.ext HB.out.ext.nilMono Hsep.out).ext Hx03.out Hsep.out
      have Hb3 := Lib.hid hb3
      clear hb3
      obtain ⟨sv, hsv⟩ : ∃ sv, sv = sendV n R (x, y) b := ⟨_, rfl⟩
      rw [← hsv]
      have Hsv := Lib.hid hsv
      clear hsv
      obtain ⟨c0, c1, c2, c3, c4, c5, c6, c7, c8, c9⟩ := HB.out.cells Hx03.out fun b h1 _ h => by have := HBw.out b h; have := Hpb.out; omega
      go_wp2_with fail
      refine (half_ref H3.out (fun Fr hr => send_ref hr x y _ b Hb3.out)).mono ?_
      rintro e w4 ⟨rfl, h4, hx4⟩
      rw [← Hsv.out]
      clear c0 c1 c2 c3 c4 c5 c6 c7 c8 c9
      go_wp2_with fail
      have hx34 : Ext F w0 w4 := Hx03.out.trans hx4 fun z hz hg => hg.elim id fun h => by have := Hxd.out.size; omega
      have hrow4 : w4.heap[ib]? = some (.cells (bv (b ++ mk8 8)).toArray 5 (0, 0)) := hx4.heap Hr3.out fun h => h.elim (HFn.out ib (by have := Hpi.out; omega)) fun h => by have := lt_of_heap Hrd.out; omega
      have H4 : Hid (Half w4 m r n (sendR n R (x, y) b) (sendR n R (x, y) b) (fun z => Grow F w w4 z ∧ z ≠ ib)) := by
        have hid := lt_of_heap Hrd.out
        refine h4.wide ?_ ?_
        · intro z hz
          rcases hz with (hz | hz) | hz
          · exact ⟨.inl hz, fun e => by subst e; exact HFn.out z (by have := Hpi.out; omega) hz⟩
          · have h1 := Hxd.out.size; have h2 := HB.out.size; have h3 := hx4.size
            exact ⟨.inr (by omega), by omega⟩
          · have h1 := Hxd.out.size; have h2 := HB.out.size; have h3 := Hx3.out.size
            exact ⟨.inr (by omega), by omega⟩
        · intro z hz
          rcases hz.1 with hz | hz
          · have h1 := H.out.bound z hz; have h2 := hx34.size; have h3 := HB.out.size; omega
          · exact hz.2
      have Hx4 : Hid (Ext F w w4) := HB.out.ext.nilMono.trans' hx34
      have Hr4 := Lib.hid hrow4
      have Hx04 := Lib.hid hx34
      have hb4 : BytesAt w4 (.slice adb b.length cb) b := Hb.out.ext Hx4.out Hsep.out
      have Hb4 := Lib.hid hb4
      clear h4 hx4 hx34 hrow4 hb4 Hb3 H3 Hx3 Hr3 HFd Hrd Hx03
      refine X.wp_region_plan 9 [(0, true), (1, true), (2, true), (3, true), (4, true), (5, true), (6, true), (7, false), (8, true)] [] (by kernel_rfl) (by kernel_rfl) (fun we hxwe hh => ?_)
      clear hh
      have Hxe := Lib.hid hxwe
      clear hxwe
      iterate 4
        refine X.wpE_still (o := ⟨_, _, _, _, _, _⟩) rfl rfl ?_
        apply Exists.intro
        refine ⟨fun w' hE => ?_, ?_⟩
        · obtain ⟨c0, c1, c2, c3, c4, c5, c6, c7, c8, c9⟩ := HB.out.cells (Hx04.out.trans' (Hxe.out.extN hE).nilMono) fun b h1 _ h => by have := HBw.out b h; have := Hpb.out; omega
          go_simp
          rfl
        simp only [Act.put, List.setIfInBounds_toArray, List.set_cons_succ, List.set_cons_zero]
      refine X.wpE_still (o := ⟨_, _, _, _, _, _⟩) rfl rfl ?_
      refine ⟨cutV (some ⟨ib, 0, none⟩) 1 0 b.length (b.length + 8), fun w' hE => X.exec_slice (h := b.length) rfl elByte rfl (.inl ⟨rfl, rfl⟩) (.inr ⟨_, rfl⟩) (by omega) (by omega) w', ?_⟩
      simp only [Act.put, List.setIfInBounds_toArray, List.set_cons_succ, List.set_cons_zero]
      rw [← Hcv.out]
      iterate 2
        refine X.wpE_still (o := ⟨_, _, _, _, _, _⟩) rfl rfl ?_
        apply Exists.intro
        refine ⟨fun w' hE => ?_, ?_⟩
        · obtain ⟨c0, c1, c2, c3, c4, c5, c6, c7, c8, c9⟩ := HB.out.cells (Hx04.out.trans' (Hxe.out.extN hE).nilMono) fun b h1 _ h => by have := HBw.out b h; have := Hpb.out; omega
          go_simp
          rfl
        simp only [Act.put, List.setIfInBounds_toArray, List.set_cons_succ, List.set_cons_zero]
      refine X.wpE_call (o := ⟨_, _, _, _, _, _⟩) rfl rfl ?_
      apply Exists.intro
      apply Exists.intro
      refine ⟨?_, ?_⟩
      · go_simp
        exact ⟨rfl, rfl⟩
      refine (same_any (l := b) (m := b) ⟨(HO.out _ (Hxe.out.heap Hr4.out id)).src (bv_one b), adv, cc, rfl⟩ (Hb4.out.ext (F := Nil) Hxe.out fun _ _ _ h => h).arg).mono ?_
      rintro e w5 ⟨rfl, rfl⟩
      refine ⟨_, rfl, Ext.refl _ _, ?_⟩
      simp only [Act.put, List.setIfInBounds_toArray, List.set_cons_succ, List.set_cons_zero]
      refine X.wpE_still (o := ⟨_, _, _, _, _, _⟩) rfl rfl ?_
      apply Exists.intro
      refine ⟨fun w' hE => ?_, ?_⟩
      · go_simp
        rfl
      simp only [Act.put, List.setIfInBounds_toArray, List.set_cons_succ, List.set_cons_zero]
      refine X.wpE_nil ?_
      refine X.wpT_nil ?_
      rw [beq_self_eq_true]
      have hre := Hxe.out.heap Hr4.out id
      have Hre := Lib.hid hre
      obtain ⟨c0, c1, c2, c3, c4, c5, c6, c7, c8, c9⟩ := HB.out.cells (Hx04.out.trans' Hxe.out.nilMono) fun b h1 _ h => by have := HBw.out b h; have := Hpb.out; omega
      clear c0 c1 c2 c3 c4 c5 c6 c7 c8 hre
      have hmark : ∀ k, k < 8 → we.cell? ⟨ib, b.length + k, none⟩ = some (.int .u8 (160 + (k : Int))) := fun k hk => by
        have := row_get (i := b.length + k) Hre.out (by rw [List.getElem?_append_right (by omega), Nat.add_sub_cancel_left]; exact mk8_get hk)
        rwa [mark_nat hk] at this
      have Hmark := Lib.hid hmark
      clear hmark
      go_wp2_with fail
      go_loop [9, 10] (fun o i => ∃ k : Nat, o = .bool true ∧ i = .int .i64 k ∧ k ≤ 8) (fun _ i => 8 - (intOf i).toNat)
      case atStart => exact ⟨0, rfl, rfl, by omega⟩
      case round =>
        obtain ⟨k, rfl, rfl, hk⟩ := hrel
        by_cases hk8 : k < 8
        case pos =>
          have hm := Hmark.out k hk8
          go_wp2
          go_round
          case rel => exact ⟨k + 1, rfl, by go_num, by omega⟩
          case measure => simp [intOf]; omega
        case neg =>
          obtain rfl : k = 8 := by omega
          clear hk hk8 c9
          go_wp2_with fail
          go_loopw [11] (fun i wr => ∃ (k : Nat) (C : List UInt8), i = .int .i64 k ∧ k ≤ b.length + 8 ∧ C.length = b.length + 8 ∧ Ext (fun z => z = ib) we wr ∧ Hid (wr.heap[ib]? = some (.cells (bv C).toArray 5 (0, 0)))) (fun i _ => b.length + 8 - (intOf i).toNat)
          case atStart => exact ⟨0, _, rfl, by omega, by rw [List.length_append, mk8_length], Ext.refl _ _, Hre⟩
          case round =>
            obtain ⟨k, C, rfl, hk, hC, hxr3, hrow3⟩ := hrel
            have Hxr3 := Lib.hid hxr3
            have HC := Lib.hid hC
            clear hxr3 hC
            by_cases hk8 : k < b.length + 8
            case pos =>
              have hcell : ∃ x : UInt8, wr.cell? ⟨ib, k, none⟩ = some (.int .u8 x.toNat) := ⟨_, row_get hrow3.out (List.getElem?_eq_getElem (by rw [HC.out]; exact hk8))⟩
              obtain ⟨z, hcell⟩ := hcell
              have hfz : wr.frozen? ⟨ib, k, none⟩ = false := row_frozen hrow3.out
              have hval : bits BinOp.xor IntKind.u8 z.toNat 85 = ((z ^^^ 85).toNat : Int) := xor_u8 z 85
              go_wp2
              go_roundw
              case rel =>
                exact ⟨k + 1, C.set k (z ^^^ 85), by go_num, by omega, by rw [List.length_set]; exact HC.out, Hxr3.out.setCell (fun _ => rfl) _, Lib.hid (row_set (i := k) (x := z ^^^ 85) hrow3.out)⟩
              case measure => simp [intOf]; omega
            case neg =>
              obtain rfl : k = b.length + 8 := by omega
              go_wp2
              go_ret
              have hxf : Ext F w wr := Hx4.out.trans (Hxe.out.nilMono.trans' Hxr3.out) fun z hz e => by have := Hpb.out; have := Hpi.out; omega
              refine ⟨rfl, ⟨sendR n R (x, y) b, few_send Hfew.out, ?_⟩, hxf⟩
              have h1 := (H4.out.grown Hxe.out).ext Hxr3.out fun z hz e => hz.2 e
              have h2 := Hxe.out.size
              have h3 := Hxr3.out.size
              refine h1.wide (fun z hz => hz.1.imp id fun h => ⟨h.1, by omega⟩) fun z hz => ?_
              rcases hz with hz | hz
              · have h4 := H.out.bound z hz; have h5 := hxf.size; omega
              · exact hz.2
end
end Go.Proofs.YtbpjgdmmijehnaaDoor
