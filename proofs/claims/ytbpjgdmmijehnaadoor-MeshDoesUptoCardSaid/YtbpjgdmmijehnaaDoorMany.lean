/-
  A pair of meshes: lens, many.
-/
import Derived.Test.YtbpjgdmmijehnaaDoorPair
namespace Go.Proofs.YtbpjgdmmijehnaaDoor
open Go.RowKit Go.X

/-- Some mesh and some document's, alike. -/
def Alike (w : World) (m r : Nat) (n : Int) (F : Nat → Prop) : Prop := ∃ R, Few R ∧ Half w m r n R R F
/-- What a step leaves, but for a Take. -/
def Stepped (v : Value) (w : World) (m r : Nat) (n : Int) (F : Nat → Prop) (e : Ending) (w' : World) : Prop :=
  e = .returned v ∧ Alike w' m r n (Grow F w w') ∧ Ext F w w'
def stepV (kind x y i j q : Int) (c : UInt8) (vb : Value) : Value := .agg #[.int .i64 kind, .int .i64 x, .int .i64 y, .int .i64 i, .int .i64 j, .int .i64 q, .int .u8 c.toNat, vb]
def pairV (m r : Nat) : Value := .agg #[.pointer (some ⟨m, 0, none⟩), .pointer (some ⟨r, 0, none⟩)]

section
variable {w : World} {m r : Nat} {n : Int} {R : Lk → List (List UInt8)} {F : Nat → Prop}
theorem grow_grow {a b c : World} (h1 : a.heap.size ≤ b.heap.size) (h2 : b.heap.size ≤ c.heap.size) {x : Nat} (h : Grow (Grow F a b) b c x) : Grow F a c x :=
  h.elim (fun h => h.elim .inl fun h => .inr ⟨h.1, by omega⟩) fun h => .inr ⟨by omega, h.2⟩
theorem Half.wide {R' : Lk → List (List UInt8)} {G : Nat → Prop} (h : Half w m r n R' R F) (hs : ∀ b, F b → G b) (hb : ∀ b, G b → b < w.heap.size) : Half w m r n R' R G :=
  let ⟨Fm, Fr, h1, h2, h3, h4, _⟩ := h; ⟨Fm, Fr, h1, h2, h3, fun b hb => hs b (h4 b hb), hb⟩

theorem done_many {w0 wr : World} (hx0 : Ext Nil w w0) (h : Alike wr m r n (Grow F w0 wr)) (hx : Ext F w0 wr) : Alike wr m r n (Grow F w wr) ∧ Ext F w wr := by
  obtain ⟨R, h1, h2⟩ := h
  refine ⟨⟨R, h1, h2.wide (fun b hb => hb.elim .inl fun h => .inr ⟨Nat.le_trans hx0.size h.1, h.2⟩) fun b hb => hb.elim (fun h => h2.bound b (.inl h)) (·.2)⟩, hx0.nilMono.trans' hx⟩
set_option maxRecDepth 100000 in
set_option maxHeartbeats 4000000 in
theorem many_any (h : Half w m r n R R F) (hfew : Few R) (kind x y i0 j0 q : Int) (c : UInt8) (vb : Value) (b : List UInt8) (hb : BytesAt w vb b) (hsep : b ≠ [] → ∀ z, vb.ownBlock = some z → ¬ F z) :
    Calls Tryd.prog 40 #[pairV m r, stepV kind x y i0 j0 q c vb] w (Stepped (.bool true) w m r n F) := by
  obtain ⟨adb, cb, rfl, _⟩ := hb.2.1
  have H := Lib.hid h; clear h
  have Hfew := Lib.hid hfew; clear hfew
  have Hb := Lib.hid hb; clear hb
  have Hsep := Lib.hid hsep; clear hsep
  unfold pairV stepV
  go_enter Tryd.func40, Tryd.ntmps40
  go_wp2_with fail
  have hx0 : Ext Nil w ((w.alloc (.cells #[.pointer (some ⟨m, 0, none⟩), .pointer (some ⟨r, 0, none⟩)] 48)).alloc (.cells #[.int .i64 kind, .int .i64 x, .int .i64 y, .int .i64 i0, .int .i64 j0, .int .i64 q, .int .u8 c.toNat, .slice adb b.length cb] 53)) := ((Ext.refl Nil w).alloc _).alloc _
  have p0 : ((w.alloc (.cells #[.pointer (some ⟨m, 0, none⟩), .pointer (some ⟨r, 0, none⟩)] 48)).alloc (.cells #[.int .i64 kind, .int .i64 x, .int .i64 y, .int .i64 i0, .int .i64 j0, .int .i64 q, .int .u8 c.toNat, .slice adb b.length cb] 53)).heap[w.heap.size]? = some (.cells #[.pointer (some ⟨m, 0, none⟩), .pointer (some ⟨r, 0, none⟩)] 48 (0, 0)) := by
    exact ((Ext.refl Nil (w.alloc (.cells #[.pointer (some ⟨m, 0, none⟩), .pointer (some ⟨r, 0, none⟩)] 48))).alloc _).heap (heap_alloc_new w _) id
  have s0 : ((w.alloc (.cells #[.pointer (some ⟨m, 0, none⟩), .pointer (some ⟨r, 0, none⟩)] 48)).alloc (.cells #[.int .i64 kind, .int .i64 x, .int .i64 y, .int .i64 i0, .int .i64 j0, .int .i64 q, .int .u8 c.toNat, .slice adb b.length cb] 53)).heap[w.heap.size + 1]? = some (.cells #[.int .i64 kind, .int .i64 x, .int .i64 y, .int .i64 i0, .int .i64 j0, .int .i64 q, .int .u8 c.toNat, .slice adb b.length cb] 53 (0, 0)) := by
    have := heap_alloc_new (w.alloc (.cells #[.pointer (some ⟨m, 0, none⟩), .pointer (some ⟨r, 0, none⟩)] 48)) (.cells #[.int .i64 kind, .int .i64 x, .int .i64 y, .int .i64 i0, .int .i64 j0, .int .i64 q, .int .u8 c.toNat, .slice adb b.length cb] 53)
    rwa [World.size_alloc] at this
  obtain ⟨pb, hpb⟩ : ∃ pb, pb = w.heap.size := ⟨_, rfl⟩
  rw [← hpb] at p0 s0 ⊢
  generalize ((w.alloc (.cells #[.pointer (some ⟨m, 0, none⟩), .pointer (some ⟨r, 0, none⟩)] 48)).alloc (.cells #[.int .i64 kind, .int .i64 x, .int .i64 y, .int .i64 i0, .int .i64 j0, .int .i64 q, .int .u8 c.toNat, .slice adb b.length cb] 53)) = w0 at hx0 p0 s0 ⊢
  have hF : ∀ z, pb ≤ z → ¬ F z := fun z hz hf => by have := H.out.bound z hf; omega
  have Hpb := Lib.hid hpb
  have HF := Lib.hid hF
  have Hx0 := Lib.hid hx0
  have P0 := Lib.hid p0
  have S0 := Lib.hid s0
  clear hpb hF hx0 p0 s0
  go_loopw [5] (fun i wr => ∃ (k : Nat) (R' : Lk → List (List UInt8)), i = .int .i64 k ∧ k ≤ 1100 ∧ Few R' ∧ Half wr m r n R' R' (Grow F w0 wr) ∧ Ext F w0 wr) (fun i _ => 1100 - (intOf i).toNat)
  case atStart => exact ⟨0, R, rfl, by omega, Hfew.out, (H.out.grown Hx0.out).wide (fun b hb => .inl hb) (fun b hb => hb.elim (fun h => Nat.lt_of_lt_of_le (H.out.bound b h) Hx0.out.size) (·.2)), Ext.refl _ _⟩
  case round =>
    obtain ⟨k, R', rfl, hk, hfew, hst, hxr⟩ := hrel
    have Hst := Lib.hid hst
    have Hfew' := Lib.hid hfew
    have Hxr := Lib.hid hxr
    have pr := hxr.heap P0.out (HF.out pb (Nat.le_refl _))
    have sr := hxr.heap S0.out (HF.out (pb + 1) (by omega))
    have c1 : wr.cell? ⟨pb, 0, none⟩ = some (.pointer (some ⟨m, 0, none⟩)) := by rw [cell_of_row wr pb _ _ _ (0, 0) pr]; rfl
    have c2 : wr.cell? ⟨pb, 1, none⟩ = some (.pointer (some ⟨r, 0, none⟩)) := by rw [cell_of_row wr pb _ _ _ (0, 0) pr]; rfl
    have c3 : wr.cell? ⟨pb + 1, 1, none⟩ = some (.int .i64 x) := by rw [cell_of_row wr (pb + 1) _ _ _ (0, 0) sr]; rfl
    have c4 : wr.cell? ⟨pb + 1, 2, none⟩ = some (.int .i64 y) := by rw [cell_of_row wr (pb + 1) _ _ _ (0, 0) sr]; rfl
    have c5 : wr.cell? ⟨pb + 1, 5, none⟩ = some (.int .i64 q) := by rw [cell_of_row wr (pb + 1) _ _ _ (0, 0) sr]; rfl
    have c7 : wr.cell? ⟨pb + 1, 7, none⟩ = some (.slice adb b.length cb) := by rw [cell_of_row wr (pb + 1) _ _ _ (0, 0) sr]; rfl
    clear hst hfew hxr pr sr
    by_cases hq : (k : Int) < q
    case neg =>
      go_wp2
      go_ret
      exact ⟨rfl, done_many Hx0.out ⟨R', Hfew'.out, Hst.out⟩ Hxr.out⟩
    by_cases hk2 : k < 1100
    case neg =>
      go_wp2
      go_ret
      exact ⟨rfl, done_many Hx0.out ⟨R', Hfew'.out, Hst.out⟩ Hxr.out⟩
    go_wp2_with fail
    refine (half_mesh Hst.out (fun Fm hm hsub => send_any hm x y _ b ((Hb.out.ext (Hx0.out.nilMono.trans' Hxr.out) Hsep.out).arg) ?_)).mono ?_
    · intro hb0 z hz hf
      have hzw := Hb.out.2.2 hb0 z hz
      rcases hsub z hf with h | h
      · exact Hsep.out hb0 z hz h
      · have := Hx0.out.size; omega
    rintro e w3 ⟨rfl, h3, hx3⟩
    have hF3 : ∀ z, pb ≤ z → z < w0.heap.size → ¬ Grow F w0 wr z := fun z h1 h2 h => h.elim (HF.out z h1) fun h => by omega
    have hp0 := lt_of_heap P0.out
    have hs0 := lt_of_heap S0.out
    have pr := (Hxr.out.heap P0.out (HF.out pb (Nat.le_refl _)))
    have sr := (Hxr.out.heap S0.out (HF.out (pb + 1) (by omega)))
    have pr3 := hx3.heap pr (hF3 pb (by omega) hp0)
    have sr3 := hx3.heap sr (hF3 (pb + 1) (by omega) hs0)
    have d2 : w3.cell? ⟨pb, 1, none⟩ = some (.pointer (some ⟨r, 0, none⟩)) := by rw [cell_of_row w3 pb _ _ _ (0, 0) pr3]; rfl
    have d3 : w3.cell? ⟨pb + 1, 1, none⟩ = some (.int .i64 x) := by rw [cell_of_row w3 (pb + 1) _ _ _ (0, 0) sr3]; rfl
    have d4 : w3.cell? ⟨pb + 1, 2, none⟩ = some (.int .i64 y) := by rw [cell_of_row w3 (pb + 1) _ _ _ (0, 0) sr3]; rfl
    have d7 : w3.cell? ⟨pb + 1, 7, none⟩ = some (.slice adb b.length cb) := by rw [cell_of_row w3 (pb + 1) _ _ _ (0, 0) sr3]; rfl
    have H3 := Lib.hid h3
    have Hx3 := Lib.hid hx3
    have HF3 := Lib.hid hF3
    clear h3 hx3 pr sr pr3 sr3 c1 c2 c3 c4 c5 c7 hF3
    have hb3 : BytesAt w3 (.slice adb b.length cb) b := by
      refine (Hb.out.ext (Hx0.out.nilMono.trans' Hxr.out) Hsep.out).ext Hx3.out fun hb0 z hz hf => ?_
      have hzw := Hb.out.2.2 hb0 z hz
      rcases hf with h | h
      · exact Hsep.out hb0 z hz h
      · have := Hx0.out.size; omega
    have Hb3 := Lib.hid hb3
    clear hb3
    obtain ⟨sv, hsv⟩ : ∃ sv, sv = sendV n R' (x, y) b := ⟨_, rfl⟩
    rw [← hsv]
    have Hsv := Lib.hid hsv
    clear hsv
    go_wp2_with fail
    refine (half_ref H3.out (fun Fr hr => send_ref hr x y _ b Hb3.out)).mono ?_
    rintro e w4 ⟨rfl, h4, hx4⟩
    rw [← Hsv.out]
    have H4 := Lib.hid h4
    have Hx4 := Lib.hid hx4
    clear h4 hx4
    go_wp2
    go_roundw
    case rel =>
      refine ⟨k + 1, _, by go_num, by omega, few_send (b := b) Hfew'.out, H4.out.wide ?_ ?_, ?_⟩
      · intro z hz
        have h1 := Hxr.out.size; have h2 := Hx3.out.size; have h3 := Hx4.out.size
        exact grow_grow (by omega) h3 (hz.imp (fun h => grow_grow h1 h2 h) id)
      · intro z hz
        exact hz.elim (fun h => by have := Hx0.out.size; have := Hxr.out.size; have := Hx3.out.size; have := Hx4.out.size; have := H.out.bound z h; omega) (·.2)
      · refine Hxr.out.trans (Hx3.out.trans Hx4.out ?_) ?_
        · intro z hz hg
          exact hg.elim id fun h => by omega
        · intro z hz hg
          exact hg.elim id fun h => by omega
    case measure => simp [intOf]; omega
end
end Go.Proofs.YtbpjgdmmijehnaaDoor
