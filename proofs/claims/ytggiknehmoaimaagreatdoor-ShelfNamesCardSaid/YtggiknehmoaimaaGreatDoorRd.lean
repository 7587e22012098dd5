/-
  node's reader of the program: byte, number, hash.
-/
import Derived.Test.YtggiknehmoaimaaGreatDoorInD
namespace Go.Proofs.YtggiknehmoaimaaGreatDoor
open Go Go.RowKit Go.X
section
variable {w w' : World} {q r : Nat} {ad : Option Addr} {c : Nat} {L : Bytes} {p p' : Nat}
/-- What has failed stops the reader. -/
theorem stopped_of {w1 : World} {a why at_ : Nat} (h : RdAt w q r ad c L p) (hf : w.heap.size ≤ a ∧ BadAt w1 a why at_ ∧ Ext (fun b => b = r) w w1) :
    Calls Tryz.prog 148 #[.pointer (some ⟨q, 0, none⟩), badV a] w1 fun e w' => e = .panicked [{ v := badV a, recovered := false }] ∧ Stopped w q r why at_ e w' :=
  (stop_any (a := a) (h.row.ext hf.2.2 h.ne)).mono fun e w' ⟨he, hrow, hx⟩ => by
    have hq := h.row.lt
    exact ⟨he, a, he, Go.X.Row.ext hf.2.1 hx (by omega), hf.1, hrow, (two_of hf.2.2).trans' (hx.mono fun _ _ h => Or.inl h : Ext (Two q r) w1 w')⟩

set_option maxHeartbeats 1000000 in
theorem rd_byte_ok (h : RdAt w q r ad c L p) (x : UInt8) (hx : L[p]? = some x) :
    Calls Tryz.prog 144 #[.pointer (some ⟨q, 0, none⟩)] w fun e w' => e = .returned (bval x) ∧ RdAt w' q r ad c L (p + 1) ∧ Ext (Two q r) w w' := by
  have c0 := h.row.cell (i := 0) rfl
  have H := Lib.hid h
  have Hc := Lib.hid (byte_ok h.inp x hx)
  clear h hx
  go_enter Tryz.func144, Tryz.ntmps144
  go_wp2_with fail
  refine Hc.out.mono ?_
  rintro e w1 ⟨rfl, h1, hx1⟩
  have H1 := Lib.hid (H.out.step h1 hx1)
  have Hx1 := Lib.hid (two_of (q := q) hx1)
  clear h1 hx1
  unfold bval
  go_wp2
  go_ret
  exact ⟨rfl, H1.out, Hx1.out⟩
set_option maxHeartbeats 1000000 in
theorem rd_byte_bad (h : RdAt w q r ad c L p) (hp : p = L.length) :
    Calls Tryz.prog 144 #[.pointer (some ⟨q, 0, none⟩)] w (Stopped w q r 20 p) := by
  have c0 := h.row.cell (i := 0) rfl
  have H := Lib.hid h
  have Hc := Lib.hid (byte_short h.inp hp)
  have hbn := bad_neq
  clear h hp
  go_enter Tryz.func144, Tryz.ntmps144
  go_wp2_with fail
  refine Hc.out.mono ?_
  rintro e w1 ⟨a, rfl, h1⟩
  have Hs := Lib.hid (stopped_of H.out h1)
  unfold badV at Hs ⊢
  clear h1
  go_wp2_with fail
  refine Hs.out.mono ?_
  rintro e w2 ⟨rfl, h2⟩
  have H2 := Lib.hid h2
  clear h2
  go_wp2
  exact ⟨rfl, H2.out⟩
set_option maxHeartbeats 1000000 in
theorem rd_number_ok (h : RdAt w q r ad c L p) {most x : Nat} (hm : most < 9223372036854775808) (hr : rdNumber L p most = .ok (x, p')) :
    Calls Tryz.prog 145 #[.pointer (some ⟨q, 0, none⟩), .int .i64 most] w fun e w' => e = .returned (.int .i64 x) ∧ RdAt w' q r ad c L p' ∧ Ext (Two q r) w w' := by
  have c0 := h.row.cell (i := 0) rfl
  have H := Lib.hid h
  obtain ⟨n, _, hx, _⟩ := Go.X.rdNumber_ok hr
  have hcv := most_wrap hm
  have hxw := i64_small (m := x) (by omega)
  have Hc := Lib.hid (in_number_ok h.inp hr)
  clear h hm hr hx
  go_enter Tryz.func145, Tryz.ntmps145
  go_wp2_with fail
  refine Hc.out.mono ?_
  rintro e w1 ⟨rfl, h1, hx1⟩
  have H1 := Lib.hid (H.out.step h1 hx1)
  have Hx1 := Lib.hid (two_of (q := q) hx1)
  clear h1 hx1
  go_wp2
  go_ret
  exact ⟨rfl, H1.out, Hx1.out⟩
set_option maxHeartbeats 1000000 in
theorem rd_number_bad (h : RdAt w q r ad c L p) {most : Nat} {b : BadD} (hm : most < 9223372036854775808) (hr : rdNumber L p most = .error b) :
    Calls Tryz.prog 145 #[.pointer (some ⟨q, 0, none⟩), .int .i64 most] w (Stopped w q r b.why b.at_) := by
  have c0 := h.row.cell (i := 0) rfl
  have H := Lib.hid h
  have hcv := most_wrap hm
  have Hc := Lib.hid (in_number_bad h.inp hr)
  have hbn := bad_neq
  clear h hr hm
  go_enter Tryz.func145, Tryz.ntmps145
  go_wp2_with fail
  refine Hc.out.mono ?_
  rintro e w1 ⟨a, rfl, h1⟩
  have Hs := Lib.hid (stopped_of H.out h1)
  unfold badV at Hs ⊢
  clear h1
  go_wp2_with fail
  refine Hs.out.mono ?_
  rintro e w2 ⟨rfl, h2⟩
  have H2 := Lib.hid h2
  clear h2
  go_wp2
  exact ⟨rfl, H2.out⟩
theorem RdAt.lt (h : RdAt w q r ad c L p) : r < w.heap.size ∧ q < w.heap.size := ⟨h.inp.row.lt, h.row.lt⟩
theorem rd_start {Φ : World → Prop} {w1 : World} {C D : Array Value} {e : TypeId} {Z : List Value} {b : Nat} (hb : b = w1.heap.size) (h : ∀ W, Row W b e Z → Ext Nil w1 W → Φ W) (hZ : Z = D.toList) : Φ ((w1.alloc (.cells C e)).setRow b D) := by
  subst hb hZ
  exact h _ (by have := (row_alloc w1 C e).setRow D.toList; simpa using this) (((Ext.refl Nil w1).alloc _).setRow (fun h => by omega) _)
set_option maxRecDepth 100000 in
set_option maxHeartbeats 4000000 in
theorem rd_hash_ok (h : RdAt w q r ad c L p) (hp : p + 32 ≤ L.length) :
    Calls Tryz.prog 146 #[.pointer (some ⟨q, 0, none⟩)] w fun e w' => e = .returned (av ((L.drop p).take 32)) ∧ RdAt w' q r ad c L (p + 32) ∧ Ext (Two q r) w w' := by
  have c0 := h.row.cell (i := 0) rfl
  have hal := (Ext.refl Nil w).alloc (.cells (bv (List.replicate 32 0)).toArray 27)
  have hlt := h.lt
  have hsep : ∀ x, ad = some x → x.block ≠ w.heap.size := fun x hx e => by have := h.inp.far x hx; omega
  have Hsep := Lib.hid hsep
  clear hsep
  have H := Lib.hid (h.ext0 hal)
  have Hc := Lib.hid (in_hash_ok (h.ext0 hal).inp hp)
  have hlen : (bv ((L.drop p).take 32)).length = 32 := by rw [bv_length, List.length_take, List.length_drop]; omega
  have Hlen := Lib.hid hlen
  have Hal := Lib.hid hal
  obtain ⟨hlr, hlq⟩ := hlt
  clear h hal hlen
  go_enter Tryz.func146, Tryz.ntmps146
  go_wp2_with fail
  refine Hc.out.mono ?_
  rintro e w1 ⟨rfl, h1, hx1⟩
  have H1 := Lib.hid (H.out.step h1 hx1)
  have Hx1 := Lib.hid (Hal.out.nilMono.trans' (two_of (q := q) hx1))
  have Hrow := Lib.hid ((row_alloc w (bv (List.replicate 32 0)).toArray 27).ext hx1 (by omega))
  clear h1 hx1 Hc
  unfold av
  go_wp2_with (first
    | (refine wpList_store_all (o := ⟨none, _, _, _, _, _⟩) rfl (.tmp 3) (.tmp 11) rfl rfl (vs := bv ((L.drop p).take 32)) rfl aHash (row_alloc w1 _ _) rfl Hlen.out (bv_one _) ?_; refine rd_start (Φ := fun W => wpList _ _ _ _ _ W) rfl ?_ rfl; intro W hW hxW; have HW := Lib.hid hW; have HxW := Lib.hid hxW; clear hW hxW)
    | (refine wpList_load_all (o := ⟨some 18, _, _, _, _, _⟩) rfl (.tmp 3) rfl rfl aHash HW.out Hlen.out ?_)
    | (refine wpList_store_all (o := ⟨none, _, _, _, _, _⟩) rfl (.tmp 2) (.tmp 18) rfl rfl (vs := bv ((L.drop p).take 32)) rfl aHash (Hrow.out.ext0 HxW.out) rfl Hlen.out (bv_one _) ?_))
  have hx2 := Hx1.out.trans' HxW.out.nilMono
  have hxs := (Ext.refl (fun b => b = w.heap.size) W).setRow (b := w.heap.size) (fun _ => rfl) (bv ((L.drop p).take 32)).toArray
  refine bodyPost_ret (results_row (b := w.heap.size) (C := bv ((L.drop p).take 32)) rfl rfl aHash ((Hrow.out.ext0 HxW.out).setRow _) Hlen.out) rfl ⟨rfl, (H1.out.ext0 HxW.out).ext hxs (by omega) (by omega) Hsep.out, hx2.setRow (fun h => by omega) _⟩
set_option maxRecDepth 100000 in
set_option maxHeartbeats 4000000 in
theorem rd_hash_bad (h : RdAt w q r ad c L p) (hp : L.length < p + 32) :
    Calls Tryz.prog 146 #[.pointer (some ⟨q, 0, none⟩)] w (Stopped w q r 20 p) := by
  have c0 := h.row.cell (i := 0) rfl
  have hal := (Ext.refl Nil w).alloc (.cells (bv (List.replicate 32 0)).toArray 27)
  have H := Lib.hid (h.ext0 hal)
  have Hc := Lib.hid (in_hash_short (h.ext0 hal).inp hp)
  have Hal := Lib.hid hal
  have hbn := bad_neq
  have hql := h.lt.2
  clear h hal
  go_enter Tryz.func146, Tryz.ntmps146
  go_wp2_with fail
  refine Hc.out.mono ?_
  rintro e w1 ⟨a, rfl, h1⟩
  have hrd := H.out.row.ext h1.2.2 H.out.ne
  have hal1 := (Ext.refl Nil w1).alloc (.cells (bv (List.replicate 32 0)).toArray 27)
  have hbig : w.heap.size + 1 ≤ w1.heap.size := by have := h1.2.2.size; simpa using this
  have Hb := Lib.hid h1.2.1
  have ha : w.heap.size < a := by have := h1.1; simp at this; omega
  have hx1 := Hal.out.nilMono.trans' (two_of (q := q) h1.2.2)
  have Hrd := Lib.hid hrd
  have Hx1 := Lib.hid hx1
  clear h1 hrd hx1 hal1
  unfold badV av
  go_wp2_with (refine wpList_store_all (o := ⟨none, _, _, _, _, _⟩) rfl (.tmp 3) (.tmp 11) rfl rfl (vs := bv (List.replicate 32 0)) rfl aHash (row_alloc w1 _ _) rfl rfl (bv_one _) ?_; refine rd_start (Φ := fun W => wpList _ _ _ _ _ W) rfl ?_ rfl; intro W hW hxW; have HxW := Lib.hid hxW; clear hW hxW)
  have hst := stop_any (a := a) (Hrd.out.ext0 HxW.out)
  unfold badV at hst
  refine hst.mono ?_
  rintro e w2 ⟨rfl, hrow, hx⟩
  have hq2 := hx
  have H2 : Hid (Stopped w q r 20 p (.panicked [{ v := badV a, recovered := false }]) w2) :=
    ⟨a, rfl, Go.X.Row.ext (Go.X.Row.ext0 Hb.out HxW.out) hx (by omega), by omega, hrow, (Hx1.out.trans' HxW.out.nilMono).trans' (hx.mono fun _ _ h => Or.inl h : Ext (Two q r) W w2)⟩
  clear hx hq2 hrow hst
  unfold badV at H2
  go_wp2
  exact ⟨rfl, H2.out⟩
end
end Go.Proofs.YtggiknehmoaimaaGreatDoor
