/-
  node of the program: a block without parents and operations is read; an empty one is not.
-/
import Derived.Test.YtggiknehmoaimaaGreatDoorRd
namespace Go.Proofs.YtggiknehmoaimaaGreatDoor
open Go Go.RowKit Go.X
theorem aNode : AggT Tryz.prog 36 4 := ⟨⟨_, Tryz.underlying36, rfl⟩, by kernel_rfl⟩
section
variable {w w' : World} {q r : Nat} {ad : Option Addr} {c : Nat} {L : Bytes} {p p' : Nat}
set_option maxHeartbeats 1000000 in
theorem get_zero (h : InIs w r ad c L p) (hr : rdNumber L p 1024 = .ok (0, p')) :
    Calls Tryz.prog 147 #[.pointer (some ⟨r, 0, none⟩)] w fun e w' => e = .returned (.tuple #[nilS, .nilIface]) ∧ InIs w' r ad c L p' ∧ Ext (fun b => b = r) w w' := by
  have Hc := Lib.hid (in_number_ok h hr)
  clear h hr
  go_enter Tryz.func147, Tryz.ntmps147
  go_wp2_with fail
  refine Hc.out.mono ?_
  rintro e w1 ⟨rfl, h1, hx1⟩
  have H1 := Lib.hid h1
  have Hx1 := Lib.hid hx1
  clear h1 hx1 Hc
  go_wp2_with fail
  refine wp_loop_rounds 1 ?_
  rw [rounds_succ]
  go_wp2
  go_ret2
  exact ⟨rfl, H1.out, Hx1.out⟩

/-- The bytes of a transaction without parents and operations. -/
structure PlainB (L : Bytes) (a : Nat) : Prop where
  form : L[0]? = some 1
  author : ∃ x : UInt8, L[1]? = some x ∧ x.toNat = a
  few : 1 ≤ a ∧ a ≤ 8
  rest : ∃ p1 p2, rdNumber L 2 4096 = .ok (1, p1) ∧ rdNumber L p1 64 = .ok (0, p2) ∧ rdNumber L p2 1024 = .ok (0, L.length)
def nodeV (a c : Int) (pv ov : Value) : Value := .agg #[.int .i64 a, .int .i64 c, pv, ov]

set_option maxRecDepth 100000 in
set_option maxHeartbeats 4000000 in
theorem node_plain {a : Nat} (h : RdAt w q r ad c L 0) (hL : PlainB L a) :
    Calls Tryz.prog 117 #[.pointer (some ⟨q, 0, none⟩)] w fun e w' => e = .returned (nodeV a 1 nilS nilS) ∧ Ext (Two q r) w w' := by
  obtain ⟨hf, ⟨x, hx, rfl⟩, ⟨ha1, ha8⟩, p1, p2, hn1, hn2, hn3⟩ := hL
  have hal := (Ext.refl Nil w).alloc (.cells #[.int .i64 0, .int .i64 0, nilS, nilS] 36)
  have hlt := h.lt
  obtain ⟨hlr, hlq⟩ := hlt
  have Hfar := Lib.hid h.inp.far
  have H := Lib.hid (h.ext0 hal)
  have Hal := Lib.hid (hal.nilMono (F := Two q r))
  have Hf := Lib.hid hf
  have Hx := Lib.hid hx
  have Hn1 := Lib.hid hn1
  have Hn2 := Lib.hid hn2
  have Hn3 := Lib.hid hn3
  clear h hal hf hx hn1 hn2 hn3
  go_enter Tryz.func117, Tryz.ntmps117
  go_wp2_with fail
  refine (rd_byte_ok H.out 1 Hf.out).mono ?_
  rintro e w1 ⟨rfl, h1, hx1⟩
  have H1 := Lib.hid h1
  have Hx1 := Lib.hid (Hal.out.trans' hx1)
  have HA := Lib.hid ((row_alloc w #[.int .i64 0, .int .i64 0, nilS, nilS] 36).ext hx1 (by unfold Two; omega))
  clear h1 hx1
  unfold bval
  go_wp2_with fail
  refine (bad_no _ _ _).mono ?_
  rintro e wb ⟨rfl, rfl⟩
  go_wp2_with fail
  refine (rd_byte_ok H1.out x Hx.out).mono ?_
  rintro e w2 ⟨rfl, h2, hx2⟩
  have hal2 := (Ext.refl Nil w2).alloc (.cells #[.int .i64 x.toNat, .int .i64 0, nilS, nilS] 36)
  have hs1 := Hx1.out.size
  have hs2 := hx2.size
  have Hsz := Lib.hid (Nat.le_trans hs1 hs2)
  have hsA : w.heap.size < w2.heap.size := Nat.lt_of_lt_of_le HA.out.lt hs2
  have HsA := Lib.hid hsA
  have H2 := Lib.hid (h2.ext0 hal2)
  have Hx2 := Lib.hid ((Hx1.out.trans' hx2).trans' hal2.nilMono)
  have HA2 := Lib.hid ((HA.out.ext hx2 (by unfold Two; omega)).ext0 hal2)
  have HB := Lib.hid (row_alloc w2 #[.int .i64 x.toNat, .int .i64 0, nilS, nilS] 36)
  clear h2 hx2 hal2
  have b1 : decide ((x.toNat : Int) < 1) = false := by simp; omega
  have b8 : decide (8 < (x.toNat : Int)) = false := by simp; omega
  have b1' : decide (x.toNat < 1) = false := by simp; omega
  have b8' : decide (8 < x.toNat) = false := by simp; omega
  unfold bval
  go_wp2_with fail
  refine (bad_no _ _ _).mono ?_
  rintro e wb ⟨rfl, rfl⟩
  clear b1 b8 b1' b8'
  go_wp2_with fail
  refine (rd_number_ok H2.out (by decide) Hn1.out).mono ?_
  rintro e w3 ⟨rfl, h3, hx3⟩
  have hs3 := hx3.size
  simp only [World.size_alloc] at hs3
  have HB3 := HB.out.ext hx3 (by unfold Two; omega)
  have hset := (Ext.refl (fun b => b = w2.heap.size) w3).setCell (p := ⟨w2.heap.size, 1, none⟩) (fun _ => rfl) (.int .i64 1)
  have B0 := HB3.cell (i := 0) rfl
  have B1 := HB3.cell (i := 1) rfl
  have Bf := HB3.frozen
  have H3 := Lib.hid (h3.ext hset (by omega) (by omega) (fun y hy (e : y.block = w2.heap.size) => by have := Hfar.out y hy; omega))
  have Hx3 := Lib.hid ((Hx2.out.trans' hx3).trans hset fun k hk (e : k = w2.heap.size) => absurd hk (by rw [e]; exact Nat.not_lt.2 Hsz.out))
  have HA3 := Lib.hid ((HA2.out.ext hx3 (by unfold Two; omega)).ext hset (Nat.ne_of_lt HsA.out))
  have HB3' := Lib.hid (HB3.set 1 (.int .i64 1))
  clear h3 hx3 hset HB3
  go_wp2_with fail
  refine (bad_no _ _ _).mono ?_
  rintro e wb ⟨rfl, rfl⟩
  go_wp2_with fail
  refine (rd_number_ok H3.out (by decide) Hn2.out).mono ?_
  rintro e w4 ⟨rfl, h4, hx4⟩
  have hs4 := hx4.size
  have hs3' : w2.heap.size + 1 ≤ w4.heap.size := by simp [World.setCell] at hs4; omega
  have H4 := Lib.hid h4
  have Hx4 := Lib.hid (Hx3.out.trans' hx4)
  have HA4 := Lib.hid (HA3.out.ext hx4 (by unfold Two; omega))
  have HB4 := HB3'.out.ext hx4 (by unfold Two; omega)
  have C1 := HB4.cell (i := 1) rfl
  have HB4' := Lib.hid HB4
  clear h4 hx4 HB4 B0 B1 Bf hs3 hs4
  go_wp2_with fail
  refine (bad_no _ _ _).mono ?_
  rintro e wb ⟨rfl, rfl⟩
  go_wp2_with fail
  refine wp_loop_rounds 1 ?_
  rw [rounds_succ]
  have cq := H4.out.row.cell (i := 0) rfl
  go_wp2_with fail
  refine (get_zero H4.out.inp Hn3.out).mono ?_
  rintro e w5 ⟨rfl, h5, hx5⟩
  have hs5 := hx5.size
  have HB5 := HB4'.out.ext hx5 (by omega)
  have hset := (Ext.refl (fun b => b = w2.heap.size) w5).setCell (p := ⟨w2.heap.size, 3, none⟩) (fun _ => rfl) nilS
  have D3 := HB5.cell (i := 3) rfl
  have Df := HB5.frozen
  have H5 := Lib.hid ((H4.out.step h5 hx5).ext hset (by omega) (by omega) (fun y hy (e : y.block = w2.heap.size) => by have := Hfar.out y hy; omega))
  have Hx5 := Lib.hid ((Hx4.out.trans' (two_of (q := q) hx5)).trans hset fun k hk (e : k = w2.heap.size) => absurd hk (by rw [e]; exact Nat.not_lt.2 Hsz.out))
  have HA5 := Lib.hid ((HA4.out.ext hx5 (by omega)).ext hset (Nat.ne_of_lt HsA.out))
  have HB5' := Lib.hid (HB5.set 3 nilS)
  have cq5 := H5.out.row.cell (i := 0) rfl
  have cq5' : w5.cell? ⟨q, 0, none⟩ = some (.pointer (some ⟨r, 0, none⟩)) := (H4.out.step h5 hx5).row.cell (i := 0) rfl
  clear h5 hx5 hset HB5 cq C1
  go_wp2_with fail
  refine (end_ok H5.out.inp rfl).mono ?_
  rintro e w6 ⟨rfl, hx6⟩
  have HA6 := Lib.hid (HA5.out.ext0 hx6)
  have HB6 := Lib.hid (HB5'.out.ext0 hx6)
  have Hx6 := Lib.hid (Hx5.out.trans' hx6.nilMono)
  clear hx6 D3 Df cq5 cq5'
  go_wp2_with (first
    | (refine wpList_load_all (o := ⟨some 107, _, _, _, _, _⟩) rfl (.tmp 3) rfl rfl aNode HB6.out rfl ?_)
    | (refine wpList_store_all (o := ⟨none, _, _, _, _, _⟩) rfl (.tmp 2) (.tmp 107) rfl rfl (vs := [.int .i64 x.toNat, .int .i64 1, nilS, nilS]) rfl aNode HA6.out rfl rfl (by intro v hv; simp at hv; rcases hv with rfl | rfl | rfl <;> rfl) ?_))
  exact bodyPost_ret (results_row (b := w.heap.size) (C := [.int .i64 x.toNat, .int .i64 1, nilS, nilS]) rfl rfl aNode (HA6.out.setRow _) rfl) rfl ⟨rfl, Hx6.out.setRow (fun h => by omega) _⟩
set_option maxRecDepth 100000 in
set_option maxHeartbeats 4000000 in
theorem node_empty (h : RdAt w q r ad c [] 0) :
    Calls Tryz.prog 117 #[.pointer (some ⟨q, 0, none⟩)] w (Stopped w q r 20 0) := by
  have hal := (Ext.refl Nil w).alloc (.cells #[.int .i64 0, .int .i64 0, nilS, nilS] 36)
  have Hc := Lib.hid (rd_byte_bad (h.ext0 hal) rfl)
  have Hal := Lib.hid (hal.nilMono (F := Two q r))
  clear h hal
  go_enter Tryz.func117, Tryz.ntmps117
  go_wp2_with fail
  refine Hc.out.mono ?_
  rintro e w1 ⟨a, rfl, h1, h2, h3, h4⟩
  have H1 : Hid (Stopped w q r 20 0 (.panicked [{ v := badV a, recovered := false }]) w1) := ⟨a, rfl, h1, by simp at h2; omega, h3, Hal.out.trans' h4⟩
  clear h1 h2 h3 h4
  unfold badV at H1 ⊢
  go_wp2
  exact ⟨rfl, H1.out⟩
end
end Go.Proofs.YtggiknehmoaimaaGreatDoor
