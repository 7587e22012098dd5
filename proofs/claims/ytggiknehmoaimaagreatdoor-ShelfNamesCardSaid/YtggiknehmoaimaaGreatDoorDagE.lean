/-
  The graph of the program, where a vertex has no parents: Add, Next.
-/
import Derived.Test.YtggiknehmoaimaaGreatDoorDagD
import Derived.Test.YtggiknehmoaimaaGreatDoorInC
namespace Go.X
open Go.RowKit
theorem one_start {Φ : World → Prop} {w : World} {A : Array Value} {e : TypeId} (h : ∀ W, Row W w.heap.size e A.toList → Ext Nil w W → Φ W) : Φ (w.alloc (.cells A e)) :=
  h _ (row_alloc w A e) ((Ext.refl Nil w).alloc _)
end Go.X
namespace Go.Proofs.YtggiknehmoaimaaGreatDoor
open Go Go.RowKit Go.X
section
variable {d : Nat} {D : DagS} {w : World}
set_option maxRecDepth 100000 in
set_option maxHeartbeats 4000000 in
theorem add_took (k : Hash) (h : DagAt w d D) (hk : (X.get D.LH k).isSome = false) (hk2 : (X.get D.LW k).isSome = false) (hn : D.LH.length < 4096) : Calls Tryz.prog 39 #[.pointer (some ⟨d, 0, none⟩), VX k 1] w fun e w' => e = .returned (.tuple #[.int .i64 2, nilS, .int .i64 0]) ∧ ∃ D', DagAt w' d D' ∧ Held D D' k ∧ Ext (fun b => b = D.held ∨ b = D.heads) w w' := by
  have hlen := vertexC_length k.1 k.2 1 nilS
  have hfit := fun (w : World) (h : DagAt w d D) => fit_took k h hk hk2 hn
  have hown := own_none k 1
  have hhold := fun (w : World) (h : DagAt w d D) => hold_none k h
  unfold VX at hfit hown hhold ⊢
  generalize vertexC k.1 1 nilS = E at hlen hfit hown hhold ⊢
  have Hlen := Lib.hid hlen
  have Hfit := Lib.hid hfit
  have Hown := Lib.hid hown
  have Hhold := Lib.hid hhold
  have hr := row_alloc w E.toArray 94
  have hal := (Ext.refl Nil w).alloc (.cells E.toArray 94)
  have H := Lib.hid (h.ext0 hal)
  have Hr := Lib.hid hr
  have Hal := Lib.hid hal
  clear hlen hfit hown hhold hr hal h hk hk2 hn
  go_enter Tryz.func39, Tryz.ntmps39
  go_wp2_with (refine wpList_load_all (o := ⟨some 9, _, _, _, _, _⟩) rfl (.tmp 3) rfl rfl aVertex Hr.out Hlen.out ?_)
  refine (Hfit.out _ H.out).mono ?_
  rintro e w1 ⟨rfl, hx1⟩
  have Hx1 := Lib.hid (Hal.out.extN hx1)
  have H1 := Lib.hid (H.out.ext0 hx1)
  have Hr1 := Lib.hid (Hr.out.ext0 hx1)
  clear hx1
  go_wp2_with (refine wpList_load_all (o := ⟨some 17, _, _, _, _, _⟩) rfl (.tmp 3) rfl rfl aVertex Hr1.out Hlen.out ?_)
  refine (Hown.out w1).mono ?_
  rintro e w2 ⟨rfl, hx2⟩
  have Hx2 := Lib.hid (Hx1.out.extN hx2)
  have H2 := Lib.hid (H1.out.ext0 hx2)
  clear hx2
  go_wp2_with fail
  refine (Hhold.out _ H2.out).mono ?_
  rintro e w3 ⟨rfl, D', h3, hh3, hx3⟩
  have Hf := Lib.hid (show ∃ D', DagAt w3 d D' ∧ Held D D' k ∧ Ext (fun b => b = D.held ∨ b = D.heads) w w3 from ⟨D', h3, hh3, Hx2.out.nilMono.trans' hx3⟩)
  clear h3 hh3 hx3
  go_wp2
  go_ret3
  exact ⟨rfl, Hf.out⟩
set_option maxRecDepth 100000 in
set_option maxHeartbeats 4000000 in
theorem next_none (h : DagAt w d D) (ho : D.old = nilS) : Calls Tryz.prog 76 #[.pointer (some ⟨d, 0, none⟩)] w fun e w' => e = .returned (.tuple #[zeroV, .bool false]) ∧ Ext Nil w w' := by
  go_enter Tryz.func76, Tryz.ntmps76
  go_upto_region 1 with (fail)
  refine Go.X.one_start (Φ := fun W => Code.wp _ _ _ _ W) ?_
  intro W hz hx
  have c4 := (h.ext0 hx).row.cell (i := 4) rfl
  rw [ho] at c4
  have Hz := Lib.hid hz
  have Hx := Lib.hid hx
  clear h ho hz hx
  go_wp2_with fail
  refine wp_loop_rounds 1 ?_
  rw [rounds_succ]
  go_wp2_with (refine wpList_store_all (o := ⟨none, _, _, _, _, _⟩) rfl (.tmp 2) (.tmp 28) rfl rfl (vs := vertexC (List.replicate 32 0) 0 nilS) rfl aVertex Hz.out rfl rfl (vertexC_one _ _ _ rfl) ?_)
  exact bodyPost_ret (results_row_tmp (b := w.heap.size) (C := vertexC (List.replicate 32 0) 0 nilS) rfl rfl rfl aVertex (Hz.out.setRow _) rfl) rfl ⟨rfl, Hx.out.setRow (fun h => by omega) _⟩
end
end Go.Proofs.YtggiknehmoaimaaGreatDoor
