/-
  The contract of slices.Delete at one element of a row that owns its memory.
-/
import Derived.Test.YtbpjgdmmijehnaaDoorMeshJ
import Derived.Lib.SliceRun
namespace Go.Proofs.YtbpjgdmmijehnaaDoor
open Go.RowKit Go.X

section
variable {w : World}
theorem cutV_head (b o sz h cap : Nat) : cutV (some ⟨b, o, none⟩) sz 0 h cap = .slice (some ⟨b, o, none⟩) h cap := by
  unfold cutV
  split <;> simp [Addr.add]
/-- A cell behind the ones in use. -/
theorem _root_.Go.X.Own.past {b o cap m j : Nat} {e : TypeId} {xs : List Value} (h : Own w (.slice (some ⟨b, o, none⟩) m cap) e 1 m xs) (hj : m ≤ j) (u : Value) : Own (w.setCell ⟨b, o + j, none⟩ u) (.slice (some ⟨b, o, none⟩) m cap) e 1 m xs := by
  refine ⟨h.1, ?_⟩
  rcases h.2 with ⟨h, _⟩ | ⟨b', o', cap', C, hv, hb, h1, h2, h3, h4⟩
  · cases h
  injection hv with e1 _ e2
  injection e1 with e1
  injection e1 with e1 e3
  subst e1 e2 e3
  refine .inr ⟨b, o, cap, C.set! (o + j) u, rfl, ?_, h1, h2, by simpa using h3, fun i hi => ?_⟩
  · simp [World.setCell, Array.getElem?_modify, hb]
  · rw [← h4 i hi]
    simp only [Array.set!_eq_setIfInBounds]
    rw [Array.getElem?_setIfInBounds_ne (by omega)]
set_option maxRecDepth 100000 in
set_option maxHeartbeats 2000000 in
theorem delete_any {b o k cap i : Nat} {xs : List Value} (ho : Own w (.slice (some ⟨b, o, none⟩) (k + 1) cap) 32 1 (k + 1) xs) (hi : i < k + 1) (hn : k < 1024) (h1 : ∀ u ∈ xs, u.oneCell' = true) :
    Calls Tryd.prog 48 #[.slice (some ⟨b, o, none⟩) (k + 1) cap, .int .i64 i, .int .i64 ((i : Int) + 1)] w fun e w' => e = .returned (.slice (some ⟨b, o, none⟩) k cap) ∧
      Own w' (.slice (some ⟨b, o, none⟩) k cap) 32 1 k (xs.eraseIdx i) ∧ Ext (fun k => k = b) w w' ∧ w'.heap.size = w.heap.size := by
  have Ho := Lib.hid ho
  have hcap : k + 1 ≤ cap := by
    rcases ho.2 with ⟨h, _⟩ | ⟨_, _, _, _, h, _, h2, _⟩
    · cases h
    · injection h with _ _ e; omega
  have H1 := Lib.hid h1
  clear ho h1
  go_enter Tryd.func48, Tryd.ntmps48
  go_wp2
  refine X.wp_region_plan 6 [(0, true), (1, true), (2, true), (3, true), (4, true), (5, true)] [(6, false), (7, true)] (by kernel_rfl) (by kernel_rfl) (fun wd hxwd hh => ?_)
  have Hsd : Hid (wd.heap.size = w.heap.size) := by show wd.heap.size = w.heap.size; rw [hh]
  clear hh
  iterate 2
    refine X.wpE_still (o := ⟨_, _, _, _, _, _⟩) rfl rfl ?_
    apply Exists.intro
    refine ⟨fun w' hE => ?_, ?_⟩
    · go_simp
      rfl
    simp only [Act.put, List.setIfInBounds_toArray, List.set_cons_succ, List.set_cons_zero]
  refine X.wpE_still (o := ⟨_, _, _, _, _, _⟩) rfl rfl ?_
  refine ⟨.slice (some ⟨b, o, none⟩) i cap, fun w' hE => by rw [← cutV_head b o 1 i cap]; exact X.exec_slice (n := k + 1) rfl elBytes rfl (.inl ⟨rfl, rfl⟩) (.inr ⟨_, rfl⟩) (by omega) (by omega) w', ?_⟩
  simp only [Act.put, List.setIfInBounds_toArray, List.set_cons_succ, List.set_cons_zero]
  iterate 2
    refine X.wpE_still (o := ⟨_, _, _, _, _, _⟩) rfl rfl ?_
    apply Exists.intro
    refine ⟨fun w' hE => ?_, ?_⟩
    · go_simp
      rfl
    simp only [Act.put, List.setIfInBounds_toArray, List.set_cons_succ, List.set_cons_zero]
  obtain ⟨adc, nc, cc, hcv⟩ : ∃ x y z, cutV (some ⟨b, o, none⟩) 1 (i + 1) (k + 1) cap = .slice x y z := ⟨_, _, _, rfl⟩
  refine X.wpE_still (o := ⟨_, _, _, _, _, _⟩) rfl rfl ?_
  refine ⟨.slice adc nc cc, fun w' hE => by rw [← hcv]; exact X.exec_slice (n := k + 1) (l := i + 1) (h := k + 1) rfl elBytes rfl (.inr ⟨.i64, rfl⟩) (.inl ⟨rfl, rfl⟩) (by omega) (by omega) w', ?_⟩
  simp only [Act.put, List.setIfInBounds_toArray, List.set_cons_succ, List.set_cons_zero]
  refine X.wpE_nil ?_
  have hown : Own wd (.slice (some ⟨b, o, none⟩) (k + 1) cap) 32 1 (k + 1) xs := Ho.out.ext hxwd fun _ _ h => h
  have hlen : xs.length = k + 1 := by have := Ho.out.1; omega
  have hhead := hown.cut (l := 0) (h := i) (by omega) (by omega)
  have htail := hown.cut (l := i + 1) (h := k + 1) (by omega) (by omega)
  rw [hcv] at htail
  rw [cutV_head] at hhead
  have e1 : ((xs.drop (0 * 1)).take ((i - 0) * 1)) = xs.take i := by simp
  have e2 : ((xs.drop ((i + 1) * 1)).take ((k + 1 - (i + 1)) * 1)) = xs.drop (i + 1) := by
    rw [Nat.mul_one, Nat.mul_one, List.take_of_length_le]; rw [List.length_drop]; omega
  rw [e1] at hhead
  rw [e2] at htail
  have Hhead := Lib.hid hhead
  have Htail := Lib.hid (htail.src fun u hu => H1.out u (List.mem_of_mem_drop hu))
  have Hwd := Lib.hid hxwd
  clear hown hhead htail e1 e2 hcv hxwd
  refine X.wpT_loud (o := ⟨_, _, _, _, _, _⟩) rfl rfl ?_
  refine X.wp_append _ _ 25 rfl elBytes ⟨_, Tryd.underlying25, fun _ h => by cases h⟩ Hhead.out Htail.out rfl rfl (by omega) (by unfold maxLen; omega) ?_
  intro v7 w7 hA
  obtain ⟨hv7, hs7⟩ := hA.fit b o _ cap rfl (by omega)
  have e3 : i - 0 + (k + 1 - (i + 1)) = k := by omega
  rw [e3] at hv7 hA
  subst hv7
  have hown7 : Own w7 (.slice (some ⟨b, o, none⟩) k cap) 32 1 k (xs.eraseIdx i) := by
    have := hA.own
    rwa [← List.eraseIdx_eq_take_drop_succ] at this
  have hx7 : Ext (fun k => k = b) w w7 := Hwd.out.nilMono.trans hA.ext fun x _ e => by simpa [Value.ownBlock] using e.symm
  have Hown7 := Lib.hid hown7
  have Hx7 := Lib.hid hx7
  have Hs7 := Lib.hid hs7
  clear hA hown7 hx7 hs7 e3
  simp only [Act.put, List.setIfInBounds_toArray, List.set_cons_succ, List.set_cons_zero]
  repeat
    refine X.wpT_pure (o := ⟨_, _, _, _, _, _⟩) rfl rfl ?_
    apply Exists.intro
    refine ⟨fun w' => ?_, ?_⟩
    · go_simp
      rfl
    simp only [Act.put, List.setIfInBounds_toArray, List.set_cons_zero]
  refine X.wpT_nil ?_
  have hcl : ∀ ty, (Builtin.clear_ #[25] ty #[.slice (some ⟨b, o + k, none⟩) 1 (cap - k)]).run Tryd.prog w7 = .ok (.tuple #[]) (w7.setCell ⟨b, o + k, none⟩ nilS) := fun ty => by
    rcases Hown7.out.2 with ⟨h, _⟩ | ⟨b', o', cap', C, hv, hb, _, _, h3, _⟩
    · cases h
    injection hv with e1 _ e2
    injection e1 with e1
    injection e1 with e1 e3
    subst e1 e2 e3
    refine Lib.run_clear_slice (P := Tryd.prog) w7 25 32 ty nilS Tryd.underlying25 (fun w => by kernel_rfl) rfl rfl b (o + k) 1 (cap - k) (by omega) (fun j hj => ?_) fun j hj => Hown7.out.frozen _
    rw [cell_of_row w7 b (o + k + j) C 32 (0, 0) hb, Array.getElem?_eq_getElem (by omega)]
    rfl
  go_wp2
  go_ret
  refine ⟨rfl, Hown7.out.past (Nat.le_refl _) _, Hx7.out.setCell (fun _ => rfl) _, ?_⟩
  have h7 := Hs7.out
  have hd := Hsd.out
  simp only [World.setCell, Array.size_modify]
  omega
end
end Go.Proofs.YtbpjgdmmijehnaaDoor
