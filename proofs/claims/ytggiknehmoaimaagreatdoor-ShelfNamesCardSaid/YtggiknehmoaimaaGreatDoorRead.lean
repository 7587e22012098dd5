/-
  node's reader of the program: its parts; NewIn.
-/
import Derived.Test.YtggiknehmoaimaaGreatDoorInB
import Derived.Test.YtggiknehmoaimaaGreatDoorOf
namespace Go.X
open Go.RowKit
/-- Bytes that are handed in. -/
def BArg (w : World) (v : Value) (l : Bytes) : Prop := BytesIn w v l ∧ ∀ n c, v = .slice none n c → c = 0
theorem BArg.src {w : World} {v : Value} {l : Bytes} (h : BArg w v l) : Src w v 1 l.length (bv l) := by
  obtain ⟨⟨ad, c, rfl, hc, hb⟩, hz⟩ := h
  refine ⟨by rw [bv_length]; omega, bv_one l, ?_⟩
  cases ad with
  | none =>
    have h0 := hz _ _ rfl
    have : l.length = 0 := by omega
    exact .inl ⟨by rw [h0, this], this⟩
  | some a =>
    refine .inr (.inl ⟨a, c, rfl, fun j u hu => ?_⟩)
    simp only [bv, List.getElem?_map] at hu
    cases hx : l[j]? with
    | none => rw [hx] at hu; cases hu
    | some x =>
      rw [hx] at hu; cases hu
      obtain ⟨b, o, e, h1⟩ := hb j x hx
      injection e with e
      subst e
      rw [add_lit]; exact h1
theorem BArg.ext {F : Nat → Prop} {w w' : World} {v : Value} {l : Bytes} (h : BArg w v l) (hx : Ext F w w') (hn : l ≠ [] → ∀ b, v.ownBlock = some b → ¬ F b) : BArg w' v l := ⟨h.1.ext hx hn, h.2⟩
theorem BArg.ext0 {w w' : World} {v : Value} {l : Bytes} (h : BArg w v l) (hx : Ext Nil w w') : BArg w' v l := ⟨h.1.ext0 hx, h.2⟩
theorem Own.barg {w : World} {v : Value} {e : TypeId} {l : Bytes} {n : Nat} (h : Own w v e 1 n (bv l)) (hn : n = l.length) : BArg w v l := by
  refine ⟨bytesIn_own h hn, fun n' c hv => ?_⟩
  rcases h.shape with ⟨rfl, _, _⟩ | ⟨b, o, cap, rfl, _⟩
  · injection hv with _ _ h; exact h.symm
  · injection hv with h; cases h
end Go.X
namespace Go.Proofs.YtggiknehmoaimaaGreatDoor
open Go Go.RowKit Go.X

set_option maxRecDepth 100000 in
set_option maxHeartbeats 4000000 in
theorem newIn_any {w : World} {v : Value} {l : Bytes} (h : BArg w v l) (hl : l.length ≤ 140737488355328) :
    Calls Tryz.prog 81 #[v] w fun e w' => ∃ r ad c, e = .returned (.pointer (some ⟨r, 0, none⟩)) ∧ InIs w' r ad c l 0 ∧ w.heap.size ≤ r ∧ (∀ x, ad = some x → w.heap.size ≤ x.block) ∧ Ext Nil w w' := by
  have hs := Lib.hid h.src
  clear h
  go_enter Tryz.func81, Tryz.ntmps81
  go_wp2_with (at_builtin; refine wpList_append rfl _ _ _ rfl elB ⟨_, Tryz.underlying29, fun _ h => by cases h⟩ (Own.nil _ _ _) hs.out rfl rfl (by omega) (by unfold maxLen; omega) ?_; intro v' w' hA; rw [Nat.zero_add, List.nil_append] at hA; obtain ⟨ad, c, rfl⟩ := hA.own.slice; have HA := Lib.hid hA; clear hA)
  have hx : Ext Nil w w' := HA.out.ext.mono fun k _ h => by simp [Value.ownBlock] at h
  have hfar : ∀ b, (Value.slice ad l.length c).ownBlock = some b → w.heap.size ≤ b ∧ b < w'.heap.size := fun b hb => by
    rcases HA.out.lies with e | ⟨k, e, h1, h2⟩
    · rw [e] at hb; simp [Value.ownBlock] at hb
    · rw [hb] at e; cases e; exact ⟨h1, h2⟩
  have Hx := Lib.hid hx
  have Hfar := Lib.hid hfar
  clear hx hfar
  go_ret
  have hx2 := Hx.out.alloc (.cells #[.slice ad l.length c, .int .i64 0, .nilIface] 221)
  refine ⟨w'.heap.size, ad, c, rfl, ⟨row_alloc _ _ _, (Go.X.bytesIn_own HA.out.own rfl).ext0 ((Ext.refl Nil w').alloc _), fun x hx => ?_, Nat.zero_le _, hl, fun x hx => ?_⟩, Hx.out.size, fun x hx => ?_, hx2⟩
  · have := (Hfar.out x.block (by rw [hx]; rfl)).2; omega
  · have := (Hfar.out x.block (by rw [hx]; rfl)).2; simp; omega
  · exact (Hfar.out x.block (by rw [hx]; rfl)).1

/-- A node's reader. -/
structure RdAt (w : World) (q r : Nat) (ad : Option Addr) (c : Nat) (L : Bytes) (p : Nat) : Prop where
  row : Row w q 216 [.pointer (some ⟨r, 0, none⟩), .nilIface]
  inp : InIs w r ad c L p
  ne : q ≠ r
  sep : ∀ x, ad = some x → x.block ≠ q
/-- The two blocks of a reader. -/
def Two (q r : Nat) : Nat → Prop := fun b => b = q ∨ b = r
/-- A reader that has stopped. -/
def Stopped (w : World) (q r why at_ : Nat) (e : Ending) (w' : World) : Prop :=
  ∃ a, e = .panicked [{ v := badV a, recovered := false }] ∧ BadAt w' a why at_ ∧ w.heap.size ≤ a ∧ Row w' q 216 [.pointer (some ⟨r, 0, none⟩), badV a] ∧ Ext (Two q r) w w'
section
variable {w w' : World} {q r : Nat} {ad : Option Addr} {c : Nat} {L : Bytes} {p p' : Nat}
theorem RdAt.step (h : RdAt w q r ad c L p) (hi : InIs w' r ad c L p') (hx : Ext (fun b => b = r) w w') : RdAt w' q r ad c L p' :=
  ⟨h.row.ext hx h.ne, hi, h.ne, h.sep⟩
theorem RdAt.ext {F : Nat → Prop} (h : RdAt w q r ad c L p) (hx : Ext F w w') (hq : ¬ F q) (hr : ¬ F r) (ha : ∀ x, ad = some x → ¬ F x.block) : RdAt w' q r ad c L p :=
  ⟨h.row.ext hx hq, h.inp.ext hx hr ha, h.ne, h.sep⟩
theorem RdAt.ext0 (h : RdAt w q r ad c L p) (hx : Ext Nil w w') : RdAt w' q r ad c L p := h.ext hx id id fun _ _ => id
theorem two_of (hx : Ext (fun b => b = r) w w') : Ext (Two q r) w w' := hx.mono fun _ _ h => .inr h

set_option maxHeartbeats 1000000 in
theorem stop_any {a : Nat} {rp : Value} (row : Row w q 216 [rp, .nilIface]) :
    Calls Tryz.prog 148 #[.pointer (some ⟨q, 0, none⟩), badV a] w fun e w' => e = .panicked [{ v := badV a, recovered := false }] ∧ Row w' q 216 [rp, badV a] ∧ Ext (fun b => b = q) w w' := by
  have c1 := row.cell (i := 1) rfl
  have hf := row.frozen
  have Hrow := Lib.hid row
  clear row
  unfold badV
  go_enter Tryz.func148, Tryz.ntmps148
  go_wp2
  exact ⟨rfl, rfl, Hrow.out.set 1 _, (Ext.refl (fun b => b = q) w).setCell (fun _ => rfl) _⟩
set_option maxHeartbeats 1000000 in
theorem bad_no (rp : Value) (why at_ : Int) : Calls Tryz.prog 143 #[rp, .bool false, .int .i64 why, .int .i64 at_] w fun e w' => e = .returned (.tuple #[]) ∧ w = w' := by
  go_enter Tryz.func143, Tryz.ntmps143
  go_wp2
  exact bodyPost_end (results_none rfl _ _ _) rfl ⟨rfl, rfl⟩
set_option maxHeartbeats 1000000 in
theorem bad_yes (h : RdAt w q r ad c L p) (why at_ : Nat) (x y : Int) (hx : x = why) (hy : y = at_) : Calls Tryz.prog 143 #[.pointer (some ⟨q, 0, none⟩), .bool true, .int .i64 x, .int .i64 y] w (Stopped w q r why at_) := by
  subst hx hy
  have hr := h.row
  have hql := hr.lt
  have Hr := Lib.hid hr
  clear hr h
  go_enter Tryz.func143, Tryz.ntmps143
  go_wp2_with fail
  have hb := row_alloc w #[.int .i64 (why : Int), .int .i64 (at_ : Int)] 134
  have Hb := Lib.hid hb
  have hal := (Ext.refl Nil w).alloc (.cells #[.int .i64 (why : Int), .int .i64 (at_ : Int)] 134)
  refine (stop_any (a := w.heap.size) (Hr.out.ext0 hal)).mono ?_
  rintro e w' ⟨rfl, hrow, hx⟩
  have hfin : Stopped w q r why at_ (.panicked [{ v := badV w.heap.size, recovered := false }]) w' :=
    ⟨w.heap.size, rfl, hb.ext hx (by omega), Nat.le_refl _, hrow, (hal.nilMono.trans' (hx.mono fun _ _ h => Or.inl h : Ext (Two q r) _ w'))⟩
  have Hfin := Lib.hid hfin
  clear hfin hrow hx hb hal
  go_wp2
  exact ⟨rfl, Hfin.out⟩
end
end Go.Proofs.YtggiknehmoaimaaGreatDoor
