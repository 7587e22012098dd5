/-
  The calls whose answers the document fixes; MeshNames.
-/
import Derived.Test.YtbpjgdmmijehnaaDoorLaw
namespace Go.Proofs.YtbpjgdmmijehnaaDoor
open Go.RowKit Go.X

/-- All blocks from a number on. -/
def From (base : Nat) (w : World) (b : Nat) : Prop := base ≤ b ∧ b < w.heap.size
/-- A mesh that the call has made: its memory lies from base on. -/
def MeshB (base : Nat) (w : World) (a : Nat) (n : Int) (R : Lk → List (List UInt8)) : Prop := IsMesh w a n 0 R (From base w)

section
variable {base : Nat} {w w' : World} {a : Nat} {n : Int} {R R' : Lk → List (List UInt8)} {F : Nat → Prop} {v : Value} {e : Ending}
theorem did_from (h : Did v w a n R' F e w') (hF : ∀ b, F b → base ≤ b) (hb : base ≤ w.heap.size) : e = .returned v ∧ MeshB base w' a n R' ∧ Below base w w' := by
  obtain ⟨h1, h2, h3⟩ := h
  refine ⟨h1, h2.wide (fun b hb' => ⟨hb'.elim (hF b) fun h => by omega, ?_⟩) fun b h => h.2, h3.below hb hF⟩
  exact hb'.elim (fun hf => Nat.lt_of_lt_of_le (h2.bound b (.inl hf)) (Nat.le_refl _)) fun h => h.2
theorem from_base : ∀ b, From base w b → base ≤ b := fun _ h => h.1
theorem ext_below (h : Ext Nil w w') (hb : base ≤ w.heap.size) : Below base w w' := h.below hb fun _ h => h.elim

/-- A take's answer, where the mesh is the call's own. -/
theorem took_some {idle : Value} {k : Lk} {l : List UInt8} {L : List (List UInt8)} (h : TookV idle w a n R (From base w) k e w') (hb : base ≤ w.heap.size) (ht : thereB n k = true) (hR : R k = l :: L) :
    ∃ m, e = .returned (.tuple #[m, .nilIface]) ∧ BytesArg w' m l ∧ IsMesh w' a n 0 (upd R k L) (fun b => From base w' b ∧ m.ownBlock ≠ some b) ∧ Below base w w' := by
  unfold TookV at h
  rw [ht, if_pos rfl, hR] at h
  obtain ⟨m, h1, h2, h3, h4, h5⟩ := h
  have h2' : Own w' m 5 1 l.length (bv l) := h2
  obtain ⟨ad, c, rfl⟩ := h2'.slice
  refine ⟨_, h1, ⟨h2'.src (bv_one l), ad, c, rfl⟩, h3.wide (fun b hb' => ⟨⟨hb'.1.elim (fun h => h.1) fun h => by omega, h3.bound b hb'⟩, hb'.2⟩) (fun b h => h.1.2), h4.below hb fun _ h => h.1⟩
theorem took_none {idle : Value} {k : Lk} (h : TookV idle w a n R F k e w') (hb : base ≤ w.heap.size) (hF : ∀ b, F b → base ≤ b) (ht : thereB n k = true) (hR : R k = []) :
    e = .returned (.tuple #[nilS, idle]) ∧ MeshB base w' a n R ∧ Below base w w' ∧ Ext F w w' := by
  unfold TookV at h
  rw [ht, if_pos rfl, hR] at h
  obtain ⟨h1, h2, h3⟩ := did_from h hF hb
  exact ⟨h1, h2, h3, h.2.2⟩
end

/-- The global variable ErrIdle, where the law begins. -/
def IdleAt (w : World) (idle : Value) : Prop := IsIdle idle ∧ w.cell? ⟨0, 0, none⟩ = some idle

theorem IdleAt.below {w w' : World} {idle : Value} (h : IdleAt w idle) {base : Nat} (hx : Below base w w') (hb : 0 < base) : IdleAt w' idle := ⟨h.1, by rw [hx.cell (by exact hb)]; exact h.2⟩
theorem IdleAt.pos {w : World} {idle : Value} (h : IdleAt w idle) : 0 < w.heap.size := World.block_lt_of_cell? w _ h.2

def R0 : Lk → List (List UInt8) := fun _ => []
def R1 : Lk → List (List UInt8) := upd R0 (1, 2) [[11, 12]]
def R2 : Lk → List (List UInt8) := upd R1 (1, 2) [[11, 140]]
def R3 : Lk → List (List UInt8) := upd R2 (1, 2) []

theorem bytes_new (w : World) (l : List UInt8) : BytesArg (w.alloc (.cells (bv l).toArray 5)) (.slice (some ⟨w.heap.size, 0, none⟩) l.length l.length) l := by
  have := src_new w (bv l) 5 (bv_one l)
  rw [bv_length] at this
  exact ⟨this, _, _, rfl⟩

set_option maxRecDepth 100000 in
set_option maxHeartbeats 4000000 in
theorem fixed_any {w : World} {idle : Value} (hi : IdleAt w idle) : Calls Tryd.prog 7 #[] w fun e w' => e = .returned (.bool true) ∧ Ext Nil w w' := by
  have h0 := hi.pos
  obtain ⟨base, hbase⟩ : ∃ base, base = w.heap.size := ⟨_, rfl⟩
  have Hi := Lib.hid hi; clear hi
  have Hb := Lib.hid hbase
  rw [← hbase] at h0
  clear hbase
  go_enter Tryd.func7, Tryd.ntmps7
  go_wp2_with fail
  refine (new_any 2 w).mono ?_
  intro e w1 h
  unfold NewV at h
  rw [if_pos (by decide)] at h
  obtain ⟨a, rfl, M1, hx1⟩ := h
  have M1' : MeshB base w1 a 2 R0 := by unfold MeshB From; rw [Hb.out]; exact M1
  have Hx1 := Lib.hid (show Below base w w1 from ext_below hx1 (by rw [Hb.out]; exact Nat.le_refl _))
  have HM1 := Lib.hid M1'
  clear M1 M1' hx1
  go_wp2_with fail
  have hs1 := Hx1.out.size
  rw [← Hb.out] at hs1
  have hs := send_any (IsMesh.grown HM1.out (w' := w1.alloc (Obj.cells #[Value.int IntKind.u8 11, Value.int IntKind.u8 12] 5)) ((Ext.refl _ _).alloc _)) 1 2 (.slice (some ⟨w1.heap.size, 0, none⟩) 2 2) [11, 12] (bytes_new w1 [11, 12]) (fun _ k hk hf => by
    have e1 : w1.heap.size = k := by simpa [Value.ownBlock] using hk
    have := hf.2; omega)
  refine hs.mono ?_
  clear hs
  intro e w2 h
  obtain ⟨rfl, M2, hx2⟩ := did_from h from_base (by simp; omega)
  have e0 : sendV 2 R0 (1, 2) [11, 12] = 0 := by decide
  have e1 : sendR 2 R0 (1, 2) [11, 12] = R1 := by unfold sendR; rw [e0]; rfl
  rw [e1] at M2
  rw [e0]
  have Hx2 : Hid (Below base w1 w2) := Below.trans (ext_below ((Ext.refl _ _).alloc _) hs1) hx2
  have HM2 := Lib.hid M2
  have hs2 : base ≤ w2.heap.size := Nat.le_trans hs1 Hx2.out.size
  have Hs2 := Lib.hid hs2
  clear M2 hx2 e0 e1 h hs1 hs2
  go_wp2_with fail
  have hf : Calls Tryd.prog 14 #[.pointer (some ⟨a, 0, none⟩), .int .i64 1, .int .i64 2, .int .i64 0, .int .i64 3, .int .u8 128] w2 (Did (.int .i64 (flipV 2 R1 (1, 2) 0 128)) w2 a 2 (flipR 2 R1 (1, 2) 0 3 128) (From base w2)) :=
    flip_any HM2.out 1 2 0 3 128 (by decide)
  refine hf.mono ?_
  clear hf
  intro e w3 h
  obtain ⟨rfl, M3, hx3⟩ := did_from h from_base Hs2.out
  have e0 : flipV 2 R1 (1, 2) 0 128 = 0 := by decide
  have e1 : flipR 2 R1 (1, 2) 0 3 128 = R2 := by unfold flipR; rw [e0]; rfl
  rw [e1] at M3
  rw [e0]
  have Hx3 := Lib.hid hx3
  have HM3 := Lib.hid M3
  have Hs3 := Lib.hid (Nat.le_trans Hs2.out hx3.size)
  clear M3 hx3 e0 e1 h
  go_wp2_with fail
  have Hi3 : Hid (IdleAt w3 idle) := Hi.out.below (Hx1.out.trans (Hx2.out.trans Hx3.out)) h0
  refine (take_any HM3.out 1 2 idle Hi3.out.2 (fun h => by have := h.1; omega) (by decide)).mono ?_
  intro e w4 h
  obtain ⟨m, rfl, hm, M4, hx4⟩ := took_some h Hs3.out (by decide) (show R2 (1, 2) = [11, 140] :: [] from rfl)
  have e1 : upd R2 (1, 2) [] = R3 := rfl
  rw [e1] at M4
  have Hx4 := Lib.hid hx4
  have HM4 := Lib.hid M4
  have Hs4 := Lib.hid (Nat.le_trans Hs3.out hx4.size)
  have Hm := Lib.hid hm
  clear M4 hx4 hm e1 h
  go_wp2_with fail
  have Hi4 : Hid (IdleAt w4 idle) := Hi3.out.below Hx4.out h0
  refine (take_any HM4.out 1 2 idle Hi4.out.2 (fun h => by have := h.1.1; omega) (by decide)).mono ?_
  intro e w5 h
  obtain ⟨rfl, M5, hx5, hx5'⟩ := took_none h Hs4.out (fun _ h => h.1.1) (by decide) (show R3 (1, 2) = [] from rfl)
  have Hi5 : Hid (IdleAt w5 idle) := Hi4.out.below hx5 h0
  have Hx5 := Lib.hid hx5
  have hg := Hi5.out.2
  have Hm5 : Hid (BytesArg w5 m [11, 140]) := ⟨Hm.out.1.ext hx5' fun b hb h => h.2 hb, Hm.out.2⟩
  clear M5 hx5 hx5' h
  go_wp2_with (go_at_call 13; refine (oneErr_same Hi5.out.1).mono ?_; rintro e w6 ⟨rfl, rfl⟩)
  have hal : Ext Nil w5 (w5.alloc (Obj.cells #[Value.int IntKind.u8 11, Value.int IntKind.u8 140] 5)) := (Ext.refl _ _).alloc _
  refine (same_any (l := [11, 140]) (m := [11, 140]) ⟨Hm5.out.1.ext hal fun _ _ h => h, Hm5.out.2⟩ (bytes_new w5 [11, 140])).mono ?_
  rintro e w6 ⟨rfl, rfl⟩
  go_wp2
  go_ret
  refine ⟨rfl, Ext.of_below ?_⟩
  rw [← Hb.out]
  exact (Hx1.out.trans (Hx2.out.trans (Hx3.out.trans (Hx4.out.trans Hx5.out)))).trans (ext_below hal (Nat.le_trans Hs4.out Hx5.out.size))

set_option maxHeartbeats 400000 in
theorem names_any {w : World} {idle : Value} (hi : IdleAt w idle) : Calls Tryd.prog 3 #[] w fun e w' => e = .returned (.bool true) ∧ Ext Nil w w' := by
  have Hi := Lib.hid hi
  have h0 := hi.pos
  obtain ⟨⟨p, rfl⟩, hg⟩ := hi
  have h1 : ∀ w, (binOp .neq 24 (.iface 104 (.pointer (some p))) .nilIface).run Tryd.prog w = .ok (.bool true) w := fun w => by
    have h : ∀ d : Nat, (Op.equalIn (d + 1) 24 (.iface 104 (.pointer (some p))) .nilIface).run Tryd.prog w = .ok false w := fun d => by simp [Op.equalIn, run_underlying Tryd.underlying24]
    simp only [binOp]
    simp [Op.equal, Op.maxDepth, h 9999]
  go_enter Tryd.func3, Tryd.ntmps3
  go_wp2_with fail
  refine (fixed_any Hi.out).mono ?_
  rintro e w1 ⟨rfl, hx⟩
  have hg1 := hx.cell hg id
  have Hx := Lib.hid hx; clear hx
  go_wp2
  go_ret
  exact ⟨rfl, Hx.out⟩
end Go.Proofs.YtbpjgdmmijehnaaDoor
