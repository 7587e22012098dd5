/-
  MeshDoes: its walk.
-/
import Derived.Test.YtbpjgdmmijehnaaDoorRest
namespace Go.Proofs.YtbpjgdmmijehnaaDoor
open Go.RowKit Go.X

abbrev Ids := Nat × Nat × Int
/-- Two pairs (or one, twice), and the book. -/
def Sys (w : World) (A C : Ids) (bk : Nat) (G : Nat → Prop) : Prop :=
  ∃ FA FC os q vo vw K, Alike w A.1 A.2.1 A.2.2 FA ∧ Alike w C.1 C.2.1 C.2.2 FC ∧ ((A = C ∧ FA = FC) ∨ ∀ b, FA b → ¬ FC b) ∧ BookAt w bk os q vo vw K ∧ os.length < 30 ∧ 0 ≤ q ∧ q < 16777216 ∧
    (∀ b, FA b → ¬ K b) ∧ (∀ b, FC b → ¬ K b) ∧ (∀ b, FA b ∨ FC b ∨ K b → G b) ∧ ∀ b, G b → b < w.heap.size
section
variable {w w' : World} {A C : Ids} {bk : Nat} {G H : Nat → Prop} {v : Value}
theorem Sys.swap (S : Sys w A C bk G) : Sys w C A bk G := by
  obtain ⟨FA, FC, os, q, vo, vw, K, a1, a2, a3, a4, a5, a6, a7, a8, a9, a10, a11⟩ := S
  exact ⟨FC, FA, os, q, vo, vw, K, a2, a1, a3.imp (fun h => ⟨h.1.symm, h.2.symm⟩) (fun h b h1 h2 => h b h2 h1), a4, a5, a6, a7, a9, a8, fun b hb => a10 b (hb.elim (fun h => .inr (.inl h)) fun h => h.elim .inl fun h => .inr (.inr h)), a11⟩
theorem Sys.wide (S : Sys w A C bk G) (h1 : ∀ b, G b → H b) (h2 : ∀ b, H b → b < w.heap.size) : Sys w A C bk H := by
  obtain ⟨FA, FC, os, q, vo, vw, K, a1, a2, a3, a4, a5, a6, a7, a8, a9, a10, a11⟩ := S
  exact ⟨FA, FC, os, q, vo, vw, K, a1, a2, a3, a4, a5, a6, a7, a8, a9, fun b hb => h1 b (a10 b hb), h2⟩
theorem Sys.ext {I : Nat → Prop} (S : Sys w A C bk G) (hx : Ext I w w') (hn : ∀ b, G b → ¬ I b) : Sys w' A C bk G := by
  obtain ⟨FA, FC, os, q, vo, vw, K, ⟨R1, f1, h1⟩, ⟨R2, f2, h2⟩, a3, a4, a5, a6, a7, a8, a9, a10, a11⟩ := S
  exact ⟨FA, FC, os, q, vo, vw, K, ⟨R1, f1, h1.ext hx fun b hb => hn b (a10 b (.inl hb))⟩, ⟨R2, f2, h2.ext hx fun b hb => hn b (a10 b (.inr (.inl hb)))⟩, a3, a4.ext hx fun b hb => hn b (a10 b (.inr (.inr hb))), a5, a6, a7, a8, a9, a10, fun b hb => Nat.lt_of_lt_of_le (a11 b hb) hx.size⟩
theorem Sys.run (S : Sys w A C bk G) {f : FuncId} {args : Array Value} (hc : ∀ F, Two w A.1 A.2.1 A.2.2 bk F → (∀ b, F b → G b) → Calls Tryd.prog f args w (Kept v w A.1 A.2.1 A.2.2 bk F)) :
    Calls Tryd.prog f args w fun e w' => e = .returned v ∧ Sys w' A C bk (Grow G w w') ∧ Ext G w w' := by
  obtain ⟨FA, FC, os, q, vo, vw, K, ⟨R1, f1, h1⟩, a2, a3, a4, a5, a6, a7, a8, a9, a10, a11⟩ := S
  have hsub : ∀ b, FA b ∨ K b → G b := fun b hb => a10 b (hb.imp id .inr)
  refine (hc (fun b => FA b ∨ K b) ⟨R1, FA, os, q, vo, vw, K, f1, h1, a4, a5, a6, a7, a8, fun b hb => hb, fun b hb => a11 b (hsub b hb)⟩ hsub).mono fun e w' hk => ?_
  obtain ⟨k1, ⟨R', Fp, os', q', vo', vw', K', b1, b2, b3, b4, b5, b6, b7, b8, b9⟩, hx⟩ := hk
  have s := hx.size
  have hG : ∀ b, Grow G w w' b → b < w'.heap.size := fun b hb => hb.elim (fun h => by have := a11 b h; omega) (·.2)
  have hup : ∀ b, Fp b ∨ K' b → Grow G w w' b := fun b hb => (b8 b hb).imp (hsub b) id
  refine ⟨k1, ?_, hx.mono fun b _ h => hsub b h⟩
  rcases a3 with ⟨rfl, rfl⟩ | hd
  · exact ⟨Fp, Fp, os', q', vo', vw', K', ⟨R', b1, b2⟩, ⟨R', b1, b2⟩, .inl ⟨rfl, rfl⟩, b3, b4, b5, b6, b7, b7, fun b hb => hup b (hb.elim .inl id), hG⟩
  · obtain ⟨R2, f2, h2⟩ := a2
    have hC : ∀ b, FC b → ¬ (FA b ∨ K b) := fun b hc h => h.elim (fun h => hd b h hc) (a9 b hc)
    have hCG : ∀ b, FC b → b < w.heap.size := fun b hb => a11 b (a10 b (.inr (.inl hb)))
    have hno : ∀ b, Fp b ∨ K' b → ¬ FC b := fun b hb hc => by
      rcases b8 b hb with h | h
      · exact hC b hc h
      · have := hCG b hc; omega
    exact ⟨Fp, FC, os', q', vo', vw', K', ⟨R', b1, b2⟩, ⟨R2, f2, h2.ext hx hC⟩, .inr fun b hb hc => hno b (.inl hb) hc, b3, b4, b5, b6, b7, fun b hc hk => hno b (.inr hk) hc, fun b hb => by
      rcases hb with h | h | h
      · exact hup b (.inl h)
      · exact .inl (a10 b (.inr (.inl h)))
      · exact hup b (.inr h), hG⟩
end

structure StepD where
  kind : Int
  x : Int
  y : Int
  i : Int
  j : Int
  n : Int
  by_ : UInt8
  b : List UInt8
/-- A script that lies in memory. -/
def ScriptAt (w : World) (v : Value) (S : List StepD) : Prop :=
  ∃ ad c, v = .slice ad S.length c ∧ S.length ≤ maxLen ∧ ∀ i s, S[i]? = some s → s.b.length ≤ 1048576 ∧ ∃ b o vb, ad = some ⟨b, o, none⟩ ∧ BytesAt w vb s.b ∧
    w.cell? ⟨b, o + i * 8, none⟩ = some (.int .i64 s.kind) ∧ w.cell? ⟨b, o + i * 8 + 1, none⟩ = some (.int .i64 s.x) ∧ w.cell? ⟨b, o + i * 8 + 2, none⟩ = some (.int .i64 s.y) ∧ w.cell? ⟨b, o + i * 8 + 3, none⟩ = some (.int .i64 s.i) ∧
    w.cell? ⟨b, o + i * 8 + 4, none⟩ = some (.int .i64 s.j) ∧ w.cell? ⟨b, o + i * 8 + 5, none⟩ = some (.int .i64 s.n) ∧ w.cell? ⟨b, o + i * 8 + 6, none⟩ = some (.int .u8 s.by_.toNat) ∧ w.cell? ⟨b, o + i * 8 + 7, none⟩ = some vb

/-- The law's state: the two pairs lie in the blocks ab and ab + 1, the book in ab + 2. -/
def LG (W wr : World) (ab b : Nat) : Prop := W.heap.size ≤ b ∧ b < wr.heap.size ∧ b ≠ ab ∧ b ≠ ab + 1
structure Loop (W wr : World) (A C : Ids) (ab : Nat) : Prop where
  a : wr.heap[ab]? = some (.cells #[.pointer (some ⟨A.1, 0, none⟩), .pointer (some ⟨A.2.1, 0, none⟩)] 48 (0, 0))
  c : wr.heap[ab + 1]? = some (.cells #[.pointer (some ⟨C.1, 0, none⟩), .pointer (some ⟨C.2.1, 0, none⟩)] 48 (0, 0))
  sys : Sys wr A C (ab + 2) (LG W wr ab)
  ext : Ext Nil W wr
  le : W.heap.size ≤ ab
section
variable {W w w' wz : World} {A C : Ids} {ab : Nat} {v idle : Value} {FA FC : Nat → Prop}
theorem Loop.cells (L : Loop W w A C ab) : w.cell? ⟨ab, 0, none⟩ = some (.pointer (some ⟨A.1, 0, none⟩)) ∧ w.cell? ⟨ab, 1, none⟩ = some (.pointer (some ⟨A.2.1, 0, none⟩)) ∧ w.cell? ⟨ab + 1, 0, none⟩ = some (.pointer (some ⟨C.1, 0, none⟩)) ∧ w.cell? ⟨ab + 1, 1, none⟩ = some (.pointer (some ⟨C.2.1, 0, none⟩)) := by
  refine ⟨?_, ?_, ?_, ?_⟩ <;> first | (rw [cell_of_row w ab _ _ _ (0, 0) L.a]; rfl) | (rw [cell_of_row w (ab + 1) _ _ _ (0, 0) L.c]; rfl)
theorem Loop.cellsAt {w2 : World} (L : Loop W w A C ab) (hx : Ext (LG W w ab) w w2) : w2.cell? ⟨ab, 0, none⟩ = some (.pointer (some ⟨A.1, 0, none⟩)) ∧ w2.cell? ⟨ab, 1, none⟩ = some (.pointer (some ⟨A.2.1, 0, none⟩)) := by
  have h := hx.heap L.a fun h => h.2.2.1 rfl
  refine ⟨?_, ?_⟩ <;> (rw [cell_of_row w2 ab _ _ _ (0, 0) h]; rfl)
theorem Loop.frozen (L : Loop W w A C ab) (i : Nat) : w.frozen? ⟨ab, i, none⟩ = false ∧ w.frozen? ⟨ab + 1, i, none⟩ = false := ⟨row_frozen L.a, row_frozen L.c⟩
theorem Loop.after (L : Loop W w A C ab) (hs : Sys w' A C (ab + 2) (Grow (LG W w ab) w w')) (hx : Ext (LG W w ab) w w') : Loop W w' A C ab := by
  have s := hx.size
  have ha := lt_of_heap L.a
  have hc := lt_of_heap L.c
  exact ⟨hx.heap L.a fun h => h.2.2.1 rfl, hx.heap L.c fun h => h.2.2.2 rfl, hs.wide (fun b hb => by
    have := L.ext.size
    have := L.le
    rcases hb with h | h
    · exact ⟨h.1, by have := h.2.1; omega, h.2.2⟩
    · exact ⟨by omega, h.2, by omega, by omega⟩) fun b hb => hb.2.1, L.ext.trans hx fun b hb h => by have := h.1; omega, L.le⟩
theorem Loop.run (L : Loop W w A C ab) {f : FuncId} {args : Array Value} (hc : ∀ F, Two w A.1 A.2.1 A.2.2 (ab + 2) F → (∀ b, F b → LG W w ab b) → Calls Tryd.prog f args w (Kept v w A.1 A.2.1 A.2.2 (ab + 2) F)) :
    Calls Tryd.prog f args w fun e w' => e = .returned v ∧ Loop W w' A C ab ∧ Ext (LG W w ab) w w' :=
  (L.sys.run hc).mono fun _ _ ⟨h1, h2, h3⟩ => ⟨h1, L.after h2 h3, h3⟩
theorem Loop.swap (L : Loop W w A C ab) : Loop W ((((w.setCell ⟨ab, 0, none⟩ (.pointer (some ⟨C.1, 0, none⟩))).setCell ⟨ab, 1, none⟩ (.pointer (some ⟨C.2.1, 0, none⟩))).setCell ⟨ab + 1, 0, none⟩ (.pointer (some ⟨A.1, 0, none⟩))).setCell ⟨ab + 1, 1, none⟩ (.pointer (some ⟨A.2.1, 0, none⟩))) C A ab := by
  have hx : Ext (fun b => b = ab ∨ b = ab + 1) w ((((w.setCell ⟨ab, 0, none⟩ (.pointer (some ⟨C.1, 0, none⟩))).setCell ⟨ab, 1, none⟩ (.pointer (some ⟨C.2.1, 0, none⟩))).setCell ⟨ab + 1, 0, none⟩ (.pointer (some ⟨A.1, 0, none⟩))).setCell ⟨ab + 1, 1, none⟩ (.pointer (some ⟨A.2.1, 0, none⟩))) :=
    ((((Ext.refl (fun b => b = ab ∨ b = ab + 1) w).setCell (fun _ => .inl rfl) _).setCell (fun _ => .inl rfl) _).setCell (fun _ => .inr rfl) _).setCell (fun _ => .inr rfl) _
  refine ⟨?_, ?_, (L.sys.swap.ext hx fun b hb h => h.elim hb.2.2.1 hb.2.2.2).wide (fun b hb => ?_) fun b hb => hb.2.1, L.ext.trans hx fun b hb h => by have := L.le; omega, L.le⟩
  · simp [World.setCell, Array.getElem?_modify, L.a]
  · simp [World.setCell, Array.getElem?_modify, L.c]
  · have := hx.size
    exact ⟨hb.1, by have := hb.2.1; omega, hb.2.2⟩
theorem Loop.flip (L : Loop W w A C ab) (hx : Ext Nil w w') : Loop W w' A C ab := by
  have s := hx.size
  exact ⟨hx.heap L.a id, hx.heap L.c id, (L.sys.ext hx fun _ _ h => h).wide (fun b hb => ⟨hb.1, by have := hb.2.1; omega, hb.2.2⟩) fun b hb => hb.2.1, L.ext.extN hx, L.le⟩
/-- The other pair's turn, without its blocks. -/
theorem Loop.run2 (L : Loop W w A C ab) {f : FuncId} {args : Array Value} (hc : ∀ F, Two w C.1 C.2.1 C.2.2 (ab + 2) F → (∀ b, F b → LG W w ab b) → Calls Tryd.prog f args w (Kept v w C.1 C.2.1 C.2.2 (ab + 2) F)) :
    Calls Tryd.prog f args w fun e w' => e = .returned v ∧ Loop W w' A C ab ∧ Ext (LG W w ab) w w' :=
  (L.sys.swap.run hc).mono fun _ _ ⟨h1, h2, h3⟩ => ⟨h1, L.after h2.swap h3, h3⟩
theorem Loop.book (L : Loop W w A C ab) : ∃ os q vo vw K, BookAt w (ab + 2) os q vo vw K ∧ os.length < 30 ∧ ∀ b, K b → W.heap.size ≤ b := by
  obtain ⟨_, _, os, q, vo, vw, K, _, _, _, a4, a5, _, _, _, _, a10, _⟩ := L.sys
  exact ⟨os, q, vo, vw, K, a4, a5, fun b hb => (a10 b (.inr (.inr hb))).1⟩
theorem Loop.idleAt (L : Loop W w A C ab) (hi : IdleAt W idle) : IdleAt w idle := ⟨hi.1, L.ext.cell hi.2 id⟩
theorem loop_zero (hi : IdleAt W idle) {F : Nat → Prop} (h : ∀ b, F b → LG W w ab b) : ¬ F 0 := fun h0 => by
  have := (h 0 h0).1
  have := hi.pos
  omega
theorem loop_begin (hx : Ext Nil W wz) (hA : Alike wz A.1 A.2.1 A.2.2 FA) (hC : Alike wz C.1 C.2.1 C.2.2 FC) (hd : (A = C ∧ FA = FC) ∨ ∀ b, FA b → ¬ FC b) (hB : ∀ b, FA b ∨ FC b → W.heap.size ≤ b ∧ b < wz.heap.size) :
    Loop W (((wz.alloc (.cells #[.pointer (some ⟨A.1, 0, none⟩), .pointer (some ⟨A.2.1, 0, none⟩)] 48)).alloc (.cells #[.pointer (some ⟨C.1, 0, none⟩), .pointer (some ⟨C.2.1, 0, none⟩)] 48)).alloc (.cells #[nilS, nilS, .int .i64 0] 51)) A C wz.heap.size := by
  obtain ⟨R1, f1, h1⟩ := hA
  obtain ⟨R2, f2, h2⟩ := hC
  have s := hx.size
  have e1 : Ext Nil wz (((wz.alloc (.cells #[.pointer (some ⟨A.1, 0, none⟩), .pointer (some ⟨A.2.1, 0, none⟩)] 48)).alloc (.cells #[.pointer (some ⟨C.1, 0, none⟩), .pointer (some ⟨C.2.1, 0, none⟩)] 48)).alloc (.cells #[nilS, nilS, .int .i64 0] 51)) := (((Ext.refl Nil wz).alloc _).alloc _).alloc _
  have hb := heap_three wz (.cells #[.pointer (some ⟨A.1, 0, none⟩), .pointer (some ⟨A.2.1, 0, none⟩)] 48) (.cells #[.pointer (some ⟨C.1, 0, none⟩), .pointer (some ⟨C.2.1, 0, none⟩)] 48) #[nilS, nilS, .int .i64 0] 51
  have hlt := lt_of_heap hb
  refine ⟨?_, ?_, ⟨FA, FC, [], 0, nilS, nilS, fun b => b = wz.heap.size + 2, ⟨R1, f1, h1.grown e1⟩, ⟨R2, f2, h2.grown e1⟩, hd, BookAt.empty hlt hb, by simp, by decide, by decide, fun b h e => ?_, fun b h e => ?_, fun b h => ?_, fun b h => h.2.1⟩, hx.extN e1, s⟩
  · exact ((((Ext.refl Nil (wz.alloc (.cells #[.pointer (some ⟨A.1, 0, none⟩), .pointer (some ⟨A.2.1, 0, none⟩)] 48))).alloc _).alloc _).heap (heap_alloc_new wz _) id)
  · have := heap_alloc_new (wz.alloc (.cells #[.pointer (some ⟨A.1, 0, none⟩), .pointer (some ⟨A.2.1, 0, none⟩)] 48)) (.cells #[.pointer (some ⟨C.1, 0, none⟩), .pointer (some ⟨C.2.1, 0, none⟩)] 48)
    rw [World.size_alloc] at this
    exact (((Ext.refl Nil _).alloc _).heap this id)
  · have := hB b (.inl h); omega
  · have := hB b (.inr h); omega
  · have : W.heap.size ≤ b ∧ b < wz.heap.size + 3 ∧ b ≠ wz.heap.size ∧ b ≠ wz.heap.size + 1 := by
      rcases h with h | h | h
      · have := hB b (.inl h); omega
      · have := hB b (.inr h); omega
      · omega
    exact ⟨this.1, by omega, this.2.2⟩
end

set_option maxRecDepth 100000 in
set_option maxHeartbeats 8000000 in
theorem does_any {W : World} {idle vs : Value} {n k : Int} {S : List StepD} (hi : IdleAt W idle) (hs : ScriptAt W vs S) :
    Calls Tryd.prog 6 #[.int .i64 n, .int .i64 k, vs] W fun e w' => e = .returned (.bool true) ∧ Ext Nil W w' := by
  obtain ⟨ads, cs, rfl, hlen, hS⟩ := hs
  unfold maxLen at hlen
  have Hi := Lib.hid hi; clear hi
  have HS := Lib.hid hS; clear hS
  go_enter Tryd.func6, Tryd.ntmps6
  go_wp2_with fail
  refine (fixed_any Hi.out).mono ?_
  rintro e w1 ⟨rfl, hx1⟩
  have Hx1 := Lib.hid hx1
  clear hx1
  go_wp2_with fail
  refine (new_any n _).mono ?_
  intro e w2 hN
  unfold NewV at hN
  by_cases hn : 1 ≤ n ∧ n ≤ 8
  case neg =>
    rw [if_neg hn] at hN
    obtain ⟨rfl, rfl⟩ := hN
    have Hn := Lib.hid hn
    clear hn
    go_wp2_with fail
    refine (new_ref n _).mono ?_
    intro e w3 hN
    unfold NewR at hN
    rw [if_neg Hn.out] at hN
    obtain ⟨rfl, rfl⟩ := hN
    go_wp2_with fail
    refine (new_any k _).mono ?_
    intro e w4 hN
    unfold NewV at hN
    by_cases hk : 1 ≤ k ∧ k ≤ 8
    case neg =>
      rw [if_neg hk] at hN
      obtain ⟨rfl, rfl⟩ := hN
      have Hk := Lib.hid hk
      clear hk
      go_wp2_with fail
      refine (new_ref k _).mono ?_
      intro e w5 hN
      unfold NewR at hN
      rw [if_neg Hk.out] at hN
      obtain ⟨rfl, rfl⟩ := hN
      go_wp2
      go_ret
      exact ⟨rfl, Hx1.out⟩
    case pos =>
      rw [if_pos hk] at hN
      obtain ⟨o, rfl, _, hx4⟩ := hN
      have Hx4 := Lib.hid hx4
      have Hk := Lib.hid hk
      clear hk hx4
      go_wp2_with fail
      refine (new_ref k _).mono ?_
      intro e w5 hN
      unfold NewR at hN
      rw [if_pos Hk.out] at hN
      obtain ⟨rq, rfl, _, hx5⟩ := hN
      have Hx5 := Lib.hid hx5
      clear hx5
      go_wp2
      go_ret
      exact ⟨rfl, Hx1.out.extN (Hx4.out.extN Hx5.out)⟩
  case pos =>
    rw [if_pos hn] at hN
    obtain ⟨a, rfl, hm, hx2⟩ := hN
    have Hn := Lib.hid hn
    have Hm := Lib.hid hm
    have Hx2 := Lib.hid hx2
    clear hn hm hx2
    go_wp2_with fail
    refine (new_ref n _).mono ?_
    intro e w3 hN
    unfold NewR at hN
    rw [if_pos Hn.out] at hN
    obtain ⟨r, rfl, hr, hx3⟩ := hN
    have Hr := Lib.hid hr
    have Hx3 := Lib.hid hx3
    clear hr hx3
    go_wp2_with fail
    have Hh : Hid (Half w3 a r n (fun _ => []) (fun _ => []) (fun b => w1.heap.size ≤ b ∧ b < w3.heap.size)) := by
      have s2 := Hx2.out.size
      have s3 := Hx3.out.size
      exact ⟨_, _, Hm.out.grown Hx3.out, Hr.out, fun b h1 h2 => by omega, fun b hb => by rcases hb with h | h <;> omega, fun b hb => hb.2⟩
    refine (new_any k _).mono ?_
    intro e w4 hN
    unfold NewV at hN
    by_cases hk : 1 ≤ k ∧ k ≤ 8
    case neg =>
      rw [if_neg hk] at hN
      obtain ⟨rfl, rfl⟩ := hN
      have Hk := Lib.hid hk
      clear hk
      go_wp2_with fail
      refine (new_ref k _).mono ?_
      intro e w5 hN
      unfold NewR at hN
      rw [if_neg Hk.out] at hN
      obtain ⟨rfl, rfl⟩ := hN
      have hx3 : Ext Nil W w3 := Hx1.out.extN (Hx2.out.extN Hx3.out)
      have hL := loop_begin (A := (a, r, n)) (C := (a, r, n)) hx3 ⟨_, few_nil, Hh.out⟩ ⟨_, few_nil, Hh.out⟩ (.inl ⟨rfl, rfl⟩) fun b hb => by have := Hx1.out.size; rcases hb with h | h <;> omega
      clear hx3
      go_wp2_with fail
      clear Hn
      obtain ⟨ab, hab⟩ : ∃ ab, ab = w3.heap.size := ⟨_, rfl⟩
      rw [← hab] at hL ⊢
      rw [show ab + 1 + 1 = ab + 2 from rfl]
      generalize (((w3.alloc (.cells #[.pointer (some ⟨a, 0, none⟩), .pointer (some ⟨r, 0, none⟩)] 48)).alloc (.cells #[.pointer (some ⟨a, 0, none⟩), .pointer (some ⟨r, 0, none⟩)] 48)).alloc (.cells #[nilS, nilS, .int .i64 0] 51)) = wL at hL ⊢
      have HL0 := Lib.hid hL
      clear hL hab
      go_loopw [19] (fun i wr => ∃ (kk : Nat) (A C : Ids), i = .int .i64 kk ∧ kk ≤ S.length ∧ Loop W wr A C ab) (fun i _ => S.length - (intOf i).toNat)
      case atStart => exact ⟨0, _, _, rfl, by omega, HL0.out⟩
      case round =>
        obtain ⟨kk, A, C, rfl, hkk, hL⟩ := hrel
        obtain ⟨c0, c1, c2, c3⟩ := hL.cells
        have HL := Lib.hid hL
        clear hL
        by_cases hlt : kk < S.length
        case pos =>
          have Hlt : Hid (kk + 1 ≤ S.length) := hlt
          obtain ⟨s, hs⟩ : ∃ s, S[kk]? = some s := ⟨_, List.getElem?_eq_getElem hlt⟩
          obtain ⟨hsb, sb, so, vb, rfl, hby, s0, s1, s2, s3, s4, s5, s6, s7⟩ := HS.out kk s hs
          have hlt2 := World.block_lt_of_cell? W _ s0
          simp only at hlt2
          obtain ⟨adb, cb, rfl, _⟩ := hby.2.1
          have Hby := Lib.hid hby
          have Hs0 := Lib.hid s0
          have Hs1 := Lib.hid s1
          have Hs2 := Lib.hid s2
          have Hs3 := Lib.hid s3
          have Hs4 := Lib.hid s4
          have Hs5 := Lib.hid s5
          have Hs6 := Lib.hid s6
          have Hs7 := Lib.hid s7
          clear hby s0 s1 s2 s3 s4 s5 s6 s7 hs
          have s0 := HL.out.ext.cell Hs0.out id
          by_cases hko : s.kind = 10
          case pos =>
            rw [hko] at s0
            have hf := HL.out.frozen
            have Hko := Lib.hid hko
            clear hko
            go_wp2
            go_roundw
            case rel => exact ⟨kk + 1, C, A, by go_num, Hlt.out, HL.out.swap⟩
            case measure => have := Hlt.out; simp [intOf]; omega
          case neg =>
            have hko2 : (s.kind == 10) = false := by simpa using hko
            clear hko
            go_wp2_with fail
            refine X.wp_region_planG (LG W wr ab) 8 [(0, true), (1, true), (2, true), (3, true), (4, true), (5, true), (6, false), (7, true)] [] (by kernel_rfl) (by kernel_rfl) (fun wd hxwd hh => ?_)
            have He : Hid (LG W wd ab = LG W wr ab) := by show LG W wd ab = LG W wr ab; unfold LG; rw [hh]
            clear hh c0 c1 c2 c3 s0
            have HLd := Lib.hid (HL.out.flip hxwd)
            have Hxd := Lib.hid hxwd
            clear hxwd
            iterate 6
              refine X.wpE_still (o := ⟨_, _, _, _, _, _⟩) rfl rfl ?_
              apply Exists.intro
              refine ⟨fun w' hE => ?_, ?_⟩
              · obtain ⟨c0, c1⟩ := HL.out.cellsAt (Hxd.out.nilMono.trans' hE)
                have hxW : Ext Nil W w' := HLd.out.ext.trans hE fun b hb h => by have := h.1; omega
                have s0 := hxW.cell Hs0.out id
                have s1 := hxW.cell Hs1.out id
                have s2 := hxW.cell Hs2.out id
                have s3 := hxW.cell Hs3.out id
                have s4 := hxW.cell Hs4.out id
                have s5 := hxW.cell Hs5.out id
                have s6 := hxW.cell Hs6.out id
                have s7 := hxW.cell Hs7.out id
                clear hxW hE
                go_simp
                rfl
              simp only [Act.put, List.setIfInBounds_toArray, List.set_cons_succ, List.set_cons_zero]
            refine X.wpE_call (o := ⟨_, _, _, _, _, _⟩) rfl rfl ?_
            apply Exists.intro
            apply Exists.intro
            refine ⟨?_, ?_⟩
            · go_simp
              exact ⟨rfl, rfl⟩
            refine (HLd.out.run (v := .bool true) (fun F T hF => step_pair T (HLd.out.idleAt Hi.out) (loop_zero Hi.out hF) s.kind s.x s.y s.i s.j s.n s.by_ (.slice adb s.b.length cb) s.b (Hby.out.ext (F := Nil) HLd.out.ext fun _ _ _ h => h) (fun h0 z hz hf => by have := Hby.out.2.2 h0 z hz; have := (hF z hf).1; omega) hsb)).mono ?_
            rintro e w4 ⟨rfl, hL4, hx4⟩
            rw [He.out] at hx4
            refine ⟨_, rfl, hx4, ?_⟩
            have HL4 := Lib.hid hL4
            clear hL4 hx4
            simp only [Act.put, List.setIfInBounds_toArray, List.set_cons_succ, List.set_cons_zero]
            refine X.wpE_still (o := ⟨_, _, _, _, _, _⟩) rfl rfl ?_
            apply Exists.intro
            refine ⟨fun w' hE => ?_, ?_⟩
            · go_simp
              rfl
            simp only [Act.put, List.setIfInBounds_toArray, List.set_cons_succ, List.set_cons_zero]
            refine X.wpE_nil ?_
            refine X.wpT_nil ?_
            go_wp2
            go_roundw
            case rel => exact ⟨kk + 1, A, C, by go_num, Hlt.out, HL4.out⟩
            case measure => have := Hlt.out; simp [intOf]; omega
        case neg =>
          obtain rfl : kk = S.length := by omega
          go_wp2_with fail
          refine (HL.out.run (v := .bool true) (fun F T hF => lens_any T)).mono ?_
          rintro e w4 ⟨rfl, hL4, _⟩
          have HL4 := Lib.hid hL4
          obtain ⟨c0', c1', c2', c3'⟩ := hL4.cells
          clear hL4 c0 c1 c2 c3
          go_wp2_with fail
          refine (HL4.out.run2 (v := .bool true) (fun F T hF => lens_any T)).mono ?_
          rintro e w5 ⟨rfl, hL5, _⟩
          have HL5 := Lib.hid hL5
          obtain ⟨c0, c1, c2, c3⟩ := hL5.cells
          clear hL5 c0' c1' c2' c3'
          obtain ⟨os, q, vo, vw, K, hB, hos, _⟩ := HL5.out.book
          have HBk := Lib.hid hB
          clear hB
          go_wp2_with fail
          refine (holds_any HBk.out (by omega)).mono ?_
          rintro e w6 ⟨rfl, hx6⟩
          have HL6 := Lib.hid (HL5.out.flip hx6)
          clear hx6 c0 c1 c2 c3
          obtain ⟨c0, c1, c2, c3⟩ := HL6.out.cells
          go_wp2_with fail
          refine (HL6.out.run (v := .bool true) (fun F T hF => rest_any T (HL6.out.idleAt Hi.out) (loop_zero Hi.out hF))).mono ?_
          rintro e w7 ⟨rfl, hL7, _⟩
          have HL7 := Lib.hid hL7
          clear c0 c1 c2 c3
          obtain ⟨c0, c1, c2, c3⟩ := hL7.cells
          clear hL7
          go_wp2_with fail
          refine (HL7.out.run2 (v := .bool true) (fun F T hF => rest_any T (HL7.out.idleAt Hi.out) (loop_zero Hi.out hF))).mono ?_
          rintro e w8 ⟨rfl, hL8, _⟩
          have HL8 := Lib.hid hL8
          clear hL8 c0 c1 c2 c3
          obtain ⟨os8, q8, vo8, vw8, K8, hB8, hos8, hK8⟩ := HL8.out.book
          have HB8 := Lib.hid hB8
          have HK8 := Lib.hid hK8
          clear hB8 hK8
          go_wp2_with fail
          refine (apart_any HB8.out (by omega)).mono ?_
          rintro e w9 ⟨rfl, hx9⟩
          have Hx9 := Lib.hid hx9
          clear hx9
          go_wp2
          go_ret
          exact ⟨rfl, HL8.out.ext.trans Hx9.out fun b hb ⟨z, hz, h⟩ => by have := HK8.out b (HB8.out.km z hz b (.inl h)); omega⟩
    case pos =>
      rw [if_pos hk] at hN
      obtain ⟨o, rfl, hm4, hx4⟩ := hN
      have Hm4 := Lib.hid hm4
      have Hx4 := Lib.hid hx4
      have Hk := Lib.hid hk
      clear hk hx4 hm4
      go_wp2_with fail
      refine (new_ref k _).mono ?_
      intro e w5 hN
      unfold NewR at hN
      rw [if_pos Hk.out] at hN
      obtain ⟨rq, rfl, hr5, hx5⟩ := hN
      have Hr5 := Lib.hid hr5
      have Hx5 := Lib.hid hx5
      clear hx5 hr5
      have hx5 : Ext Nil W w5 := Hx1.out.extN (Hx2.out.extN (Hx3.out.extN (Hx4.out.extN Hx5.out)))
      have Hq : Hid (Half w5 o rq k (fun _ => []) (fun _ => []) (fun b => w3.heap.size ≤ b ∧ b < w5.heap.size)) := by
        have s2 := Hx4.out.size
        have s3 := Hx5.out.size
        exact ⟨_, _, Hm4.out.grown Hx5.out, Hr5.out, fun b h1 h2 => by omega, fun b hb => by rcases hb with h | h <;> omega, fun b hb => hb.2⟩
      have hL := loop_begin (A := (a, r, n)) (C := (o, rq, k)) hx5 ⟨_, few_nil, Hh.out.grown (Hx4.out.extN Hx5.out)⟩ ⟨_, few_nil, Hq.out⟩ (.inr fun b h1 h2 => by omega) fun b hb => by
        have := Hx1.out.size; have := Hx4.out.size; have := Hx5.out.size; have := Hx2.out.size; have := Hx3.out.size
        rcases hb with h | h <;> omega
      clear hx5
      go_wp2_with fail
      clear Hn
      obtain ⟨ab, hab⟩ : ∃ ab, ab = w5.heap.size := ⟨_, rfl⟩
      rw [← hab] at hL ⊢
      rw [show ab + 1 + 1 = ab + 2 from rfl]
      generalize (((w5.alloc (.cells #[.pointer (some ⟨a, 0, none⟩), .pointer (some ⟨r, 0, none⟩)] 48)).alloc (.cells #[.pointer (some ⟨o, 0, none⟩), .pointer (some ⟨rq, 0, none⟩)] 48)).alloc (.cells #[nilS, nilS, .int .i64 0] 51)) = wL at hL ⊢
      have HL0 := Lib.hid hL
      clear hL hab
      go_loopw [19] (fun i wr => ∃ (kk : Nat) (A C : Ids), i = .int .i64 kk ∧ kk ≤ S.length ∧ Loop W wr A C ab) (fun i _ => S.length - (intOf i).toNat)
      case atStart => exact ⟨0, _, _, rfl, by omega, HL0.out⟩
      case round =>
        obtain ⟨kk, A, C, rfl, hkk, hL⟩ := hrel
        obtain ⟨c0, c1, c2, c3⟩ := hL.cells
        have HL := Lib.hid hL
        clear hL
        by_cases hlt : kk < S.length
        case pos =>
          have Hlt : Hid (kk + 1 ≤ S.length) := hlt
          obtain ⟨s, hs⟩ : ∃ s, S[kk]? = some s := ⟨_, List.getElem?_eq_getElem hlt⟩
          obtain ⟨hsb, sb, so, vb, rfl, hby, s0, s1, s2, s3, s4, s5, s6, s7⟩ := HS.out kk s hs
          have hlt2 := World.block_lt_of_cell? W _ s0
          simp only at hlt2
          obtain ⟨adb, cb, rfl, _⟩ := hby.2.1
          have Hby := Lib.hid hby
          have Hs0 := Lib.hid s0
          have Hs1 := Lib.hid s1
          have Hs2 := Lib.hid s2
          have Hs3 := Lib.hid s3
          have Hs4 := Lib.hid s4
          have Hs5 := Lib.hid s5
          have Hs6 := Lib.hid s6
          have Hs7 := Lib.hid s7
          clear hby s0 s1 s2 s3 s4 s5 s6 s7 hs
          have s0 := HL.out.ext.cell Hs0.out id
          by_cases hko : s.kind = 10
          case pos =>
            rw [hko] at s0
            have hf := HL.out.frozen
            have Hko := Lib.hid hko
            clear hko
            go_wp2
            go_roundw
            case rel => exact ⟨kk + 1, C, A, by go_num, Hlt.out, HL.out.swap⟩
            case measure => have := Hlt.out; simp [intOf]; omega
          case neg =>
            have hko2 : (s.kind == 10) = false := by simpa using hko
            clear hko
            go_wp2_with fail
            refine X.wp_region_planG (LG W wr ab) 8 [(0, true), (1, true), (2, true), (3, true), (4, true), (5, true), (6, false), (7, true)] [] (by kernel_rfl) (by kernel_rfl) (fun wd hxwd hh => ?_)
            have He : Hid (LG W wd ab = LG W wr ab) := by show LG W wd ab = LG W wr ab; unfold LG; rw [hh]
            clear hh c0 c1 c2 c3 s0
            have HLd := Lib.hid (HL.out.flip hxwd)
            have Hxd := Lib.hid hxwd
            clear hxwd
            iterate 6
              refine X.wpE_still (o := ⟨_, _, _, _, _, _⟩) rfl rfl ?_
              apply Exists.intro
              refine ⟨fun w' hE => ?_, ?_⟩
              · obtain ⟨c0, c1⟩ := HL.out.cellsAt (Hxd.out.nilMono.trans' hE)
                have hxW : Ext Nil W w' := HLd.out.ext.trans hE fun b hb h => by have := h.1; omega
                have s0 := hxW.cell Hs0.out id
                have s1 := hxW.cell Hs1.out id
                have s2 := hxW.cell Hs2.out id
                have s3 := hxW.cell Hs3.out id
                have s4 := hxW.cell Hs4.out id
                have s5 := hxW.cell Hs5.out id
                have s6 := hxW.cell Hs6.out id
                have s7 := hxW.cell Hs7.out id
                clear hxW hE
                go_simp
                rfl
              simp only [Act.put, List.setIfInBounds_toArray, List.set_cons_succ, List.set_cons_zero]
            refine X.wpE_call (o := ⟨_, _, _, _, _, _⟩) rfl rfl ?_
            apply Exists.intro
            apply Exists.intro
            refine ⟨?_, ?_⟩
            · go_simp
              exact ⟨rfl, rfl⟩
            refine (HLd.out.run (v := .bool true) (fun F T hF => step_pair T (HLd.out.idleAt Hi.out) (loop_zero Hi.out hF) s.kind s.x s.y s.i s.j s.n s.by_ (.slice adb s.b.length cb) s.b (Hby.out.ext (F := Nil) HLd.out.ext fun _ _ _ h => h) (fun h0 z hz hf => by have := Hby.out.2.2 h0 z hz; have := (hF z hf).1; omega) hsb)).mono ?_
            rintro e w4 ⟨rfl, hL4, hx4⟩
            rw [He.out] at hx4
            refine ⟨_, rfl, hx4, ?_⟩
            have HL4 := Lib.hid hL4
            clear hL4 hx4
            simp only [Act.put, List.setIfInBounds_toArray, List.set_cons_succ, List.set_cons_zero]
            refine X.wpE_still (o := ⟨_, _, _, _, _, _⟩) rfl rfl ?_
            apply Exists.intro
            refine ⟨fun w' hE => ?_, ?_⟩
            · go_simp
              rfl
            simp only [Act.put, List.setIfInBounds_toArray, List.set_cons_succ, List.set_cons_zero]
            refine X.wpE_nil ?_
            refine X.wpT_nil ?_
            go_wp2
            go_roundw
            case rel => exact ⟨kk + 1, A, C, by go_num, Hlt.out, HL4.out⟩
            case measure => have := Hlt.out; simp [intOf]; omega
        case neg =>
          obtain rfl : kk = S.length := by omega
          go_wp2_with fail
          refine (HL.out.run (v := .bool true) (fun F T hF => lens_any T)).mono ?_
          rintro e w4 ⟨rfl, hL4, _⟩
          have HL4 := Lib.hid hL4
          obtain ⟨c0', c1', c2', c3'⟩ := hL4.cells
          clear hL4 c0 c1 c2 c3
          go_wp2_with fail
          refine (HL4.out.run2 (v := .bool true) (fun F T hF => lens_any T)).mono ?_
          rintro e w5 ⟨rfl, hL5, _⟩
          have HL5 := Lib.hid hL5
          obtain ⟨c0, c1, c2, c3⟩ := hL5.cells
          clear hL5 c0' c1' c2' c3'
          obtain ⟨os, q, vo, vw, K, hB, hos, _⟩ := HL5.out.book
          have HBk := Lib.hid hB
          clear hB
          go_wp2_with fail
          refine (holds_any HBk.out (by omega)).mono ?_
          rintro e w6 ⟨rfl, hx6⟩
          have HL6 := Lib.hid (HL5.out.flip hx6)
          clear hx6 c0 c1 c2 c3
          obtain ⟨c0, c1, c2, c3⟩ := HL6.out.cells
          go_wp2_with fail
          refine (HL6.out.run (v := .bool true) (fun F T hF => rest_any T (HL6.out.idleAt Hi.out) (loop_zero Hi.out hF))).mono ?_
          rintro e w7 ⟨rfl, hL7, _⟩
          have HL7 := Lib.hid hL7
          clear c0 c1 c2 c3
          obtain ⟨c0, c1, c2, c3⟩ := hL7.cells
          clear hL7
          go_wp2_with fail
          refine (HL7.out.run2 (v := .bool true) (fun F T hF => rest_any T (HL7.out.idleAt Hi.out) (loop_zero Hi.out hF))).mono ?_
          rintro e w8 ⟨rfl, hL8, _⟩
          have HL8 := Lib.hid hL8
          clear hL8 c0 c1 c2 c3
          obtain ⟨os8, q8, vo8, vw8, K8, hB8, hos8, hK8⟩ := HL8.out.book
          have HB8 := Lib.hid hB8
          have HK8 := Lib.hid hK8
          clear hB8 hK8
          go_wp2_with fail
          refine (apart_any HB8.out (by omega)).mono ?_
          rintro e w9 ⟨rfl, hx9⟩
          have Hx9 := Lib.hid hx9
          clear hx9
          go_wp2
          go_ret
          exact ⟨rfl, HL8.out.ext.trans Hx9.out fun b hb ⟨z, hz, h⟩ => by have := HK8.out b (HB8.out.km z hz b (.inl h)); omega⟩
end Go.Proofs.YtbpjgdmmijehnaaDoor
