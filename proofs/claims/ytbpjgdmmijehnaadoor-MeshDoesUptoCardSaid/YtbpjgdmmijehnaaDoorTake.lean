/-
  A pair of meshes: take.
-/
import Derived.Test.YtbpjgdmmijehnaaDoorApartW
namespace Go.Proofs.YtbpjgdmmijehnaaDoor
open Go.RowKit Go.X

section
variable {w w' : World} {bk : Nat} {os : List Out} {q q' : Int} {vo vw vo' vw' mv mw : Value} {K : Nat → Prop} {l : List UInt8}
theorem BookAt.push (B : BookAt w bk os q vo vw K) (hx : Ext (fun b => b = bk ∨ vo.ownBlock = some b ∨ vw.ownBlock = some b) w w')
    (hc : w'.heap[bk]? = some (.cells #[vo', vw', .int .i64 q'] 51 (0, 0))) (ho : Own w' vo' 32 1 (os.length + 1) (os.map (·.1) ++ [mv])) (hw : Own w' vw' 32 1 (os.length + 1) (os.map (·.2.1) ++ [mw]))
    (hmv : MsgIs w' mv l) (hmw : MsgIs w' mw l) (hl : l.length ≤ 2097194) (hob : ∀ b, vo'.ownBlock = some b → vo.ownBlock = some b ∨ w.heap.size ≤ b) (hwb : ∀ b, vw'.ownBlock = some b → vw.ownBlock = some b ∨ w.heap.size ≤ b)
    (how : ∀ b, vo'.ownBlock = some b → vw'.ownBlock ≠ some b) (hmvK : ∀ b, mv.ownBlock = some b → ¬ K b) (hmwN : ∀ b, mw.ownBlock = some b → w.heap.size ≤ b) :
    BookAt w' bk (os ++ [(mv, mw, l)]) q' vo' vw' (fun b => Grow K w w' b ∨ mv.ownBlock = some b) := by
  have stay : ∀ (v : Value) (m : List UInt8), MsgIs w v m → MsgIs w' v m := fun v m h => Own.ext h hx fun b hb hg => by
    obtain ⟨C, hC⟩ := Own.tag h b hb
    rcases hg with e | e | e
    · subst e; rw [B.cells] at hC; cases hC
    · obtain ⟨D, hD⟩ := B.outs.tag b e; rw [hD] at hC; cases hC
    · obtain ⟨D, hD⟩ := B.wants.tag b e; rw [hD] at hC; cases hC
  refine { cells := hc, outs := by simpa using ho, wants := by simpa using hw, msg := fun x hx' => ?_, sep := fun i j x y b hi hj hb1 hb2 => ?_, ow := how, kb := .inl (.inl B.kb), ko := fun b hb => .inl ?_, kw := fun b hb => .inl ?_, km := fun x hx' b hb => ?_, bound := fun b hb => ?_ }
  · rcases List.mem_append.1 hx' with h | h
    · obtain ⟨h1, h2, h3⟩ := B.msg x h
      exact ⟨stay _ _ h1, stay _ _ h2, h3⟩
    · simp only [List.mem_singleton] at h
      subst h
      exact ⟨hmv, hmw, hl⟩
  · have old : ∀ (i : Nat) (x : Out), (os ++ [(mv, mw, l)])[i]? = some x → (os[i]? = some x) ∨ (i = os.length ∧ x = (mv, mw, l)) := fun i x h => by
      by_cases e : i < os.length
      · rw [List.getElem?_append_left e] at h; exact .inl h
      · have := (List.getElem?_eq_some_iff.1 h).1
        simp at this
        have hi : i = os.length := by omega
        subst hi
        rw [List.getElem?_append_right (Nat.le_refl _), Nat.sub_self] at h
        simp only [List.getElem?_cons_zero, Option.some.injEq] at h
        exact .inr ⟨rfl, h.symm⟩
    rcases old i x hi with h1 | ⟨h1, rfl⟩ <;> rcases old j y hj with h2 | ⟨h2, rfl⟩
    · exact B.sep i j x y b h1 h2 hb1 hb2
    · exact absurd (B.km x (List.mem_of_getElem? h1) b (.inl hb1)) (hmvK b hb2)
    · exact absurd (B.km y (List.mem_of_getElem? h2) b (.inl hb2)) (hmvK b hb1)
    · omega
  · rcases hob b hb with h | h
    · exact .inl (B.ko b h)
    · exact .inr ⟨h, ho.lt b hb⟩
  · rcases hwb b hb with h | h
    · exact .inl (B.kw b h)
    · exact .inr ⟨h, hw.lt b hb⟩
  · rcases List.mem_append.1 hx' with h | h
    · exact .inl (.inl (B.km x h b hb))
    · simp only [List.mem_singleton] at h
      subst h
      rcases hb with hb | hb
      · exact .inr hb
      · exact .inl (.inr ⟨hmwN b hb, Own.lt hmw b hb⟩)
  · rcases hb with (hb | hb) | hb
    · exact Nat.lt_of_lt_of_le (B.bound b hb) hx.size
    · exact hb.2
    · exact Own.lt hmv b hb
/-- An empty book. -/
theorem BookAt.empty (hb : bk < w.heap.size) (hc : w.heap[bk]? = some (.cells #[nilS, nilS, .int .i64 q] 51 (0, 0))) : BookAt w bk [] q nilS nilS (fun b => b = bk) where
  cells := hc
  outs := Own.nil _ _ _
  wants := Own.nil _ _ _
  msg := fun _ h => by cases h
  sep := fun _ _ _ _ _ h => by simp at h
  ow := fun _ h => by cases h
  kb := rfl
  ko := fun _ h => by cases h
  kw := fun _ h => by cases h
  km := fun _ h => by cases h
  bound := fun b h => by subst h; exact hb

/-- A pair of meshes, alike, and the book. -/
def Two (w : World) (m r : Nat) (n : Int) (bk : Nat) (F : Nat → Prop) : Prop :=
  ∃ R Fp os q vo vw K, Few R ∧ Half w m r n R R Fp ∧ BookAt w bk os q vo vw K ∧ os.length < 30 ∧ 0 ≤ q ∧ q < 16777216 ∧ (∀ b, Fp b → ¬ K b) ∧ (∀ b, Fp b ∨ K b → F b) ∧ ∀ b, F b → b < w.heap.size
end

theorem eq_errno (w : World) (a b : Int) : (binOp .eql 24 (.iface 28 (.int .i64 a)) (.iface 28 (.int .i64 b))).run Tryd.prog w = .ok (.bool (a == b)) w := by
  have c1 : (Tryd.prog.info? 28).map (·.comparable) = some true := by kernel_rfl
  obtain ⟨i, hi, hi2⟩ := Option.map_eq_some_iff.1 c1
  have hu : Tryd.prog.underlying 28 = some (.int .i64) := by kernel_rfl
  have h : ∀ d : Nat, (Op.equalIn (d + 2) 24 (.iface 28 (.int .i64 a)) (.iface 28 (.int .i64 b))).run Tryd.prog w = .ok (a == b) w := fun d => by
    simp [Op.equalIn, run_underlying Tryd.underlying24, run_underlying hu, typeInfo, hi, hi2]
  simp only [binOp]
  simp [Op.equal, Op.maxDepth, h 9998]
theorem eq_nilI (w : World) : (binOp .eql 24 .nilIface .nilIface).run Tryd.prog w = .ok (.bool true) w := by
  have h : ∀ d : Nat, (Op.equalIn (d + 1) 24 .nilIface .nilIface).run Tryd.prog w = .ok true w := fun d => by simp [Op.equalIn, run_underlying Tryd.underlying24]
  simp only [binOp]
  simp [Op.equal, Op.maxDepth, h 9999]

/-- What a step of a pair leaves. -/
def Kept (v : Value) (w : World) (m r : Nat) (n : Int) (bk : Nat) (F : Nat → Prop) (e : Ending) (w' : World) : Prop :=
  e = .returned v ∧ Two w' m r n bk (Grow F w w') ∧ Ext F w w'

section
variable {w w0 w1 w2 : World} {m r bk : Nat} {n : Int} {R R' : Lk → List (List UInt8)} {Fp Fm Fr Fm' Fr' K : Nat → Prop} {os : List Out} {q : Int} {vo vw mv idle : Value}
theorem half_join (h3 : ∀ b, Fm b → ¬ Fr b) (h4 : ∀ b, Fm b ∨ Fr b → Fp b) (h5 : ∀ b, Fp b → b < w.heap.size) (M : IsMesh w1 m n 0 R' Fm') (hM : ∀ b, Fm' b → (Fm b ∨ w.heap.size ≤ b) ∧ mv.ownBlock ≠ some b)
    (hw : w.heap.size ≤ w1.heap.size) (hx2 : Ext Fr w1 w2) (Rf : IsRef w2 r n R' Fr') (hR : ∀ b, Fr' b → Fr b ∨ w1.heap.size ≤ b) (hmv : ∀ b, mv.ownBlock = some b → Fm b) :
    Half w2 m r n R' R' (fun b => Grow Fp w w2 b ∧ mv.ownBlock ≠ some b) := by
  have hrb : ∀ b, Fr b → b < w.heap.size := fun b hb => h5 b (h4 b (.inr hb))
  have hmb : ∀ b, mv.ownBlock = some b → b < w.heap.size := fun b hb => h5 b (h4 b (.inl (hmv b hb)))
  have s2 := hx2.size
  have notR : ∀ b, Fm' b → ¬ Fr b := fun b hb hr => by
    rcases (hM b hb).1 with h | h
    · exact h3 b h hr
    · have := hrb b hr; omega
  refine ⟨Fm', Fr', M.ext hx2 notR, Rf, fun b hb hr => ?_, fun b hb => ?_, fun b hb => ?_⟩
  · rcases hR b hr with h | h
    · exact notR b hb h
    · have := M.bound b hb; omega
  · rcases hb with hb | hb
    · obtain ⟨h1, h2⟩ := hM b hb
      have := M.bound b hb
      exact ⟨h1.imp (fun h => h4 b (.inl h)) fun h => ⟨h, by omega⟩, h2⟩
    · have hlt := Rf.bound b hb
      rcases hR b hb with h | h
      · exact ⟨.inl (h4 b (.inr h)), fun e => h3 b (hmv b e) h⟩
      · exact ⟨.inr ⟨by omega, hlt⟩, fun e => by have := hmb b e; omega⟩
  · rcases hb.1 with h | h
    · have := h5 b h; omega
    · exact h.2
theorem kept_same {v : Value} (hfew : Few R') (h : Half w2 m r n R' R' (fun b => Grow Fp w w2 b ∧ nilS.ownBlock ≠ some b)) (B : BookAt w bk os q vo vw K) (hlen : os.length < 30) (hq0 : 0 ≤ q) (hq1 : q < 16777216) (hd : ∀ b, Fp b → ¬ K b) (hx : Ext Fp w w2) :
    Kept v w m r n bk (fun b => Fp b ∨ K b) (.returned v) w2 := by
  have B2 := B.ext hx fun b hk hf => hd b hf hk
  refine ⟨rfl, ⟨R', _, os, q, vo, vw, K, hfew, h, B2, hlen, hq0, hq1, fun b hb hk => ?_, fun b hb => ?_, fun b hb => ?_⟩, hx.mono fun k _ h => .inl h⟩
  · rcases hb.1 with h | h
    · exact hd b h hk
    · have := B.bound b hk; omega
  · rcases hb with h | h
    · exact h.1.imp .inl id
    · exact .inl (.inr h)
  · rcases hb with (h1 | h1) | h1
    · exact h.bound b ⟨.inl h1, fun e => by cases e⟩
    · exact B2.bound b h1
    · exact h1.2
/-- Behind a message that was taken: the pair at w2, the book at w3. -/
theorem kept_took {v : Value} {w3 : World} {K' : Nat → Prop} {os' : List Out} {q' : Int} {vo' vw' : Value} (hfew : Few R') (h : Half w2 m r n R' R' (fun b => Grow Fp w w2 b ∧ mv.ownBlock ≠ some b)) (hmv : ∀ b, mv.ownBlock = some b → Fp b)
    (hx : Ext Fp w w2) (hx3 : Ext (fun b => K b ∨ mv.ownBlock = some b) w2 w3) (B : BookAt w3 bk os' q' vo' vw' K') (hK' : ∀ b, K' b → Grow K w2 w3 b ∨ mv.ownBlock = some b) (hlen : os'.length < 30) (hq0 : 0 ≤ q') (hq1 : q' < 16777216) (hd : ∀ b, Fp b → ¬ K b) (hkb : ∀ b, K b → b < w.heap.size) (hfb : ∀ b, Fp b → b < w.heap.size) :
    Kept v w m r n bk (fun b => Fp b ∨ K b) (.returned v) w3 := by
  have s1 := hx.size
  have s3 := hx3.size
  refine ⟨rfl, ⟨R', (fun b => Grow Fp w w2 b ∧ mv.ownBlock ≠ some b), os', q', vo', vw', K', hfew, h.ext hx3 fun b hb hk => ?_, B, hlen, hq0, hq1, fun b hb hk => ?_, fun b hb => ?_, fun b hb => ?_⟩, (hx.mono fun k _ h => .inl h).trans hx3 fun b hlt hb => ?_⟩
  · rcases hk with hk | hk
    · rcases hb.1 with h' | h'
      · exact hd b h' hk
      · have := hkb b hk; omega
    · exact hb.2 hk
  · have hlt := h.bound b hb
    rcases hK' b hk with (hk | hk) | hk
    · rcases hb.1 with h' | h'
      · exact hd b h' hk
      · have := hkb b hk; omega
    · omega
    · exact hb.2 hk
  · rcases hb with hb | hb
    · exact hb.1.imp .inl fun h => ⟨h.1, by omega⟩
    · rcases hK' b hb with (h' | h') | h'
      · exact .inl (.inr h')
      · exact .inr ⟨by omega, h'.2⟩
      · exact .inl (.inl (hmv b h'))
  · rcases hb with (hb | hb) | hb
    · have := hfb b hb; omega
    · have := hkb b hb; omega
    · exact hb.2
  · exact hb.elim .inr fun h => .inl (hmv b h)
set_option maxRecDepth 100000 in
set_option maxHeartbeats 8000000 in
theorem take_pair (h : Half w m r n R R Fp) (hfew : Few R) (B : BookAt w bk os q vo vw K) (hlen : os.length < 30) (hq0 : 0 ≤ q) (hq1 : q < 16777216) (hd : ∀ b, Fp b → ¬ K b) (hi : IdleAt w idle) (hF0 : ¬ Fp 0) (hK0 : ¬ K 0)
    (kind x y i0 j0 q0 : Int) (c : UInt8) (adb : Option Addr) (lb cb : Nat) :
    Calls Tryd.prog 31 #[pairV m r, stepV kind x y i0 j0 q0 c (.slice adb lb cb), .pointer (some ⟨bk, 0, none⟩)] w (Kept (.bool true) w m r n bk (fun b => Fp b ∨ K b)) := by
  obtain ⟨Fm, Fr, h1, h2, h3, h4, h5⟩ := h
  obtain ⟨ado, co, rfl, _⟩ := B.outs.slice2
  obtain ⟨adw, cw, rfl, _⟩ := B.wants.slice2
  have H1 := Lib.hid h1
  have H2 := Lib.hid h2
  have H3 := Lib.hid h3
  have H4 := Lib.hid h4
  have H5 := Lib.hid h5
  have HBk := Lib.hid B
  have Hd := Lib.hid hd
  have Hi := Lib.hid hi
  have HF0 := Lib.hid hF0
  have HK0 := Lib.hid hK0
  have Hfew := Lib.hid hfew
  have hcap := (hfew (x, y)).1
  clear h1 h2 h3 h4 h5 B hd hi hF0 hK0 hfew
  unfold pairV stepV
  go_enter Tryd.func31, Tryd.ntmps31
  go_wp2_with fail
  have hbx := boxed w m r [.int .i64 kind, .int .i64 x, .int .i64 y, .int .i64 i0, .int .i64 j0, .int .i64 q0, .int .u8 c.toNat, .slice adb lb cb]
  generalize ((w.alloc (.cells #[.pointer (some ⟨m, 0, none⟩), .pointer (some ⟨r, 0, none⟩)] 48)).alloc (.cells #[.int .i64 kind, .int .i64 x, .int .i64 y, .int .i64 i0, .int .i64 j0, .int .i64 q0, .int .u8 c.toNat, .slice adb lb cb] 53)) = w0 at hbx ⊢
  obtain ⟨pb, hpb⟩ : ∃ pb, pb = w.heap.size := ⟨_, rfl⟩
  rw [← hpb] at hbx ⊢
  have HB := Lib.hid hbx
  have Hpb := Lib.hid hpb
  clear hbx hpb
  have hid0 : w0.cell? ⟨0, 0, none⟩ = some idle := HB.out.ext.cell Hi.out.2 id
  refine (take_any (H1.out.grown HB.out.ext) x y idle hid0 (fun h => HF0.out (H4.out 0 (.inl h))) hcap).mono ?_
  intro e w1 hT
  unfold TookV at hT
  cases hth : thereB n (x, y) with
  | false =>
    rw [hth, if_neg (by decide)] at hT
    obtain ⟨rfl, hm1, hx1⟩ := hT
    have Hth := Lib.hid hth
    have Hm1 := Lib.hid hm1
    have Hx1 := Lib.hid hx1
    clear hth hm1 hx1 hid0
    obtain ⟨c0, c1, c2, c3, c4, c5, c6, c7, c8, c9⟩ := HB.out.cells Hx1.out fun b h1 _ h => by have := H5.out b (H4.out b (.inl h)); have := Hpb.out; omega
    go_wp2_with fail
    refine (take_ref (H2.out.ext (HB.out.ext.nilMono.trans' Hx1.out) fun b hb hm => H3.out b hm hb) x y hcap).mono ?_
    intro e w2 hT
    unfold TookR at hT
    rw [Hth.out, if_neg (by decide)] at hT
    obtain ⟨rfl, hr2, hx2⟩ := hT
    clear c0 c1 c2 c3 c4 c5 c6 c7 c8 c9
    have Hr2 := Lib.hid hr2
    have Hx2 := Lib.hid hx2
    clear hr2 hx2
    have he := fun w => eq_errno w 1 1
    go_wp2
    go_ret
    have hx2 := HB.out.ext.size
    refine kept_same Hfew.out (half_join (mv := nilS) (w1 := w1) H3.out H4.out H5.out Hm1.out (fun b hb => ⟨hb.imp id fun h => by omega, fun e => by cases e⟩) (by have := Hx1.out.size; omega) Hx2.out Hr2.out (fun b hb => hb.imp id (·.1)) fun b hb => by cases hb) HBk.out hlen hq0 hq1 Hd.out ?_
    exact HB.out.ext.nilMono.trans' ((Hx1.out.mono fun b _ h => H4.out b (.inl h)).trans' (Hx2.out.mono fun b _ h => H4.out b (.inr h)))
  | true =>
    rw [hth, if_pos rfl] at hT
    have Hth := Lib.hid hth
    clear hth
    cases hR : R (x, y) with
    | nil =>
      rw [hR] at hT
      obtain ⟨rfl, hm1, hx1⟩ := hT
      have HR := Lib.hid hR
      have Hm1 := Lib.hid hm1
      have Hx1 := Lib.hid hx1
      clear hm1 hx1 hid0 hR
      obtain ⟨c0, c1, c2, c3, c4, c5, c6, c7, c8, c9⟩ := HB.out.cells Hx1.out fun b h1 _ h => by have := H5.out b (H4.out b (.inl h)); have := Hpb.out; omega
      go_wp2_with fail
      refine (take_ref (H2.out.ext (HB.out.ext.nilMono.trans' Hx1.out) fun b hb hm => H3.out b hm hb) x y hcap).mono ?_
      intro e w2 hT
      unfold TookR at hT
      rw [Hth.out, if_pos rfl, HR.out] at hT
      obtain ⟨rfl, hr2, hx2⟩ := hT
      clear c0 c1 c2 c3 c4 c5 c6 c7 c8 c9
      have Hr2 := Lib.hid hr2
      have Hx2 := Lib.hid hx2
      clear hr2 hx2
      have hxw : Hid (Ext Fp w w2) := HB.out.ext.nilMono.trans' ((Hx1.out.mono fun b _ h => H4.out b (.inl h)).trans' (Hx2.out.mono fun b _ h => H4.out b (.inr h)))
      have hidle : w2.cell? ⟨0, 0, none⟩ = some idle := hxw.out.cell Hi.out.2 HF0.out
      go_wp2_with fail
      refine (oneErr_same Hi.out.1).mono ?_
      rintro e w3 ⟨rfl, rfl⟩
      go_wp2
      go_ret
      have hx2 := HB.out.ext.size
      exact kept_same Hfew.out (half_join (mv := nilS) (w1 := w1) H3.out H4.out H5.out Hm1.out (fun b hb => ⟨hb.imp id fun h => by omega, fun e => by cases e⟩) (by have := Hx1.out.size; omega) Hx2.out Hr2.out (fun b hb => hb.imp id (·.1)) fun b hb => by cases hb) HBk.out hlen hq0 hq1 Hd.out hxw.out
    | cons l L =>
      rw [hR] at hT
      obtain ⟨mv, rfl, hmv, hm1, hx1, hmb⟩ := hT
      have HR := Lib.hid hR
      have Hm1 := Lib.hid hm1
      have Hx1 := Lib.hid hx1
      have Hmb := Lib.hid hmb
      have hll : l.length ≤ 2097194 := (Hfew.out (x, y)).2 l (by rw [hR]; exact List.mem_cons_self ..)
      clear hm1 hx1 hid0 hmb hR
      obtain ⟨c0, c1, c2, c3, c4, c5, c6, c7, c8, c9⟩ := HB.out.cells Hx1.out fun b h1 _ h => by have := H5.out b (H4.out b (.inl h)); have := Hpb.out; omega
      obtain ⟨adm, cm, rfl⟩ := Own.slice hmv
      have Hmv := Lib.hid hmv
      clear hmv
      go_wp2_with fail
      refine (take_ref (H2.out.ext (HB.out.ext.nilMono.trans' Hx1.out) fun b hb hm => H3.out b hm hb) x y hcap).mono ?_
      intro e w2 hT
      unfold TookR at hT
      rw [Hth.out, if_pos rfl, HR.out] at hT
      obtain ⟨my, hmy, rfl, hr2, hx2⟩ := hT
      clear c0 c1 c2 c3 c4 c5 c6 c7 c8 c9
      obtain ⟨ady, cy, rfl⟩ := Own.slice hmy
      have Hmy := Lib.hid hmy
      have Hr2 := Lib.hid hr2
      have Hx2 := Lib.hid hx2
      clear hmy hr2 hx2
      have Hxw : Hid (Ext Fp w w2) := HB.out.ext.nilMono.trans' ((Hx1.out.mono fun b _ h => H4.out b (.inl h)).trans' (Hx2.out.mono fun b _ h => H4.out b (.inr h)))
      have Hmv2 : Hid (MsgIs w2 (.slice adm l.length cm) l) := Own.ext Hmv.out Hx2.out fun b hb hr => H3.out b (Hmb.out b hb).1 hr
      have HH : Hid (Half w2 m r n (upd R (x, y) L) (upd R (x, y) L) (fun b => Grow Fp w w2 b ∧ (Value.slice adm l.length cm).ownBlock ≠ some b)) := by
        have hx2 := HB.out.ext.size
        exact half_join (w1 := w1) H3.out H4.out H5.out Hm1.out (fun b hb => ⟨hb.1.imp id fun h => by omega, hb.2⟩) (by have := Hx1.out.size; omega) Hx2.out Hr2.out (fun b hb => hb.imp id (·.1)) fun b hb => (Hmb.out b hb).1
      have HB2 : Hid (BookAt w2 bk os q (.slice ado os.length co) (.slice adw os.length cw) K) := HBk.out.ext Hxw.out fun b hk hf => Hd.out b hf hk
      go_wp2_with fail
      refine (same_any (l := l) (m := l) ⟨Hmv2.out.src (bv_one l), adm, cm, rfl⟩ ⟨Hmy.out.src (bv_one l), ady, cy, rfl⟩).mono ?_
      rintro e w3 ⟨rfl, rfl⟩
      rw [beq_self_eq_true]
      obtain ⟨k0, k1, k2⟩ := HB2.out.cell
      have hbk2 := HB2.out.bound bk HB2.out.kb
      have hne : ∀ b, (Value.slice ado os.length co).ownBlock = some b → b ≠ bk := fun b hb e => by
        obtain ⟨C, hC⟩ := HB2.out.outs.tag b hb
        rw [e, HB2.out.cells] at hC; cases hC
      have hnw : ∀ b, (Value.slice adw os.length cw).ownBlock = some b → b ≠ bk := fun b hb e => by
        obtain ⟨C, hC⟩ := HB2.out.wants.tag b hb
        rw [e, HB2.out.cells] at hC; cases hC
      have Hne := Lib.hid hne
      have Hnw := Lib.hid hnw
      have hone : (Value.slice adm l.length cm).oneCell' = true := rfl
      clear hne hnw k1 k2
      go_wp2_with (at_builtin; refine wpList_append rfl _ _ _ rfl elBytes ⟨_, Tryd.underlying25, fun _ h => by cases h⟩ (Own.ext HB2.out.outs ((Ext.refl Nil w2).alloc _) fun _ _ h => h) (src_new w2 [.slice adm l.length cm] 32 (by intro u hu; simp only [List.mem_singleton] at hu; subst hu; rfl)) rfl rfl (by simp; omega) (by unfold maxLen; simp; omega) ?_; intro v4 w4 hA; obtain ⟨ad4, cp4, rfl⟩ := hA.own.slice; have hb4 := hA.ext.heap (((Ext.refl Nil w2).alloc (.cells #[.slice adm l.length cm] 32)).heap HB2.out.cells id) (fun e => Hne.out bk e rfl); have hc4 : w4.cell? ⟨bk, 0, none⟩ = some (.slice ado os.length co) := (by rw [cell_of_row w4 bk _ _ _ (0, 0) hb4]; rfl); have hf4 : w4.frozen? ⟨bk, 0, none⟩ = false := row_frozen hb4)
      have Hb4 := Lib.hid hb4
      have HA4 := Lib.hid hA
      clear hb4 hA hc4 hf4 hone k0
      have hb5 : (w4.setCell ⟨bk, 0, none⟩ (.slice ad4 (os.length + 1) cp4)).heap[bk]? = some (.cells #[.slice ad4 (os.length + 1) cp4, .slice adw os.length cw, .int .i64 q] 51 (0, 0)) := by
        simp [World.setCell, Array.getElem?_modify, Hb4.out]
      have hx45 : Ext (fun b => b = bk) w4 (w4.setCell ⟨bk, 0, none⟩ (.slice ad4 (os.length + 1) cp4)) := (Ext.refl (fun b => b = bk) w4).setCell (fun _ => rfl) _
      have hx25 : Ext (fun b => b = bk ∨ (Value.slice ado os.length co).ownBlock = some b) w2 (w4.setCell ⟨bk, 0, none⟩ (.slice ad4 (os.length + 1) cp4)) := (((Ext.refl _ w2).alloc _).trans HA4.out.ext fun _ _ h => .inr h).trans hx45 fun _ _ h => .inl h
      have ho5 : Own (w4.setCell ⟨bk, 0, none⟩ (.slice ad4 (os.length + 1) cp4)) (.slice ad4 (os.length + 1) cp4) 32 1 (os.length + 1) (os.map (·.1) ++ [.slice adm l.length cm]) := HA4.out.own.ext hx45 fun b hb e => by
        obtain ⟨C, hC⟩ := HA4.out.own.tag b hb
        rw [e, Hb4.out] at hC; cases hC
      have hoB : ∀ b, (Value.slice ad4 (os.length + 1) cp4).ownBlock = some b → (Value.slice ado os.length co).ownBlock = some b ∨ w2.heap.size ≤ b := fun b hb => by
        rcases HA4.out.lies with h | ⟨k, h, hk, _⟩
        · exact .inl (h.symm.trans hb)
        · have h' : (Value.slice ad4 (os.length + 1) cp4).ownBlock = some k := h
          rw [h'] at hb; injection hb with hb; simp at hk; right; omega
      generalize (w4.setCell ⟨bk, 0, none⟩ (.slice ad4 (os.length + 1) cp4)) = w5 at hb5 hx45 hx25 ho5 ⊢
      have Hb5 := Lib.hid hb5
      have Hx25 := Lib.hid hx25
      have Ho5 := Lib.hid ho5
      have HoB := Lib.hid hoB
      clear hb5 hx45 hx25 ho5 hoB HA4 Hb4
      have Hmy5 : Hid (MsgIs w5 (.slice ady l.length cy) l) := Own.ext Hmy.out Hx25.out fun b hb e => by
        obtain ⟨C, hC⟩ := Own.tag Hmy.out b hb
        rcases e with e | e
        · rw [e, HB2.out.cells] at hC; cases hC
        · obtain ⟨D, hD⟩ := HB2.out.outs.tag b e; rw [hD] at hC; cases hC
      have Hw5 : Hid (Own w5 (.slice adw os.length cw) 32 1 os.length (os.map (·.2.1))) := HB2.out.wants.ext Hx25.out fun b hb e => by
        rcases e with e | e
        · exact Hnw.out b hb e
        · exact HB2.out.ow b e hb
      have hbk5 := Hx25.out.size
      refine X.wp_region_preG (fun b => w5.heap.size ≤ b) 9 [0] [(1, true), (2, true), (3, true), (4, true), (6, true), (5, false), (7, false), (8, false)] [(9, false), (10, true), (11, true), (12, false)] (by kernel_rfl) (by kernel_rfl) (fun wd hxwd hh => ?_)
      clear hh
      refine X.wpT_pure (o := ⟨_, _, _, _, _, _⟩) rfl rfl ?_
      apply Exists.intro
      refine ⟨fun w' => ?_, ?_⟩
      · go_simp
        rfl
      simp only [Act.put, List.setIfInBounds_toArray, List.set_cons_succ, List.set_cons_zero]
      refine X.wpT_nil ?_
      have hdn : Ext (fun b => w5.heap.size ≤ b) w5 wd := hxwd.nilMono
      have hbk5 : ∀ w', Ext (fun b => w5.heap.size ≤ b) wd w' → w'.heap[bk]? = some (.cells #[.slice ad4 (os.length + 1) cp4, .slice adw os.length cw, .int .i64 q] 51 (0, 0)) := fun w' h => (hdn.trans' h).heap Hb5.out fun h => by have := lt_of_heap Hb5.out; omega
      have Hbk5 := Lib.hid hbk5
      clear hbk5
      iterate 5
        refine X.wpE_still (o := ⟨_, _, _, _, _, _⟩) rfl rfl ?_
        apply Exists.intro
        refine ⟨fun w' hE => ?_, ?_⟩
        · have k1 : w'.cell? ⟨bk, 1, none⟩ = some (.slice adw os.length cw) := by rw [cell_of_row w' bk _ _ _ (0, 0) (Hbk5.out w' hE)]; rfl
          go_simp
          rfl
        simp only [Act.put, List.setIfInBounds_toArray, List.set_cons_succ, List.set_cons_zero]
      refine X.wpE_grow (o := ⟨_, _, _, _, _, _⟩) rfl rfl ?_
      apply Exists.intro
      apply Exists.intro
      refine ⟨?_, ?_, ?_⟩
      · go_simp
        exact ⟨rfl, rfl⟩
      · exact (Ext.refl _ _).alloc _
      simp only [Act.put, List.setIfInBounds_toArray, List.set_cons_succ, List.set_cons_zero]
      refine X.wpE_loud (o := ⟨_, _, _, _, _, _⟩) rfl rfl ?_
      refine X.wp_append _ _ 32 rfl elByte ⟨_, Tryd.underlying32, fun _ h => by cases h⟩ (own_new wd #[] 5 1 0 0 [] rfl (Nat.le_refl _) (Nat.zero_le _) (by simp) (by simp)) ((Hmy5.out.src (bv_one l)).ext (F := Nil) (hxwd.alloc _) fun _ _ h => h) rfl rfl (by omega) (by unfold maxLen; omega) ?_
      intro v7 w7 hA
      have h7 := hA.own
      have hn7 : ∀ b, v7.ownBlock = some b → w5.heap.size ≤ b := fun b hb => by
        have := hxwd.size
        rcases hA.lies with h | ⟨k, h, hk, _⟩
        · have : wd.heap.size = b := by simpa [Value.ownBlock] using h.symm.trans hb
          omega
        · rw [h] at hb; injection hb with hb; simp at hk; omega
      have hx7 : Ext (fun b => w5.heap.size ≤ b) (wd.alloc (Obj.cells #[] 5)) w7 := hA.ext.mono fun k _ e => by
        have : wd.heap.size = k := by simpa [Value.ownBlock] using e
        have := hxwd.size; omega
      have hx57 : Ext Nil w5 w7 := (hxwd.alloc (.cells #[] 5)).trans hx7 fun k hk h => by omega
      rw [Nat.zero_add, List.nil_append] at h7
      obtain ⟨ad7, c7, rfl⟩ := h7.slice
      refine ⟨hx7, ?_⟩
      have hxd7 : Ext (fun b => w5.heap.size ≤ b) wd w7 := ((Ext.refl _ wd).alloc _).trans' hx7
      have H7 := Lib.hid h7
      have Hn7 := Lib.hid hn7
      have Hx57 := Lib.hid hx57
      have Hxd7 := Lib.hid hxd7
      clear hA h7 hn7 hx7 hx57 hxd7 hxwd hdn
      simp only [Act.put, List.setIfInBounds_toArray, List.set_cons_succ, List.set_cons_zero]
      refine X.wpE_grow (o := ⟨_, _, _, _, _, _⟩) rfl rfl ?_
      apply Exists.intro
      apply Exists.intro
      refine ⟨?_, ?_, ?_⟩
      · go_simp
        exact ⟨rfl, rfl⟩
      · exact (Ext.refl _ _).alloc _
      simp only [Act.put, List.setIfInBounds_toArray, List.set_cons_succ, List.set_cons_zero]
      refine X.wpE_nil ?_
      have hx58 : Ext Nil w5 (w7.alloc (Obj.cells #[.slice ad7 l.length c7] 32)) := Hx57.out.alloc _
      have hsrc8 : Src (w7.alloc (Obj.cells #[.slice ad7 l.length c7] 32)) (.slice (some ⟨w7.heap.size, 0, none⟩) 1 1) 1 1 [.slice ad7 l.length c7] := src_new w7 [.slice ad7 l.length c7] 32 (by simpa using H7.out.one)
      have hm8 : Own (w7.alloc (Obj.cells #[.slice ad7 l.length c7] 32)) (.slice ad7 l.length c7) 5 1 l.length (bv l) := H7.out.ext (F := Nil) ((Ext.refl _ _).alloc _) fun _ _ h => h
      have hb8 : (w7.alloc (Obj.cells #[.slice ad7 l.length c7] 32)).heap[bk]? = some (.cells #[.slice ad4 (os.length + 1) cp4, .slice adw os.length cw, .int .i64 q] 51 (0, 0)) := hx58.heap Hb5.out id
      obtain ⟨nb, hnb⟩ : ∃ nb, nb = w7.heap.size := ⟨_, rfl⟩
      rw [← hnb] at hsrc8 ⊢
      generalize w7.alloc (Obj.cells #[.slice ad7 l.length c7] 32) = w8 at hx58 hsrc8 hm8 hb8 ⊢
      have Hx58 := Lib.hid hx58
      have Hsrc8 := Lib.hid hsrc8
      have Hm8 := Lib.hid hm8
      have Hb8 := Lib.hid hb8
      clear hx58 hsrc8 hm8 hb8 hnb
      refine X.wpT_loud (o := ⟨_, _, _, _, _, _⟩) rfl rfl ?_
      refine X.wp_append _ _ 25 rfl elBytes ⟨_, Tryd.underlying25, fun _ h => by cases h⟩ (Hw5.out.ext (F := Nil) Hx58.out fun _ _ h => h) Hsrc8.out rfl rfl (by omega) (by unfold maxLen; omega) ?_
      intro v9 w9 hA
      obtain ⟨ad9, c9', rfl⟩ := hA.own.slice
      simp only [Act.put, List.setIfInBounds_toArray, List.set_cons_succ, List.set_cons_zero]
      have hb9 := hA.ext.heap Hb8.out fun e => Hnw.out bk e rfl
      have hc9 : w9.cell? ⟨bk, 1, none⟩ = some (.slice adw os.length cw) := by rw [cell_of_row w9 bk _ _ _ (0, 0) hb9]; rfl
      have hf9 : w9.frozen? ⟨bk, 1, none⟩ = false := row_frozen hb9
      have HA := Lib.hid hA
      have Hb9 := Lib.hid hb9
      clear hA hb9
      iterate 2
        refine X.wpT_pure (o := ⟨_, _, _, _, _, _⟩) rfl rfl ?_
        apply Exists.intro
        refine ⟨fun w' => ?_, ?_⟩
        · go_simp
          rfl
        simp only [Act.put, List.setIfInBounds_toArray, List.set_cons_succ, List.set_cons_zero]
      refine X.wpT_act (o := ⟨_, _, _, _, _, _⟩) rfl rfl ?_
      apply Exists.intro
      refine ⟨?_, ?_⟩
      · go_simp
        rfl
      simp only [Act.put]
      refine X.wpT_nil ?_
      clear hc9 hf9
      have hb10 : (w9.setCell ⟨bk, 1, none⟩ (.slice ad9 (os.length + 1) c9')).heap[bk]? = some (.cells #[.slice ad4 (os.length + 1) cp4, .slice ad9 (os.length + 1) c9', .int .i64 q] 51 (0, 0)) := by
        simp [World.setCell, Array.getElem?_modify, Hb9.out]
      have hx910 : Ext (fun b => b = bk) w9 (w9.setCell ⟨bk, 1, none⟩ (.slice ad9 (os.length + 1) c9')) := (Ext.refl (fun b => b = bk) w9).setCell (fun _ => rfl) _
      have Hx910 := Lib.hid hx910
      generalize (w9.setCell ⟨bk, 1, none⟩ (.slice ad9 (os.length + 1) c9')) = w10 at hb10 Hx910 ⊢
      clear hx910
      have k0 : w10.cell? ⟨bk, 0, none⟩ = some (.slice ad4 (os.length + 1) cp4) := by rw [cell_of_row w10 bk _ _ _ (0, 0) hb10]; rfl
      have k2 : w10.cell? ⟨bk, 2, none⟩ = some (.int .i64 q) := by rw [cell_of_row w10 bk _ _ _ (0, 0) hb10]; rfl
      have kf : ∀ i, w10.frozen? ⟨bk, i, none⟩ = false := fun i => row_frozen hb10
      have Hb10 := Lib.hid hb10
      clear hb10
      have hbook : Hid (BookAt (w10.setCell ⟨bk, 2, none⟩ (.int .i64 (q + l.length))) bk (os ++ [(.slice adm l.length cm, .slice ad7 l.length c7, l)]) (q + l.length) (.slice ad4 (os.length + 1) cp4) (.slice ad9 (os.length + 1) c9')
          (fun b => Grow K w2 (w10.setCell ⟨bk, 2, none⟩ (.int .i64 (q + l.length))) b ∨ (Value.slice adm l.length cm).ownBlock = some b)) ∧ Ext K w2 (w10.setCell ⟨bk, 2, none⟩ (.int .i64 (q + l.length))) := by
        have hx911 : Ext (fun b => b = bk) w9 (w10.setCell ⟨bk, 2, none⟩ (.int .i64 (q + l.length))) := Hx910.out.setCell (fun _ => rfl) _
        have s25 := Hx25.out.size
        have s58 := Hx58.out.size
        have vwlt := HB2.out.wants.lt
        have v4w : ∀ b, (Value.slice ad4 (os.length + 1) cp4).ownBlock = some b → (Value.slice adw os.length cw).ownBlock ≠ some b := fun b h1 h2 => by
          rcases HoB.out b h1 with h | h
          · exact HB2.out.ow b h h2
          · have := vwlt b h2; omega
        have hx : Ext (fun b => b = bk ∨ (Value.slice ado os.length co).ownBlock = some b ∨ (Value.slice adw os.length cw).ownBlock = some b) w2 (w10.setCell ⟨bk, 2, none⟩ (.int .i64 (q + l.length))) := by
          refine (Hx25.out.mono fun b _ h => ?_).trans' (Hx58.out.nilMono.trans' ((HA.out.ext.mono fun b _ h => .inr (.inr h)).trans' (hx911.mono fun b _ h => .inl h)))
          exact h.imp id .inl
        have notK : ∀ b, (Value.slice adm l.length cm).ownBlock = some b → ¬ K b := fun b hb => Hd.out b (H4.out b (.inl (Hmb.out b hb).1))
        have o9 : Own w9 (.slice ad4 (os.length + 1) cp4) 32 1 (os.length + 1) (os.map (·.1) ++ [.slice adm l.length cm]) := (Ho5.out.ext Hx58.out fun _ _ h => h).ext HA.out.ext fun b h1 h2 => v4w b h1 h2
        have nobk : ∀ (v : Value) (e : TypeId) (sz n : Nat) (xs : List Value), Own w9 v e sz n xs → e ≠ 51 → ∀ b, v.ownBlock = some b → ¬ b = bk := fun v e sz n xs h he b hb e1 => by
          obtain ⟨C, hC⟩ := h.tag b hb
          rw [e1, Hb9.out] at hC
          simp only [Option.some.injEq, Obj.cells.injEq] at hC
          exact he hC.2.1.symm
        have hK : Ext K w2 (w10.setCell ⟨bk, 2, none⟩ (.int .i64 (q + l.length))) := hx.mono fun b _ h => by
          rcases h with rfl | h | h
          · exact HB2.out.kb
          · exact HB2.out.ko b h
          · exact HB2.out.kw b h
        refine ⟨HB2.out.push hx ?_ (o9.ext hx911 (nobk _ _ _ _ _ o9 (by decide))) (HA.out.own.ext hx911 (nobk _ _ _ _ _ HA.out.own (by decide))) (Own.ext Hmv2.out hK notK) ?_ hll HoB.out ?_ ?_ notK ?_, hK⟩
        · simp [World.setCell, Array.getElem?_modify, Hb10.out]
        · have m9 : Own w9 (.slice ad7 l.length c7) 5 1 l.length (bv l) := Hm8.out.ext HA.out.ext fun b h1 h2 => by
            have := Hn7.out b h1; have := vwlt b h2; omega
          exact m9.ext hx911 (nobk _ _ _ _ _ m9 (by decide))
        · intro b hb
          rcases HA.out.lies with h | ⟨k, h, hk, _⟩
          · exact .inl (h.symm.trans hb)
          · rw [h] at hb; injection hb with hb; right; omega
        · intro b h1 h2
          rcases HA.out.lies with h | ⟨k, h, hk, _⟩
          · exact v4w b h1 (h.symm.trans h2)
          · rw [h] at h2; injection h2 with h2
            have := Ho5.out.lt b h1; omega
        · intro b hb
          have := Hn7.out b hb; omega
      have he := fun w => eq_nilI w
      clear HA Hb9 Hx910 Hm8 Hsrc8 Hb8 Hx58 H7 Hn7 Hx57 Hxd7 Hbk5 Hw5 Hmy5 Hb5 Hx25 Ho5 HoB Hmy Hmv
      obtain ⟨hbook, hK11⟩ := hbook
      have HK11 := Lib.hid hK11
      clear hK11
      have hmvF : ∀ b, (Value.slice adm l.length cm).ownBlock = some b → Fp b := fun b hb => H4.out b (.inl (Hmb.out b hb).1)
      have HmvF := Lib.hid hmvF
      clear hmvF
      have HkB : Hid (∀ b, K b → b < w.heap.size) := HBk.out.bound
      have hfewL : Hid (Few (upd R (x, y) L)) := few_take Hfew.out HR.out
      have hol : (os ++ [((.slice adm l.length cm, .slice ad7 l.length c7, l) : Out)]).length = os.length + 1 := by simp
      have Hol := Lib.hid hol
      clear hol
      have hlast : ∀ (w12 : World), Ext (OutB (os ++ [((.slice adm l.length cm, .slice ad7 l.length c7, l) : Out)])) (w10.setCell ⟨bk, 2, none⟩ (.int .i64 (q + l.length))) w12 →
          (w12.cell? ⟨bk, 0, none⟩ = some (.slice ad4 (os.length + 1) cp4) ∧ w12.cell? ⟨bk, 1, none⟩ = some (.slice ad9 (os.length + 1) c9') ∧ w12.cell? ⟨bk, 2, none⟩ = some (.int .i64 (q + l.length)) ∧ ∀ i, w12.frozen? ⟨bk, i, none⟩ = false) ∧
          Kept (.bool true) w m r n bk (fun b => Fp b ∨ K b) (.returned (.bool true)) (((w12.setCell ⟨bk, 0, none⟩ nilS).setCell ⟨bk, 1, none⟩ nilS).setCell ⟨bk, 2, none⟩ (.int .i64 0)) := fun w12 hx12 => by
        have hb12 : w12.heap[bk]? = some (.cells #[.slice ad4 (os.length + 1) cp4, .slice ad9 (os.length + 1) c9', .int .i64 (q + l.length)] 51 (0, 0)) := hx12.heap hbook.out.cells fun ⟨z, hz, hb⟩ => by
          obtain ⟨C, hC⟩ := Own.tag (hbook.out.msg z hz).1 bk hb
          rw [hbook.out.cells] at hC; cases hC
        refine ⟨⟨by rw [cell_of_row w12 bk _ _ _ (0, 0) hb12]; rfl, by rw [cell_of_row w12 bk _ _ _ (0, 0) hb12]; rfl, by rw [cell_of_row w12 bk _ _ _ (0, 0) hb12]; rfl, fun i => row_frozen hb12⟩, ?_⟩
        have hx13 : Ext (fun b => b = bk) w12 (((w12.setCell ⟨bk, 0, none⟩ nilS).setCell ⟨bk, 1, none⟩ nilS).setCell ⟨bk, 2, none⟩ (.int .i64 0)) := (((Ext.refl (fun b => b = bk) w12).setCell (fun _ => rfl) _).setCell (fun _ => rfl) _).setCell (fun _ => rfl) _
        have hb13 : (((w12.setCell ⟨bk, 0, none⟩ nilS).setCell ⟨bk, 1, none⟩ nilS).setCell ⟨bk, 2, none⟩ (.int .i64 0)).heap[bk]? = some (.cells #[nilS, nilS, .int .i64 0] 51 (0, 0)) := by
          simp [World.setCell, Array.getElem?_modify, hb12]
        refine kept_took (K := K) hfewL.out HH.out HmvF.out Hxw.out ?_ (BookAt.empty (lt_of_heap hb13) hb13) (fun b e => ?_) (by simp) (by decide) (by decide) Hd.out HkB.out H5.out
        · have e23 : Ext (fun b => OutB (os ++ [((.slice adm l.length cm, .slice ad7 l.length c7, l) : Out)]) b ∨ b = bk) (w10.setCell ⟨bk, 2, none⟩ (.int .i64 (q + l.length))) (((w12.setCell ⟨bk, 0, none⟩ nilS).setCell ⟨bk, 1, none⟩ nilS).setCell ⟨bk, 2, none⟩ (.int .i64 0)) :=
            (hx12.mono fun b _ h => .inl h).trans' (hx13.mono fun b _ h => .inr h)
          refine (HK11.out.mono fun b _ h => .inl h).trans e23 fun b _ h => ?_
          rcases h with ⟨z, hz, hb⟩ | h
          · rcases List.mem_append.1 hz with h | h
            · exact .inl (HB2.out.km z h b (.inl hb))
            · simp only [List.mem_singleton] at h
              subst h
              exact .inr hb
          · subst h
            exact .inl HB2.out.kb
        · subst e
          exact .inl (.inl HB2.out.kb)
      have Hlast := Lib.hid hlast
      have Hbook := Lib.hid hbook
      clear hlast hbook
      by_cases h30 : os.length + 1 < 30
      case pos =>
        by_cases hbig : q + (l.length : Int) < 16777216
        case pos =>
          go_wp2
          go_ret
          exact kept_took hfewL.out HH.out HmvF.out Hxw.out (HK11.out.mono fun b _ h => .inl h) Hbook.out (fun b h => h) (by rw [Hol.out]; exact h30) (by omega) hbig Hd.out HkB.out H5.out
        case neg =>
          go_wp2_with fail
          refine (apart_any Hbook.out (by rw [Hol.out]; omega)).mono ?_
          rintro e w12 ⟨rfl, hx12⟩
          obtain ⟨⟨k0', k1', k2', kf'⟩, hend⟩ := Hlast.out w12 hx12
          have Hend := Lib.hid hend
          clear hx12 hend k0 k2 kf
          go_wp2
          go_ret
          exact Hend.out
      case neg =>
        go_wp2_with fail
        refine (apart_any Hbook.out (by rw [Hol.out]; omega)).mono ?_
        rintro e w12 ⟨rfl, hx12⟩
        obtain ⟨⟨k0', k1', k2', kf'⟩, hend⟩ := Hlast.out w12 hx12
        have Hend := Lib.hid hend
        clear hx12 hend k0 k2 kf
        go_wp2
        go_ret
        exact Hend.out
end
end Go.Proofs.YtbpjgdmmijehnaaDoor
