/-
  SHA-256 of the program: Sum, OfAll, Of.
-/
import Derived.Test.YtggiknehmoaimaaGreatDoorDigest
namespace Go.X
open Go.RowKit
theorem padLen_eq (n k : Nat) (h : k ≤ padLen n) : ((n + 1 + k) % 64 = 56) ↔ k = padLen n := by
  unfold padLen at *; omega
theorem byte_of (m e : Nat) : (m : Int) / 2 ^ e % 256 = ((UInt8.ofNat (m / 2 ^ e)).toNat : Int) := by
  simp
theorem byte_of8 (n e : Nat) : 8 * (n : Int) / 2 ^ e % 256 = ((UInt8.ofNat (8 * n / 2 ^ e)).toNat : Int) := by
  simp
theorem lenBytes_step (n j : Nat) (h : j < 8) : (lenBytes n).take (j + 1) = (lenBytes n).take j ++ [UInt8.ofNat (8 * n / 2 ^ (56 - 8 * j))] := by
  match j, h with
  | 0, _ | 1, _ | 2, _ | 3, _ | 4, _ | 5, _ | 6, _ | 7, _ => rfl
theorem out_step (S : S8) (j : Nat) (h : j < 8) : (outF S).take (4 * (j + 1)) = (outF S).take (4 * j) ++ [UInt8.ofNat ((S.list.getD j 0).toNat / 2 ^ 24), UInt8.ofNat ((S.list.getD j 0).toNat / 2 ^ 16), UInt8.ofNat ((S.list.getD j 0).toNat / 2 ^ 8), UInt8.ofNat (S.list.getD j 0).toNat] := by
  match j, h with
  | 0, _ | 1, _ | 2, _ | 3, _ | 4, _ | 5, _ | 6, _ | 7, _ => rfl
theorem bytesIn_own {w : World} {v : Value} {e : TypeId} {l : Bytes} {n : Nat} (h : Own w v e 1 n (bv l)) (hn : n = l.length) : BytesIn w v l := by
  subst hn
  rcases h.shape with ⟨rfl, h0, h1⟩ | ⟨b, o, cap, rfl, h1, _, hc⟩
  · have : l = [] := List.eq_nil_of_length_eq_zero h0
    subst this
    exact ⟨none, 0, rfl, Nat.le_refl _, fun i x hi => by simp at hi⟩
  · exact ⟨_, cap, rfl, h1, fun i x hi => ⟨b, o, rfl, hc i _ (by simp [bv, hi])⟩⟩
theorem tail_mod (n : Nat) : (n + (tailF n).length) % 64 = 0 := by
  simp [tailF, lenBytes, padLen]; omega
end Go.X
namespace Go.Proofs.YtggiknehmoaimaaGreatDoor
open Go Go.RowKit Go.X

theorem aDigest : AggT Tryz.prog 266 73 := ⟨⟨_, Tryz.underlying266, rfl⟩, by kernel_rfl⟩
theorem aHash : AggT Tryz.prog 27 32 := ⟨⟨_, Tryz.underlying27, rfl⟩, by kernel_rfl⟩
theorem digest_len {B R : Bytes} (hR : R.length = 64) : ((piecesF beginsF B (B.length / 64)).list.map wval ++ bv R ++ [Value.int .i64 B.length]).length = 73 := by simp [S8.list, bv, hR]
theorem digest_one {B R : Bytes} : ∀ v ∈ (piecesF beginsF B (B.length / 64)).list.map wval ++ bv R ++ [Value.int .i64 B.length], v.oneCell' = true := by
  intro v hv
  simp only [List.mem_append, List.mem_singleton] at hv
  rcases hv with (hv | hv) | rfl
  · exact one_u32 _ v hv
  · exact bv_one _ v hv
  · rfl
theorem row_alloc1 (w : World) (A C : Array Value) (e f : TypeId) : Row ((w.alloc (.cells A e)).alloc (.cells C f)) (w.heap.size + 1) f C.toList := by
  have := row_alloc (w.alloc (.cells A e)) C f
  simpa using this
/-- Two blocks of the call's own. -/
theorem sum_start {Φ : World → Prop} {w : World} {A C : Array Value} {e f : TypeId} {D : List Value} (h : ∀ W, Row W w.heap.size e A.toList → Row W (w.heap.size + 1) f D → Ext Nil w W → Φ W) :
    Φ (((w.alloc (.cells A e)).alloc (.cells C f)).setRow (w.heap.size + 1) D.toArray) := by
  refine h _ ?_ ?_ ?_
  · exact (((row_alloc w A e).ext0 ((Ext.refl _ _).alloc (.cells C f))).ext ((Ext.refl (fun b => b = w.heap.size + 1) _).setRow (fun _ => rfl) _) (by omega))
  · have := (row_alloc (w.alloc (.cells A e)) C f).setRow D
    simpa using this
  · exact (((Ext.refl Nil w).alloc _).alloc _).setRow (fun h => by omega) _

/-- The two blocks of a Sum's own: the answer's, the copy's. -/
structure SumW (w : World) (C : List Value) (W : World) : Prop where
  out : Row W w.heap.size 27 (bv (List.replicate 32 0))
  copy : Row W (w.heap.size + 1) 266 C
  ext : Ext Nil w W
theorem SumW.grow {w W W' : World} {C : List Value} {F : Nat → Prop} (h : SumW w C W) (hx : Ext F W W') (hF : ∀ b, F b → w.heap.size + 2 ≤ b) : SumW w C W' :=
  ⟨h.out.ext hx fun hf => by have := hF _ hf; omega, h.copy.ext hx fun hf => by have := hF _ hf; omega, h.ext.trans hx fun k hk hf => by have := hF _ hf; omega⟩
theorem SumW.size {w W : World} {C : List Value} (h : SumW w C W) : w.heap.size + 2 ≤ W.heap.size := h.copy.lt
def tailB (k : Nat) : Bytes := 0x80 :: List.replicate k 0
theorem tailB_length (k : Nat) : (tailB k).length = k + 1 := by simp [tailB]
theorem tailB_step (k : Nat) : bv (tailB k) ++ [.int .u8 0] = bv (tailB (k + 1)) := by
  simp [tailB, bv, List.replicate_succ', bval]

theorem words_index0 (S : S8) (w : World) : (Instr.index 74 (.agg (S.list.map wval).toArray) (.int .i64 ((0 : Nat) : Int))).run Tryz.prog w = .ok (.int .u32 (S.list.getD 0 0).toNat) w := by kernel_rfl
theorem words_index1 (S : S8) (w : World) : (Instr.index 74 (.agg (S.list.map wval).toArray) (.int .i64 ((1 : Nat) : Int))).run Tryz.prog w = .ok (.int .u32 (S.list.getD 1 0).toNat) w := by kernel_rfl
theorem words_index2 (S : S8) (w : World) : (Instr.index 74 (.agg (S.list.map wval).toArray) (.int .i64 ((2 : Nat) : Int))).run Tryz.prog w = .ok (.int .u32 (S.list.getD 2 0).toNat) w := by kernel_rfl
theorem words_index3 (S : S8) (w : World) : (Instr.index 74 (.agg (S.list.map wval).toArray) (.int .i64 ((3 : Nat) : Int))).run Tryz.prog w = .ok (.int .u32 (S.list.getD 3 0).toNat) w := by kernel_rfl
theorem words_index4 (S : S8) (w : World) : (Instr.index 74 (.agg (S.list.map wval).toArray) (.int .i64 ((4 : Nat) : Int))).run Tryz.prog w = .ok (.int .u32 (S.list.getD 4 0).toNat) w := by kernel_rfl
theorem words_index5 (S : S8) (w : World) : (Instr.index 74 (.agg (S.list.map wval).toArray) (.int .i64 ((5 : Nat) : Int))).run Tryz.prog w = .ok (.int .u32 (S.list.getD 5 0).toNat) w := by kernel_rfl
theorem words_index6 (S : S8) (w : World) : (Instr.index 74 (.agg (S.list.map wval).toArray) (.int .i64 ((6 : Nat) : Int))).run Tryz.prog w = .ok (.int .u32 (S.list.getD 6 0).toNat) w := by kernel_rfl
theorem words_index7 (S : S8) (w : World) : (Instr.index 74 (.agg (S.list.map wval).toArray) (.int .i64 ((7 : Nat) : Int))).run Tryz.prog w = .ok (.int .u32 (S.list.getD 7 0).toNat) w := by kernel_rfl
theorem words_index (S : S8) (j : Nat) (hj : j < 8) (w : World) : (Instr.index 74 (.agg (S.list.map wval).toArray) (.int .i64 j)).run Tryz.prog w = .ok (.int .u32 (S.list.getD j 0).toNat) w := by
  match j, hj with
  | 0, _ => exact words_index0 S w
  | 1, _ => exact words_index1 S w
  | 2, _ => exact words_index2 S w
  | 3, _ => exact words_index3 S w
  | 4, _ => exact words_index4 S w
  | 5, _ => exact words_index5 S w
  | 6, _ => exact words_index6 S w
  | 7, _ => exact words_index7 S w
theorem four_set {A : Bytes} {j : Nat} (hA : A.length = 4 * j) (hj : j < 8) (a b c d : UInt8) :
    ((((bv (A ++ List.replicate (32 - 4 * j) 0)).set (4 * j) (bval a)).set (4 * j + 1) (bval b)).set (4 * j + 2) (bval c)).set (4 * j + 3) (bval d) = bv (A ++ [a, b, c, d] ++ List.replicate (32 - 4 * (j + 1)) 0) := by
  have e0 : bv (A ++ List.replicate (32 - 4 * j) 0) = bv A ++ List.replicate (32 - 4 * j) (bval 0) := by simp [bv]
  have l0 : (bv A).length = 4 * j := by rw [bv_length, hA]
  rw [e0, set_next _ _ _ 32 (4 * j) l0 (by omega), set_next _ _ _ 32 (4 * j + 1) (by simp [l0]) (by omega), set_next _ _ _ 32 (4 * j + 2) (by simp [l0]) (by omega), set_next _ _ _ 32 (4 * j + 3) (by simp [l0]) (by omega)]
  simp [bv, show 4 * j + 3 + 1 = 4 * (j + 1) by omega]
theorem sum_words {S : S8} {R : Bytes} {z : Value} : ((S.list.map wval ++ bv R ++ [z]).drop 0).take 8 = S.list.map wval := by simp [S8.list]
theorem out_vals {w : World} {b : Nat} {e : TypeId} {L : List Value} {p : Nat} (x : UInt32) :
    Row w b e ((((L.set p (.int .u8 ((x.toNat : Int) / 16777216 % 256))).set (p + 1) (.int .u8 ((x.toNat : Int) / 65536 % 256))).set (p + 2) (.int .u8 ((x.toNat : Int) / 256 % 256))).set (p + 3) (.int .u8 ((x.toNat : Int) % 256))) =
    Row w b e ((((L.set p (bval (UInt8.ofNat (x.toNat / 2 ^ 24)))).set (p + 1) (bval (UInt8.ofNat (x.toNat / 2 ^ 16)))).set (p + 2) (bval (UInt8.ofNat (x.toNat / 2 ^ 8)))).set (p + 3) (bval (UInt8.ofNat x.toNat))) := by
  have h1 : (x.toNat : Int) / 16777216 % 256 = ((UInt8.ofNat (x.toNat / 2 ^ 24)).toNat : Int) := Go.X.byte_of x.toNat 24
  have h2 : (x.toNat : Int) / 65536 % 256 = ((UInt8.ofNat (x.toNat / 2 ^ 16)).toNat : Int) := Go.X.byte_of x.toNat 16
  have h3 : (x.toNat : Int) / 256 % 256 = ((UInt8.ofNat (x.toNat / 2 ^ 8)).toNat : Int) := Go.X.byte_of x.toNat 8
  have h4 : (x.toNat : Int) % 256 = ((UInt8.ofNat x.toNat).toNat : Int) := by simp
  rw [h1, h2, h3, h4]; rfl
theorem sum_grown {w W W1 w' : World} {C xs : List Value} {v v' : Value} {n m k : Nat} (hs : SumW w C W) (hfar : ∀ b, v.ownBlock = some b → w.heap.size + 2 ≤ b) {o : Obj} (hW : W1 = W.alloc o)
    (hA : Appended W1 w' v v' 5 1 m xs) (hm : m = n + k) : Own w' v' 5 1 (n + k) xs ∧ (∀ b, v'.ownBlock = some b → w.heap.size + 2 ≤ b) ∧ SumW w C w' := by
  subst hW hm
  refine ⟨hA.own, fun b hb => ?_, hs.grow (F := fun b => v.ownBlock = some b) (((Ext.refl _ W).alloc o).trans' hA.ext) hfar⟩
  have := hs.size
  rcases hA.lies with e | ⟨k, e, h1, _⟩
  · exact hfar b (by rw [← e]; exact hb)
  · rw [hb] at e; cases e
    simp at h1; omega
set_option maxRecDepth 100000 in
set_option maxHeartbeats 4000000 in
theorem digest_sum {w : World} {d : Nat} {B : Bytes} (h : DigestIs w d B) (hb : B.length ≤ 281474976710656) :
    Calls Tryz.prog 137 #[.pointer (some ⟨d, 0, none⟩)] w fun e w' => e = .returned (hv (shaF B)) ∧ Ext Nil w w' := by
  obtain ⟨R, hR, hRp, hrow⟩ := h
  have hc := digest_len (B := B) hR
  have h1 := digest_one (B := B) (R := R)
  have n0 : w.cell? ⟨d, 72, none⟩ = some (.int .i64 B.length) := hrow.cell (by
    rw [List.getElem?_append_right (by simp [S8.list, bv, hR])]
    simp [S8.list, bv, hR])
  have hdl := hrow.lt
  obtain ⟨C, hC⟩ : ∃ C, C = (piecesF beginsF B (B.length / 64)).list.map wval ++ bv R ++ [Value.int .i64 B.length] := ⟨_, rfl⟩
  rw [← hC] at hc h1 hrow
  have Hrow := Lib.hid hrow
  have HR := Lib.hid hR
  have HRp := Lib.hid hRp
  have Hc := Lib.hid hc
  have H1 := Lib.hid h1
  have HC := Lib.hid hC
  clear hrow hR hRp hc h1 hC
  have hn8 : IntKind.u64.wrap (8 * (IntKind.u64.wrap (B.length : Int))) = ((8 * B.length : Nat) : Int) := by
    simp [IntKind.wrap, IntKind.bits, IntKind.signed]; omega
  go_enter Tryz.func137, Tryz.ntmps137
  go_wp2_with (first
    | (refine wpList_load_all (o := ⟨some 12, _, _, _, _, _⟩) rfl (.tmp 11) rfl rfl aDigest (Hrow.out.ext0 ((Ext.refl Nil w).alloc _)) Hc.out ?_)
    | (refine wpList_store_all (o := ⟨none, _, _, _, _, _⟩) rfl (.tmp 3) (.tmp 12) rfl rfl (vs := C) rfl aDigest (row_alloc1 _ _ _ _ _) rfl Hc.out H1.out ?_; trace "stored"; refine sum_start (Φ := fun W => wpList _ _ _ _ _ W) ?_))
  intro W1 r0 r1 hx1
  have Hs1 : Hid (SumW w C W1) := ⟨r0, r1, hx1⟩
  clear r0 r1 hx1
  have n1 := Hs1.out.ext.cell n0 id
  have hs1 := Hs1.out.size
  have Hn0 := Lib.hid n0
  clear n0
  go_wp2_with fail
  go_loopw [5] (fun v wr => ∃ k, k ≤ padLen B.length ∧ Own wr v 5 1 (k + 1) (bv (tailB k)) ∧ (∀ b, v.ownBlock = some b → w.heap.size + 2 ≤ b) ∧ SumW w C wr) (fun v _ => padLen B.length + 1 - (match v with | .slice _ n _ => n | _ => 0))
  case atStart =>
    exact ⟨0, by omega, by simpa [tailB, bv, bval] using own_new W1 #[.int .u8 128] 5 1 1 1 (bv (tailB 0)) rfl (Nat.le_refl _) (by unfold maxLen; decide) (by simp) (by simp [tailB, bv, bval]), fun b hb => by simp [Value.ownBlock] at hb; omega, Hs1.out.grow (F := Nil) ((Ext.refl _ _).alloc _) fun _ h => h.elim⟩
  case round =>
    obtain ⟨k, hk, hown, hfar, hs⟩ := hrel
    have Hown := Lib.hid hown
    have Hfar := Lib.hid hfar
    have Hs := Lib.hid hs
    have n2 := hs.ext.cell Hn0.out id
    obtain ⟨ad, cc, rfl⟩ := hown.slice
    clear hown hfar hs
    have hp := Go.X.padLen_eq B.length k hk
    by_cases hkp : k = padLen B.length
    case neg =>
      have hne : ¬ ((B.length + 1 + k) % 64 = 56) := fun e => hkp (hp.1 e)
      clear hp
      have hkl : k < 64 := by unfold padLen at hk; omega
      have hlt : k < padLen B.length := by omega
      clear hkp
      have t1 : (((B.length : Int) + ((k : Int) + 1)) % 64 != 56) = true := by rw [bne_iff_ne]; omega
      clear hne
      go_wp2_with (at_builtin; refine wpList_append rfl _ _ _ rfl elB ⟨_, Tryz.underlying29, fun _ h => by cases h⟩ (Own.ext Hown.out ((Ext.refl Nil wr).alloc _) fun _ _ h => h) (src_new wr [.int .u8 0] 5 (by intro u hu; simp at hu; subst hu; rfl)) rfl rfl (by simp; omega) (by unfold maxLen; simp; omega) ?_; intro v' w' hA)
      have hrel := sum_grown (n := k + 1) (k := 1) Hs.out Hfar.out rfl hA (by simp)
      rw [tailB_step] at hrel
      obtain ⟨ad', c', rfl⟩ := hA.own.slice
      have Hrel := Lib.hid hrel
      clear hA hrel
      go_roundw
      case rel => exact ⟨k + 1, by omega, Hrel.out.1, Hrel.out.2.1, Hrel.out.2.2⟩
      case measure => simp; omega
    case pos =>
      have hne : (B.length + 1 + k) % 64 = 56 := hp.2 hkp
      clear hp
      have hkl : k < 64 := by unfold padLen at hk; omega
      have t1 : (((B.length : Int) + ((k : Int) + 1)) % 64 != 56) = false := by rw [bne_eq_false_iff_eq]; omega
      have Hkp := Lib.hid hkp
      clear hkp hne
      go_wp2_with fail
      go_loopw [5, 6] (fun v i wr => ∃ j : Nat, j ≤ 8 ∧ i = .int .i64 (56 - 8 * (j : Int)) ∧ Own wr v 5 1 (k + 1 + j) (bv (tailB k ++ (lenBytes B.length).take j)) ∧ (∀ b, v.ownBlock = some b → w.heap.size + 2 ≤ b) ∧ SumW w C wr) (fun _ i _ => ((intOf i) + 8).toNat)
      case atStart => exact ⟨0, by omega, by first | trivial | rfl | simp, by simpa using Hown.out, Hfar.out, Hs.out⟩
      case round =>
        clear Hown Hfar Hs n2 t1
        obtain ⟨j, hj, rfl, hown, hfar, hs⟩ := hrel
        have Hown := Lib.hid hown
        have Hfar := Lib.hid hfar
        have Hs := Lib.hid hs
        have n2 := hs.ext.cell Hn0.out id
        obtain ⟨ad, cc, rfl⟩ := hown.slice
        clear hown hfar hs
        by_cases hj8 : j = 8
        case neg =>
          have hlt : j < 8 := by omega
          go_wp2_with (at_builtin; refine wpList_append rfl _ _ _ rfl elB ⟨_, Tryz.underlying29, fun _ h => by cases h⟩ (Own.ext Hown.out ((Ext.refl Nil wr).alloc _) fun _ _ h => h) (src_new wr [.int .u8 (8 * (B.length : Int) / 2 ^ (56 - 8 * j) % 256)] 5 (by intro u hu; simp at hu; subst hu; rfl)) rfl rfl (by simp; omega) (by unfold maxLen; simp; omega) ?_; intro v' w' hA)
          have hrel := sum_grown (n := k + 1 + j) (k := 1) Hs.out Hfar.out rfl hA (by simp)
          rw [Go.X.byte_of8, show [Value.int .u8 ((UInt8.ofNat (8 * B.length / 2 ^ (56 - 8 * j))).toNat : Int)] = bv [UInt8.ofNat (8 * B.length / 2 ^ (56 - 8 * j))] from rfl, ← bv_append, List.append_assoc, ← Go.X.lenBytes_step _ _ hlt] at hrel
          have Hrel := Lib.hid hrel
          clear hA hrel
          go_roundw
          case rel => exact ⟨j + 1, by omega, by congr 1; omega, Hrel.out.1, Hrel.out.2.1, Hrel.out.2.2⟩
          case measure => simp [intOf]; omega
        case pos =>
          subst hj8
          have htl : tailB k ++ (lenBytes B.length).take 8 = tailF B.length := by rw [Hkp.out]; rfl
          have hlen : k + 1 + 8 = (tailF B.length).length := by rw [← htl]; simp [tailB, lenBytes]
          have hbi : BytesIn wr (.slice ad (k + 1 + 8) cc) (tailF B.length) := Go.X.bytesIn_own (by have := Hown.out; rwa [htl] at this) hlen
          have hdi : DigestIs wr (w.heap.size + 1) B := ⟨R, HR.out, HRp.out, by rw [← HC.out]; exact Hs.out.copy⟩
          have hpl : k < 64 := hkl
          have hwr := digest_write hdi hbi (fun _ b hb => by have := Hfar.out b hb; omega) (by rw [← hlen]; omega)
          have Hwr := Lib.hid hwr
          have Hlen := Lib.hid hlen
          clear htl hbi hdi hwr Hown Hfar hlen
          go_wp2_with fail
          refine Hwr.out.mono ?_
          rintro e w2 ⟨rfl, hd2, hx2⟩
          have Hs2 : Hid (SumW w C wr → Row w2 w.heap.size 27 (bv (List.replicate 32 0)) ∧ Ext Nil w w2) := fun hs => ⟨hs.out.ext hx2 (by omega), hs.ext.trans hx2 fun k hk e => by omega⟩
          obtain ⟨R2, hR2, _, hrow2⟩ := hd2
          have h2 := Hs2.out Hs.out
          have H2o := Lib.hid h2.1
          have H2x := Lib.hid h2.2
          obtain ⟨S, hS⟩ : ∃ S, S = piecesF beginsF (B ++ tailF B.length) ((B ++ tailF B.length).length / 64) := ⟨_, rfl⟩
          rw [← hS] at hrow2
          have HS : Hid ((shaF B).1 = outF S) := by show (shaF B).1 = outF S; rw [hS]; rfl
          have Hrow2 := Lib.hid hrow2
          have HR2 := Lib.hid hR2
          have hsz2 : w.heap.size + 2 ≤ w2.heap.size := hrow2.lt
          have e8 := sum_words (S := S) (R := R2) (z := .int .i64 ((B ++ tailF B.length).length : Int))
          have hl8 : 0 + 8 ≤ (S.list.map wval ++ bv R2 ++ [Value.int .i64 ((B ++ tailF B.length).length : Int)]).length := by simp [S8.list, bv]
          have He8 := Lib.hid e8
          have Hl8 := Lib.hid hl8
          clear hx2 n2 Hwr Hs Hs2 h2 hS hrow2 hR2 e8 hl8
          go_wp2_with (refine wpList_load_part (o := ⟨some 46, _, _, _, _, _⟩) rfl (.tmp 45) rfl rfl aWords (Hrow2.out.ext0 ((Ext.refl Nil w2).alloc _)) Hl8.out He8.out ?_)
          go_loopw [47] (fun i wr => ∃ j : Nat, j ≤ 8 ∧ i = .int .i64 (j : Int) ∧ Row wr w2.heap.size 27 (bv ((outF S).take (4 * j) ++ List.replicate (32 - 4 * j) 0)) ∧ Ext Nil w2 wr) (fun i _ => 8 - (intOf i).toNat)
          case atStart =>
            refine ⟨0, by omega, by first | trivial | rfl, ?_, (Ext.refl _ _).alloc _⟩
            exact Go.X.row_alloc w2 (bv (List.replicate 32 0)).toArray 27
          case round =>
            obtain ⟨j, hj, rfl, hrow, hxr⟩ := hrel
            have Hrow := Lib.hid hrow
            have Hxr := Lib.hid hxr
            by_cases hj8 : j = 8
            case neg =>
              have hlt : j < 8 := by omega
              have hlen : (bv ((outF S).take (4 * j) ++ List.replicate (32 - 4 * j) 0)).length = 32 := by
                rw [bv_length, List.length_append, List.length_take, List.length_replicate]
                have : (outF S).length = 32 := rfl
                omega
              have hat : ∀ q, q < 32 → ∃ u, wr.cell? ⟨w2.heap.size, q, none⟩ = some u := fun q hq => ⟨_, hrow.cell (List.getElem?_eq_getElem (by rw [hlen]; exact hq))⟩
              obtain ⟨q0, g0⟩ := hat (4 * j) (by omega)
              obtain ⟨q1, g1⟩ := hat (4 * j + 1) (by omega)
              obtain ⟨q2, g2⟩ := hat (4 * j + 2) (by omega)
              obtain ⟨q3, g3⟩ := hat (4 * j + 3) (by omega)
              have hfz := hrow.frozen
              obtain ⟨x, hx⟩ : ∃ x, x = S.list.getD j 0 := ⟨_, rfl⟩
              have hix := fun w => words_index S j hlt w
              rw [← hx] at hix
              have Hx := Lib.hid hx
              have Hlen := Lib.hid hlen
              clear hat hrow hxr hlen hx
              go_wp2_with fail
              go_roundw
              case rel =>
                have hset := ((((Hrow.out.set (4 * j) (.int .u8 ((x.toNat : Int) / 16777216 % 256))).set (4 * j + 1) (.int .u8 ((x.toNat : Int) / 65536 % 256))).set (4 * j + 2) (.int .u8 ((x.toNat : Int) / 256 % 256))).set (4 * j + 3) (.int .u8 ((x.toNat : Int) % 256)))
                have hA : ((outF S).take (4 * j)).length = 4 * j := by
                  rw [List.length_take]
                  have : (outF S).length = 32 := rfl
                  omega
                have h4 := four_set hA hlt (UInt8.ofNat (x.toNat / 2 ^ 24)) (UInt8.ofNat (x.toNat / 2 ^ 16)) (UInt8.ofNat (x.toNat / 2 ^ 8)) (UInt8.ofNat x.toNat)
                rw [out_vals x] at hset
                rw [h4, Hx.out, ← Go.X.out_step S j hlt] at hset
                refine ⟨j + 1, by omega, by go_num, ?_, ?_⟩
                · rw [← Hx.out] at hset
                  exact hset
                · have hn : ∀ {p : Addr}, p.block = w2.heap.size → p.block < w2.heap.size → Nil p.block := fun h1 h2 => by omega
                  exact (((Hxr.out.setCell (hn rfl) _).setCell (hn rfl) _).setCell (hn rfl) _).setCell (hn rfl) _
              case measure => simp [intOf]; omega
            case pos =>
              subst hj8
              have hfin : Row wr w2.heap.size 27 (bv (outF S)) := hrow
              have hres := H2o.out.ext0 hxr
              have hxf := H2x.out.extN hxr
              have Hfin := Lib.hid hfin
              have Hres := Lib.hid hres
              have Hxf := Lib.hid hxf
              clear hrow hxr hfin hres hxf
              go_wp2_with (first
                | (refine wpList_load_all (o := ⟨some 78, _, _, _, _, _⟩) rfl (.tmp 7) rfl rfl aHash Hfin.out rfl ?_)
                | (refine wpList_store_all (o := ⟨none, _, _, _, _, _⟩) rfl (.tmp 2) (.tmp 78) rfl rfl (vs := bv (outF S)) rfl aHash Hres.out rfl rfl (bv_one _) ?_))
              exact bodyPost_ret (results_row (b := w.heap.size) (C := bv (outF S)) rfl rfl aHash (Hres.out.setRow _) rfl) rfl ⟨by unfold hv av; rw [HS.out], Hxf.out.setRow (fun h => by omega) _⟩
end Go.Proofs.YtggiknehmoaimaaGreatDoor
