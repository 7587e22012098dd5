/-
  Bytes that lie in memory: parts of them, copies; what SHA-256 makes of them piece by piece.
-/
import Derived.Test.YtggiknehmoaimaaGreatDoorPiece
namespace Go.X
open Go.RowKit
theorem pieces_app (s : S8) (B l : Bytes) : ∀ n, 64 * n ≤ B.length → piecesF s (B ++ l) n = piecesF s B n
  | 0, _ => rfl
  | n + 1, h => by
    rw [piecesF, piecesF, pieces_app s B l n (by omega), List.drop_append_of_le_length (by omega), List.take_append_of_le_length (by rw [List.length_drop]; omega)]
/-- One piece more. -/
theorem pieces_step (s : S8) (B x : Bytes) (hB : B.length % 64 = 0) (hx : x.length = 64) : piecesF s (B ++ x) ((B ++ x).length / 64) = pieceF (piecesF s B (B.length / 64)) x := by
  have e : (B ++ x).length / 64 = B.length / 64 + 1 := by rw [List.length_append]; omega
  rw [e, piecesF, pieces_app s B x _ (by omega)]
  have : 64 * (B.length / 64) = B.length := by omega
  rw [this, List.drop_append_of_le_length (Nat.le_refl _), List.drop_length, List.nil_append, List.take_of_length_le (by omega)]
theorem bytesIn_cut {w : World} {ad : Option Addr} {c k : Nat} {l : Bytes} (h : BytesIn w (.slice ad l.length c) l) (hk : k ≤ l.length) : BytesIn w (cutV ad 1 k l.length c) (l.drop k) := by
  obtain ⟨ad', c', e, hc, hb⟩ := h
  injection e with e1 _ e3
  subst e1 e3
  unfold cutV
  refine ⟨_, c - k, by rw [List.length_drop], by rw [List.length_drop]; omega, fun i x hi => ?_⟩
  rw [List.getElem?_drop] at hi
  obtain ⟨b, o, rfl, h1⟩ := hb _ _ hi
  have hlt := (List.getElem?_eq_some_iff.1 hi).1
  rw [if_neg (by omega)]
  refine ⟨b, o + k, by simp [add_lit], ?_⟩
  rw [Nat.add_assoc]; exact h1
theorem bytesIn_take {w : World} {ad : Option Addr} {c n k : Nat} {l : Bytes} (h : BytesIn w (.slice ad n c) l) (hk : k ≤ l.length) : BytesIn w (cutV ad 1 0 k c) (l.take k) := by
  obtain ⟨ad', c', e, hc, hb⟩ := h
  injection e with e1 _ e3
  subst e1 e3
  unfold cutV
  refine ⟨_, c - 0, by rw [List.length_take, Nat.min_eq_left hk]; rfl, by rw [List.length_take]; omega, fun i x hi => ?_⟩
  have hlt := (List.getElem?_eq_some_iff.1 hi).1
  rw [List.length_take] at hlt
  rw [List.getElem?_take_of_lt (by omega)] at hi
  obtain ⟨b, o, rfl, h1⟩ := hb _ _ hi
  rw [if_neg (by omega)]
  exact ⟨b, o, by simp [add_lit], h1⟩
theorem store_world {Φ : World → Prop} {w : World} {d : Nat} {e : TypeId} {R D : List Value} (hr : Row w d e R) (h : ∀ W, Row W d e D → Ext (fun b => b = d) w W → Φ W) : Φ (w.setRow d D.toArray) :=
  h _ (hr.setRow D) ((Ext.refl (fun b => b = d) w).setRow (fun _ => rfl) _)
/-- copy into a row, whatever comes in. -/
theorem run_copy_any {P : Program} {w : World} {g off dLen dCap sCap : Nat} {e elem : TypeId} {cur : List Value} {sp : Option Addr} {l : Bytes} (dT sT ty : TypeId) (hu : P.underlying dT = some (.slice elem)) (hsz : (P.info? elem).map (·.size) = some 1)
    (hr : Row w g e cur) (hb : BytesIn w (.slice sp l.length sCap) l) (n : Nat) (hn : n = Nat.min l.length dLen) (hfit : off + n ≤ cur.length) :
    ∃ w', (Builtin.copy_ #[dT, sT] ty #[.slice (some ⟨g, off, none⟩) dLen dCap, .slice sp l.length sCap]).run P w = .ok (.int .i64 n) w' ∧ Row w' g e (cur.take off ++ bv (l.take n) ++ cur.drop (off + n)) ∧ Ext (fun b => b = g) w w' := by
  obtain ⟨ad, c, e1, hc, hby⟩ := hb
  injection e1 with e1 _ e3
  subst e1 e3
  have hlen : (bv (l.take n)).length = n := by rw [bv_length, List.length_take, hn]; exact Nat.min_eq_left (Nat.min_le_left _ _)
  by_cases h0 : n = 0
  · refine ⟨w, ?_, ?_, Ext.refl _ _⟩
    · rw [run_copy_none w dT sT ty elem _ _ dLen dCap _ _ hu hsz (by omega), h0]; rfl
    · subst h0; simpa [bv] using hr
  · have hl0 : 0 < l.length := by
      have := Nat.min_le_left l.length dLen
      have h2 : n ≤ l.length := by rw [hn]; exact this
      omega
    obtain ⟨b, o, rfl, _⟩ := hby 0 (l[0]) (by simp)
    refine ⟨w.setRow g (cur.take off ++ bv (l.take n) ++ cur.drop (off + n)).toArray, (run_copy_row P w dT sT ty elem g off dLen dCap ⟨b, o, none⟩ l.length _ cur.toArray e (bv (l.take n)) hu hsz hr (by rw [hlen]; exact hn) ?_ (by simpa [hlen] using hfit) (bv_one _)).trans (by rw [hlen]; rfl), ?_, ?_⟩
    · intro j v hj
      have hjl := (List.getElem?_eq_some_iff.1 hj).1
      rw [hlen] at hjl
      simp only [bv, List.getElem?_map, List.getElem?_take_of_lt hjl] at hj
      cases hx : l[j]? with
      | none => rw [hx] at hj; cases hj
      | some x =>
        rw [hx] at hj; cases hj
        obtain ⟨b', o', e', h1⟩ := hby j x hx
        cases e'
        simpa [add_lit] using h1
    · have := hr.setRow (cur.take off ++ bv (l.take n) ++ cur.drop (off + n))
      exact this
    · exact (Ext.refl (fun b => b = g) w).setRow (fun _ => rfl) _
theorem rest_row {S : List Value} {R x : Bytes} {z : Value} {f : Nat} (hS : S.length = 8) (hR : R.length = 64) (hk : f + x.length ≤ 64) :
    (S ++ bv R ++ [z]).take (8 + f) ++ bv x ++ (S ++ bv R ++ [z]).drop (8 + f + x.length) = S ++ bv (R.take f ++ x ++ R.drop (f + x.length)) ++ [z] := by
  have hb : (bv R).length = 64 := by rw [bv_length, hR]
  rw [List.append_assoc S (bv R) [z], List.take_append (l₁ := S), List.take_of_length_le (l := S) (by omega), hS, Nat.add_sub_cancel_left, List.take_append_of_le_length (by omega), List.drop_append, List.drop_eq_nil_of_le (by omega), hS, List.nil_append, show 8 + f + x.length - 8 = f + x.length by omega, List.drop_append_of_le_length (by omega)]
  simp [bv, List.map_take, List.map_drop]
/-- What is left over at the end. -/
theorem left_over {B l : Bytes} {j : Nat} (hj : j ≤ l.length) (hm : (B.length + j) % 64 = 0) (hs : l.length - j < 64) :
    (B ++ l).length / 64 = (B.length + j) / 64 ∧ (B ++ l).length % 64 = l.length - j ∧ (B ++ l).drop (64 * ((B ++ l).length / 64)) = l.drop j ∧ ∀ s, piecesF s (B ++ l) ((B ++ l).length / 64) = piecesF s (B ++ l.take j) ((B ++ l.take j).length / 64) := by
  have e1 : (B ++ l).length / 64 = (B.length + j) / 64 := by rw [List.length_append]; omega
  have e0 : (B ++ l.take j).length = B.length + j := by rw [List.length_append, List.length_take, Nat.min_eq_left hj]
  refine ⟨e1, by rw [List.length_append]; omega, ?_, fun s => ?_⟩
  · rw [e1, show 64 * ((B.length + j) / 64) = B.length + j by omega, List.drop_append, List.drop_eq_nil_of_le (by omega), List.nil_append, Nat.add_sub_cancel_left]
  · rw [e1, e0]
    conv => lhs; rw [← List.take_append_drop j l, ← List.append_assoc]
    exact pieces_app s _ _ _ (by rw [e0]; omega)
theorem pieces_fill {s : S8} {B l R : Bytes} {n : Nat} (hn : B.length % 64 + n = 64) (hl : n ≤ l.length) (hR : R.take (B.length % 64) = B.drop (64 * (B.length / 64))) :
    piecesF s (B ++ l.take n) ((B ++ l.take n).length / 64) = pieceF (piecesF s B (B.length / 64)) (R.take (B.length % 64) ++ l.take n) := by
  have e0 : B = B.take (64 * (B.length / 64)) ++ R.take (B.length % 64) := by rw [hR, List.take_append_drop]
  have l0 : (B.take (64 * (B.length / 64))).length = 64 * (B.length / 64) := by rw [List.length_take]; omega
  have l1 : (R.take (B.length % 64)).length = B.length % 64 := by rw [hR, List.length_drop]; omega
  have e1 : piecesF s B (B.length / 64) = piecesF s (B.take (64 * (B.length / 64))) ((B.take (64 * (B.length / 64))).length / 64) := by
    have e2 : (B.take (64 * (B.length / 64))).length / 64 = B.length / 64 := by rw [l0]; omega
    rw [e2]
    have h := pieces_app s (B.take (64 * (B.length / 64))) (B.drop (64 * (B.length / 64))) (B.length / 64) (by rw [l0]; exact Nat.le_refl _)
    rw [List.take_append_drop] at h
    exact h
  have lx : (R.take (B.length % 64) ++ l.take n).length = 64 := by rw [List.length_append, l1, List.length_take]; omega
  rw [e1, ← pieces_step s (B.take (64 * (B.length / 64))) _ (by rw [l0]; omega) lx, ← List.append_assoc, ← e0]
theorem row_bytes {w : World} {d : Nat} {e : TypeId} {S Z : List Value} {X : Bytes} {n : Nat} (h : Row w d e (S ++ bv X ++ Z)) (hn : S.length = n) : BytesIn w (.slice (some ⟨d, n, none⟩) X.length X.length) X :=
  ⟨_, _, rfl, Nat.le_refl _, fun i x hi => ⟨d, n, rfl, h.cell (by
    have hlt := (List.getElem?_eq_some_iff.1 hi).1
    rw [List.append_assoc, List.getElem?_append_right (by omega), hn, Nat.add_sub_cancel_left, List.getElem?_append_left (by rw [bv_length]; exact hlt)]
    simp [bv, hi])⟩⟩
theorem exec_slice_arr {P : Program} {o : Oper} {ρ : Operand → Value} {x : Operand} {t : TypeId} (ho : o.op = .slice t x none none none) {a : Addr} (hx : ρ x = .pointer (some a)) {v : Value} (hv : ∀ w, (Instr.sliceAt t (.pointer (some a)) none none none).run P w = .ok v w) (w : World) :
    (execOp ρ o).run P w = .ok (.value v) w := by
  unfold execOp
  rw [ho]
  simp only [Sem.run_bind, hx, Option.map_none]
  rw [hv w]
  rfl
end Go.X
namespace Go.Proofs.YtggiknehmoaimaaGreatDoor
open Go Go.RowKit Go.X
theorem elB : ElemT Tryz.prog 29 5 1 1 := ⟨Tryz.underlying29, by kernel_rfl, by decide⟩
end Go.Proofs.YtggiknehmoaimaaGreatDoor
