/-
  pack.In of the program: Number, Raw, Bytes, Hash.
-/
import Derived.Test.YtggiknehmoaimaaGreatDoorNum
import Derived.BigQuiet
namespace Go.X
open Go.RowKit
theorem numF_le : ∀ (l : Bytes) (i x y n : Nat), numF i x l = .ok (y, n) → i < n ∧ n ≤ i + l.length
  | [], _, _, _, _, h => by cases h
  | c :: r, i, x, y, n, h => by
    rw [numF] at h
    split at h
    · cases h
    · split at h
      · split at h
        · cases h
        · simp only [Except.ok.injEq, Prod.mk.injEq] at h
          obtain ⟨_, rfl⟩ := h
          simp only [List.length_cons]; omega
      · split at h
        · cases h
        · have := numF_le r _ _ _ _ h
          simp only [List.length_cons]; omega
theorem numF_lt : ∀ (l : Bytes) (i x y n : Nat), i ≤ 9 → x < 2 ^ (7 * i) → numF i x l = .ok (y, n) → y < 2 ^ 64
  | [], _, _, _, _, _, _, h => by cases h
  | c :: r, i, x, y, n, hi, hx, h => by
    rw [numF] at h
    have hc := c.toNat_lt
    split at h
    · cases h
    · rename_i h9
      have h9' : i = 9 → c.toNat ≤ 1 := fun e => by
        have : ¬ (1 < c) := fun h => h9 ⟨e, h⟩
        rw [UInt8.lt_iff_toNat_lt] at this
        simpa using this
      have hf := num_fits x i (c.toNat % 128) hx (Nat.mod_lt _ (by decide))
      have hs : x + (c.toNat % 128) * 2 ^ (7 * i) < 2 ^ 64 := by
        by_cases e : i = 9
        · have h1 := h9' e
          subst e
          have h2 : (c.toNat % 128) * 2 ^ (7 * 9) ≤ 1 * 2 ^ (7 * 9) := Nat.mul_le_mul_right _ (by omega)
          simp only [Nat.reduceMul, Nat.reducePow] at h2 hx ⊢
          omega
        · exact Nat.lt_of_lt_of_le hf (Nat.pow_le_pow_right (by decide) (by omega))
      split at h
      · split at h
        · cases h
        · simp only [Except.ok.injEq, Prod.mk.injEq] at h
          obtain ⟨rfl, rfl⟩ := h
          exact hs
      · split at h
        · cases h
        · exact numF_lt r _ _ _ _ (by omega) hf h
theorem rdNumber_ok {L : Bytes} {p most x q : Nat} (h : rdNumber L p most = .ok (x, q)) : ∃ n, numF 0 0 (L.drop p) = .ok (x, n) ∧ x ≤ most ∧ q = p + n ∧ 0 < n ∧ n ≤ L.length - p ∧ x < 2 ^ 64 := by
  unfold rdNumber at h
  split at h
  · cases h
  · rename_i y n hn
    split at h
    · cases h
    · simp only [Except.ok.injEq, Prod.mk.injEq] at h
      obtain ⟨rfl, rfl⟩ := h
      have h1 := numF_le _ _ _ _ _ hn
      rw [List.length_drop] at h1
      exact ⟨n, hn, by omega, rfl, h1.1, by omega, numF_lt _ _ _ _ _ (by omega) (by simp) hn⟩
theorem rdNumber_bad {L : Bytes} {p most : Nat} {b : BadD} (h : rdNumber L p most = .error b) : b.at_ = p ∧ (numF 0 0 (L.drop p) = .error b.why ∨ (b.why = 22 ∧ ∃ x n, numF 0 0 (L.drop p) = .ok (x, n) ∧ most < x ∧ x < 2 ^ 64 ∧ n ≤ L.length - p)) := by
  unfold rdNumber at h
  split at h
  · rename_i y hn
    simp only [Except.error.injEq] at h
    subst h
    exact ⟨rfl, .inl hn⟩
  · rename_i y n hn
    split at h
    · simp only [Except.error.injEq] at h
      subst h
      have h1 := numF_le _ _ _ _ _ hn
      rw [List.length_drop] at h1
      exact ⟨rfl, .inr ⟨rfl, y, n, hn, by omega, numF_lt _ _ _ _ _ (by omega) (by simp) hn, by omega⟩⟩
    · cases h
theorem numF_why : ∀ (l : Bytes) (i x y : Nat), numF i x l = .error y → 20 ≤ y ∧ y ≤ 22
  | [], _, _, _, h => by cases h; decide
  | c :: r, i, x, y, h => by
    rw [numF] at h
    split at h
    · cases h; decide
    · split at h
      · split at h
        · cases h; decide
        · cases h
      · split at h
        · cases h; decide
        · exact numF_why r _ _ _ h
end Go.X
namespace Go.Proofs.YtggiknehmoaimaaGreatDoor
open Go Go.RowKit Go.X

section
variable {w : World} {r : Nat} {ad : Option Addr} {c : Nat} {L : Bytes} {p : Nat}
theorem InIs.rest (h : InIs w r ad c L p) (n : Nat) : BytesIn (w.drewN n) (cutV ad 1 p L.length c) (L.drop p) := (Go.X.bytesIn_cut h.bytes h.pos).ext0 ((Ext.refl Nil w).drewN n)
set_option maxRecDepth 100000 in
set_option maxHeartbeats 4000000 in
theorem in_number_ok (h : InIs w r ad c L p) {most x q : Nat} (hr : rdNumber L p most = .ok (x, q)) :
    Calls Tryz.prog 83 #[.pointer (some ⟨r, 0, none⟩), .int .u64 most] w fun e w' => e = .returned (.tuple #[.int .u64 x, .nilIface]) ∧ InIs w' r ad c L q ∧ Ext (fun b => b = r) w w' := by
  obtain ⟨n, hN, hm, rfl, hn0, hn, hx⟩ := Go.X.rdNumber_ok hr
  clear hr
  have c0 := h.row.cell (i := 0) rfl
  have c1 := h.row.cell (i := 1) rfl
  have c2 := h.row.cell (i := 2) rfl
  have hf := h.row.frozen
  have hl := h.len
  have hcp := h.cap
  have hpos := h.pos
  have hsl := fun w' => X.run_slice (P := Tryz.prog) elB ad L.length c p L.length (some (.int .i64 p)) none (.inr ⟨_, rfl⟩) (.inl ⟨rfl, rfl⟩) hpos hcp w'
  have hnum : ∀ nq, Calls Tryz.prog 124 #[cutV ad 1 p L.length c] (w.drewN nq) fun e w' => e = .returned (.tuple #[.int .u64 x, .int .i64 n, .int .i64 0]) ∧ w' = w.drewN nq := fun nq =>
    (number_raw (h.rest nq) (by rw [List.length_drop]; omega)).mono fun e w' ⟨h1, h2⟩ => ⟨by rw [h1, hN]; rfl, h2.symm⟩
  have Hnum := Lib.hid hnum
  have H := Lib.hid h
  have hmx : decide ((most : Int) < x) = false := by simp; omega
  have hmx' : decide (most < x) = false := by simp; omega
  clear h hN hnum
  go_enter Tryz.func83, Tryz.ntmps83
  go_wp2
  go_quiet ((go_at_call 124; exact Calls.quiet_of_same (Hnum.out _)))
  go_wp2
  go_ret2
  have hr1 := (H.out.row.ext0 ((Ext.refl Nil w).drewN nq)).set 1 (.int .i64 ((p : Int) + n))
  have hx1 := ((Ext.refl (fun b => b = r) w).drewN nq).setCell (p := ⟨r, 1, none⟩) (fun _ => rfl) (.int .i64 ((p : Int) + n))
  exact ⟨rfl, H.out.moved hx1 (by simpa using hr1) (by omega), hx1⟩
set_option maxRecDepth 100000 in
set_option maxHeartbeats 4000000 in
theorem in_number_bad (h : InIs w r ad c L p) {most : Nat} {b : BadD} (hr : rdNumber L p most = .error b) :
    Calls Tryz.prog 83 #[.pointer (some ⟨r, 0, none⟩), .int .u64 most] w (Failed w (fun b => b = r) b.why b.at_ fun v => .tuple #[.int .u64 0, v]) := by
  obtain ⟨hb, hN⟩ := Go.X.rdNumber_bad hr
  clear hr
  rw [hb]
  clear hb
  have c0 := h.row.cell (i := 0) rfl
  have c1 := h.row.cell (i := 1) rfl
  have c2 := h.row.cell (i := 2) rfl
  have hf := h.row.frozen
  have hl := h.len
  have hcp := h.cap
  have hpos := h.pos
  have hsl := fun w' => X.run_slice (P := Tryz.prog) elB ad L.length c p L.length (some (.int .i64 p)) none (.inr ⟨_, rfl⟩) (.inl ⟨rfl, rfl⟩) hpos hcp w'
  rcases hN with hN | ⟨hw, x, n, hN, hm, hx, hn⟩
  · have hnum : ∀ nq, Calls Tryz.prog 124 #[cutV ad 1 p L.length c] (w.drewN nq) fun e w' => e = .returned (.tuple #[.int .u64 0, .int .i64 0, .int .i64 b.why]) ∧ w' = w.drewN nq := fun nq =>
      (number_raw (h.rest nq) (by rw [List.length_drop]; omega)).mono fun e w' ⟨h1, h2⟩ => ⟨by rw [h1, hN]; rfl, h2.symm⟩
    have Hnum := Lib.hid hnum
    have H := Lib.hid h
    have hwy := Go.X.numF_why _ _ _ _ hN
    obtain ⟨y, hy⟩ : ∃ y, y = b.why := ⟨_, rfl⟩
    rw [← hy] at hwy Hnum ⊢
    have z1 : ((y : Int) == 0) = false := by simp; omega
    have z2 : ((y : Int) != 0) = true := by simp; omega
    clear h hN hnum hy
    go_enter Tryz.func83, Tryz.ntmps83
    go_wp2
    go_quiet ((go_at_call 124; exact Calls.quiet_of_same (Hnum.out _)))
    go_wp2_with fail
    have hx := (Ext.refl Nil w).drewN nq
    refine (fail_any (H.out.row.ext0 hx) y p _ _ rfl rfl).mono ?_
    rintro e w' ⟨a, rfl, h1, h2, h3⟩
    have Hp : Hid (w.heap.size ≤ a ∧ BadAt w' a y p ∧ Ext (fun b => b = r) w w') := ⟨h1, h2, hx.nilMono.trans' h3⟩
    clear h1 h2 h3 hx
    go_wp2
    go_ret2
    exact ⟨a, rfl, Hp.out⟩
  · rw [hw]
    clear hw
    have hnum : ∀ nq, Calls Tryz.prog 124 #[cutV ad 1 p L.length c] (w.drewN nq) fun e w' => e = .returned (.tuple #[.int .u64 x, .int .i64 n, .int .i64 0]) ∧ w' = w.drewN nq := fun nq =>
      (number_raw (h.rest nq) (by rw [List.length_drop]; omega)).mono fun e w' ⟨h1, h2⟩ => ⟨by rw [h1, hN]; rfl, h2.symm⟩
    have Hnum := Lib.hid hnum
    have H := Lib.hid h
    have hmx : decide ((most : Int) < x) = true := by simp; omega
    have hmx' : decide (most < x) = true := by simp; omega
    clear h hN hnum
    go_enter Tryz.func83, Tryz.ntmps83
    go_wp2
    go_quiet ((go_at_call 124; exact Calls.quiet_of_same (Hnum.out _)))
    go_wp2_with fail
    have hx := (Ext.refl Nil w).drewN nq
    refine (fail_any (H.out.row.ext0 hx) 22 p _ _ rfl rfl).mono ?_
    rintro e w' ⟨a, rfl, h1, h2, h3⟩
    have Hp : Hid (w.heap.size ≤ a ∧ BadAt w' a 22 p ∧ Ext (fun b => b = r) w w') := ⟨h1, h2, hx.nilMono.trans' h3⟩
    clear h1 h2 h3 hx
    go_wp2
    go_ret2
    exact ⟨a, rfl, Hp.out⟩
end
end Go.Proofs.YtggiknehmoaimaaGreatDoor
