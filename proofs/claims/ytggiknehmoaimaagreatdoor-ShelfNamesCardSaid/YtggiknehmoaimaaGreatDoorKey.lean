/-
  Hashes as values: cells, keys of maps, elements of slices.
-/
import Derived.Test.YtggiknehmoaimaaGreatDoorRow
import Derived.Test.YtggiknehmoaimaaGreatDoorPure
import Derived.ChangeKeysEq
import Derived.Test.YtggiknehmoaimaaGreatDoorChecked
namespace Go.X
open Go.RowKit

def bval (b : UInt8) : Value := .int .u8 b.toNat
def bv (l : Bytes) : List Value := l.map bval
theorem bv_length (l : Bytes) : (bv l).length = l.length := by simp [bv]
theorem bv_one (l : Bytes) : ∀ u ∈ bv l, u.oneCell' = true := by
  intro u hu
  simp only [bv, List.mem_map] at hu
  obtain ⟨b, _, rfl⟩ := hu
  rfl
theorem bv_append (l m : Bytes) : bv (l ++ m) = bv l ++ bv m := by simp [bv]
/-- A row of bytes as an array. -/
def av (l : Bytes) : Value := .agg (bv l).toArray
def hv (h : Hash) : Value := av h.1

section
variable {P : Program} {w : World}
theorem run_part_u8 {e : TypeId} (he : P.plainKey e = true) {xs : Bytes} {i : Nat} (hi : i < xs.length) : (part e (bv xs).toArray i).run P w = .ok (bval xs[i]) w :=
  run_part_plain w he (by simp [bv, hi])
theorem run_eqItems_u8 (d : Nat) {e : TypeId} (he : P.plainKey e = true) (hu : P.underlying e = some (.int .u8)) (xs ys : Bytes) (hl : xs.length = ys.length) :
    ∀ (m k : Nat), k + m = xs.length → (Op.eqItems (d + 1) e 1 (bv xs).toArray (bv ys).toArray (List.range' k m)).run P w = .ok (decide (xs.drop k = ys.drop k)) w
  | 0, k, hk => by
    have h1 : xs.drop k = [] := List.drop_eq_nil_of_le (by omega)
    have h2 : ys.drop k = [] := List.drop_eq_nil_of_le (by omega)
    simp [Op.eqItems, h1, h2]
  | m + 1, k, hk => by
    have hx : k < xs.length := by omega
    have hy : k < ys.length := by omega
    rw [List.range'_succ]
    simp only [Op.eqItems, Nat.mul_one, Sem.run_bind, run_part_u8 he hx, run_part_u8 he hy, Result.andThen_ok]
    unfold bval
    simp only [run_equalIn_int w d _ _ _ _ _ hu]
    have hdx := List.drop_eq_getElem_cons hx
    have hdy := List.drop_eq_getElem_cons hy
    by_cases h : xs[k] = ys[k]
    · have hb : (((xs[k]).toNat : Int) == ((ys[k]).toNat : Int)) = true := by rw [h]; simp
      rw [hb, Result.andThen_ok, if_neg (by decide), run_eqItems_u8 d he hu xs ys hl m (k + 1) (by omega)]
      congr 1
      exact decide_eq_decide.2 ⟨fun e => by rw [hdx, hdy, h, e], fun e => by rw [hdx, hdy] at e; exact (List.cons.inj e).2⟩
    · have hb : (((xs[k]).toNat : Int) == ((ys[k]).toNat : Int)) = false := by
        rw [beq_eq_false_iff_ne]
        intro e
        exact h (UInt8.toNat_inj.1 (by omega))
      rw [hb, Result.andThen_ok, if_pos (by decide), Sem.run_pure]
      congr 1
      exact (decide_eq_false fun e => h (by rw [hdx, hdy] at e; exact (List.cons.inj e).1)).symm
/-- Two arrays of bytes. -/
theorem run_equal_bytes (d : Nat) {t e : TypeId} {n : Nat} {i : TypeInfo} (hu : P.underlying t = some (.array n e)) (hi : P.info? e = some i) (hc : P.cellsOf e = 1) (he : P.plainKey e = true) (hb : P.underlying e = some (.int .u8)) (xs ys : Bytes) (hx : xs.length = n) (hy : ys.length = n) :
    (Op.equalIn (d + 2) t (av xs) (av ys)).run P w = .ok (decide (xs = ys)) w := by
  unfold av
  rw [run_equalIn_array w (d + 1) _ _ hu hi, hc, List.range_eq_range', run_eqItems_u8 d he hb xs ys (by omega) n 0 (by omega)]
  simp
theorem sameBits_u8 (l : Bytes) (n : Nat) : Instr.sameBits (n + 1) (av l) (av l) = true := by
  unfold av
  simp only [Instr.sameBits, beq_self_eq_true, Bool.true_and]
  rw [List.all_eq_true]
  rintro ⟨x, y⟩ h
  have h1 : x = y := by
    have := List.of_mem_zip h
    have h2 : ∀ (l : List Value) x y, (x, y) ∈ l.zip l → x = y := by
      intro l
      induction l with
      | nil => intro x y h; simp at h
      | cons a l ih =>
        intro x y h
        simp only [List.zip_cons_cons, List.mem_cons, Prod.mk.injEq] at h
        rcases h with ⟨rfl, rfl⟩ | h
        · rfl
        · exact ih x y h
    exact h2 _ _ _ h
  subst h1
  have : x ∈ bv l := by
    have := (List.of_mem_zip h).1
    simpa using this
  simp only [bv, List.mem_map] at this
  obtain ⟨b, _, rfl⟩ := this
  cases n <;> simp [bval, Instr.sameBits]
theorem run_checkKey_u8 (b : Bool) (d : Nat) {e : TypeId} (hb : P.underlying e = some (.int .u8)) (x : UInt8) : (Instr.checkKey b (d + 1) e (bval x)).run P w = .ok () w := by
  simp [Instr.checkKey, run_underlying hb, bval]
theorem run_checkKey_bytes (b : Bool) (d : Nat) {t e : TypeId} {n : Nat} {i : TypeInfo} (hu : P.underlying t = some (.array n e)) (hi : P.info? e = some i) (hc : P.cellsOf e = 1) (he : P.plainKey e = true) (hb : P.underlying e = some (.int .u8)) (xs : Bytes) (hx : xs.length = n) :
    (Instr.checkKey b (d + 2) t (av xs)).run P w = .ok () w := by
  unfold av
  rw [Instr.checkKey]
  simp only [Sem.run_bind, run_underlying hu, Result.andThen_ok]
  simp only [Std.Legacy.Range.forIn_eq_forIn_range', Std.Legacy.Range.size, Nat.sub_zero, Nat.add_one_sub_one, Nat.div_one]
  have hall : ∀ j ∈ List.range' 0 n, j < xs.length := fun j hj => by rw [List.mem_range'] at hj; omega
  generalize List.range' 0 n = is at hall
  induction is with
  | nil => simp
  | cons j is ih =>
    have hj := hall j (List.mem_cons_self ..)
    simp only [List.forIn_cons, Sem.run_bind, run_sizeOf w hi, hc, Nat.mul_one, Result.andThen_ok, run_part_u8 he hj, run_checkKey_u8 b d hb, Sem.run_pure]
    exact ih fun k hk => hall k (List.mem_cons_of_mem _ hk)
/-- Hashes as keys of a map. -/
theorem hashKey {t e : TypeId} {i : TypeInfo} (hu : P.underlying t = some (.array 32 e)) (hi : P.info? e = some i) (hc : P.cellsOf e = 1) (he : P.plainKey e = true) (hb : P.underlying e = some (.int .u8)) : KeyT P t hv where
  desc := ⟨_, hu, fun _ _ => .inl rfl⟩
  check := fun k b w => run_checkKey_bytes b 9998 hu hi hc he hb k.1 k.2
  eq := fun k k' w => by
    unfold Op.equal
    have := run_equal_bytes (P := P) (w := w) 9998 hu hi hc he hb k.1 k'.1 k.2 k'.2
    rw [show (decide (k = k')) = decide (k.1 = k'.1) from decide_eq_decide.2 ⟨congrArg _, Subtype.ext⟩]
    exact this
  bits := fun k => sameBits_u8 k.1 9999
end
end Go.X
