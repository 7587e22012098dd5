/-
  Blocks known whole: loading and storing aggregates in them.
-/
import Derived.Test.YtggiknehmoaimaaGreatDoorKey
import Derived.Test.YtggiknehmoaimaaGreatDoorSeq
import Derived.Laws.Rows
import Derived.Laws.CopyRow
namespace Go.X
open Go.RowKit

/-- Block b holds the cells C of type e. -/
def Row (w : World) (b : Nat) (e : TypeId) (C : List Value) : Prop := w.heap[b]? = some (.cells C.toArray e (0, 0))
/-- An aggregate type of n cells. -/
structure AggT (P : Program) (t : TypeId) (n : Nat) : Prop where
  desc : ∃ d, P.underlying t = some d ∧ (match d with | .struct _ | .array _ _ => true | _ => false) = true
  size : (P.info? t).map (·.size) = some n

section
variable {P : Program} {w w' : World} {b : Nat} {e t : TypeId} {C vs : List Value} {n off : Nat} {F : Nat → Prop}
theorem Row.ext (h : Row w b e C) (hx : Ext F w w') (hn : ¬ F b) : Row w' b e C := hx.heap h hn
theorem Row.ext0 (h : Row w b e C) (hx : Ext Nil w w') : Row w' b e C := hx.heap h id
theorem Row.lt (h : Row w b e C) : b < w.heap.size := lt_of_heap h
theorem Row.cell (h : Row w b e C) {i : Nat} {v : Value} (hi : C[i]? = some v) : w.cell? ⟨b, i, none⟩ = some v := by
  rw [cell_of_row w b i _ _ (0, 0) h]; simpa using hi
theorem Row.frozen (h : Row w b e C) (i : Nat) : w.frozen? ⟨b, i, none⟩ = false := frozen_of_row w b i _ e h
theorem row_new (w : World) (C : List Value) (e : TypeId) : Row (w.alloc (.cells C.toArray e)) w.heap.size e C := heap_alloc_new w _
theorem Row.set (h : Row w b e C) (i : Nat) (v : Value) : Row (w.setCell ⟨b, i, none⟩ v) b e (C.set i v) := by
  unfold Row at h ⊢
  simp [World.setCell, Array.getElem?_modify, h]
theorem Row.setRow (h : Row w b e C) (D : List Value) : Row (w.setRow b D.toArray) b e D := setRow_heap w b _ _ e _ h
theorem Ext.setRow {a : World} (h : Ext F a w) (hb : b < a.heap.size → F b) (D : Array Value) : Ext F a (w.setRow b D) :=
  h.trans (G := fun k => k = b) ⟨rfl, rfl, rfl, by simp [World.setRow], fun k _ hn => setRow_other w b k _ hn⟩ fun k hk e => by subst e; exact hb hk

theorem AggT.run_isAgg (A : AggT P t n) (w : World) : (isAgg t).run P w = .ok true w := by
  obtain ⟨d, hu, hd⟩ := A.desc
  unfold isAgg
  rw [Sem.run_bind, run_underlying hu w]
  cases d <;> simp_all
theorem AggT.run_sizeOf (A : AggT P t n) (w : World) : (sizeOf t).run P w = .ok n w := by
  have h := A.size
  cases hq : P.info? t with
  | none => simp [hq] at h
  | some i =>
    have hs : i.size = n := by simpa [hq] using h
    simp [sizeOf, typeInfo, hq, hs]
theorem run_loadVar_at (A : AggT P t n) (h : Row w b e C) (hf : off + n ≤ C.length) : (loadVar t ⟨b, off, none⟩).run P w = .ok (.agg ((C.drop off).take n).toArray) w := by
  have hl : (loadCells ⟨b, off, none⟩ ((C.drop off).take n).length).run P w = .ok ((C.drop off).take n).toArray w :=
    run_loadCells_list (P := P) w ⟨b, off, none⟩ _ (fun j v hv => by
      rw [add_lit]
      refine h.cell ?_
      have hj := (List.getElem?_eq_some_iff.1 hv).1
      rw [List.length_take] at hj
      rwa [List.getElem?_take_of_lt (by omega), List.getElem?_drop] at hv)
  have hlen : ((C.drop off).take n).length = n := by rw [List.length_take, List.length_drop]; omega
  rw [hlen] at hl
  unfold loadVar
  simp only [Sem.run_bind, A.run_isAgg, Result.andThen_ok, if_true, A.run_sizeOf, hl, Sem.run_pure]
theorem run_storeVar_at (A : AggT P t n) (h : Row w b e C) (hf : off + n ≤ C.length) (hv : vs.length = n) (h1 : ∀ v ∈ vs, v.oneCell' = true) :
    (storeVar t ⟨b, off, none⟩ (.agg vs.toArray)).run P w = .ok () (w.setRow b (C.take off ++ vs ++ C.drop (off + n)).toArray) := by
  have hst := run_storeCells_at P b off e vs 0 C.toArray w h (by simpa [hv] using hf) h1
  unfold storeVar
  simp only [Sem.run_bind, A.run_sizeOf, Result.andThen_ok]
  rw [if_neg (by simp [Value.cells, hv])]
  simp only [Nat.add_zero, hv] at hst
  simpa [Value.cells] using hst
theorem wp_load_at {o : Oper} {a : Act} {K : Act → World → Prop} {Q : Exit → Act → World → Prop} (x : Operand) (ho : o.op = .load t x) (hx : a.eval x = .pointer (some ⟨b, off, none⟩)) (A : AggT P t n) (h : Row w b e C) (hf : off + n ≤ C.length)
    (hk : K (a.put o.dst (.agg ((C.drop off).take n).toArray)) w) : o.wp P a w K Q := by
  unfold Oper.wp execOp
  simp only [ho, hx, Instr.loadAt, Instr.sureAddr, Sem.run_bind, Sem.run_pure, Result.andThen_ok, run_loadVar_at A h hf]
  exact hk
theorem wpList_load_at {ops : Array Oper} {rest : List Oper} {o : Oper} {a : Act} {Q : Exit → Act → World → Prop} (hgd : o.guard = none) (x : Operand) (ho : o.op = .load t x) (hx : a.eval x = .pointer (some ⟨b, off, none⟩)) (A : AggT P t n) (h : Row w b e C) (hf : off + n ≤ C.length)
    (hk : wpList P ops Q rest (a.put o.dst (.agg ((C.drop off).take n).toArray)) w) : wpList P ops Q (o :: rest) a w :=
  wpList_plain hgd fun _ hK => wp_load_at x ho hx A h hf (hK _ _ hk)
theorem wp_store_at {o : Oper} {a : Act} {K : Act → World → Prop} {Q : Exit → Act → World → Prop} (x y : Operand) (ho : o.op = .store t x y) (hx : a.eval x = .pointer (some ⟨b, off, none⟩)) (hy : a.eval y = .agg vs.toArray) (A : AggT P t n) (h : Row w b e C) (hf : off + n ≤ C.length)
    (hv : vs.length = n) (h1 : ∀ v ∈ vs, v.oneCell' = true) (hk : K (a.put o.dst undef) (w.setRow b (C.take off ++ vs ++ C.drop (off + n)).toArray)) : o.wp P a w K Q := by
  unfold Oper.wp execOp
  simp only [ho, hx, hy, Instr.storeAt, Instr.sureAddr, Sem.run_bind, Sem.run_pure, Result.andThen_ok, run_storeVar_at A h hf hv h1]
  exact hk
theorem wpList_store_at {ops : Array Oper} {rest : List Oper} {o : Oper} {a : Act} {Q : Exit → Act → World → Prop} (hgd : o.guard = none) (x y : Operand) (ho : o.op = .store t x y) (hx : a.eval x = .pointer (some ⟨b, off, none⟩)) (hy : a.eval y = .agg vs.toArray) (A : AggT P t n) (h : Row w b e C) (hf : off + n ≤ C.length)
    (hv : vs.length = n) (h1 : ∀ v ∈ vs, v.oneCell' = true) (hk : wpList P ops Q rest (a.put o.dst undef) (w.setRow b (C.take off ++ vs ++ C.drop (off + n)).toArray)) : wpList P ops Q (o :: rest) a w :=
  wpList_plain hgd fun _ hK => wp_store_at x y ho hx hy A h hf hv h1 (hK _ _ hk)
theorem exec_load {o : Oper} {ρ : Operand → Value} {x : Operand} (ho : o.op = .load t x) (hx : ρ x = .pointer (some ⟨b, off, none⟩)) (A : AggT P t n) (h : Row w b e C) (hf : off + n ≤ C.length) : (execOp ρ o).run P w = .ok (.value (.agg ((C.drop off).take n).toArray)) w := by
  unfold execOp
  simp only [ho, hx, Instr.loadAt, Instr.sureAddr, Sem.run_bind, Sem.run_pure, Result.andThen_ok, run_loadVar_at A h hf]
theorem exec_store {o : Oper} {ρ : Operand → Value} {x y : Operand} (ho : o.op = .store t x y) (hx : ρ x = .pointer (some ⟨b, off, none⟩)) (hy : ρ y = .agg vs.toArray) (A : AggT P t n) (h : Row w b e C) (hf : off + n ≤ C.length) (hv : vs.length = n) (h1 : ∀ v ∈ vs, v.oneCell' = true) :
    (execOp ρ o).run P w = .ok .skip (w.setRow b (C.take off ++ vs ++ C.drop (off + n)).toArray) := by
  unfold execOp
  simp only [ho, hx, hy, Instr.storeAt, Instr.sureAddr, Sem.run_bind, Sem.run_pure, Result.andThen_ok, run_storeVar_at A h hf hv h1]
theorem row_alloc (w : World) (A : Array Value) (e : TypeId) : Row (w.alloc (.cells A e)) w.heap.size e A.toList := by
  have := heap_alloc_new w (.cells A e)
  unfold Row
  simpa using this
/-- A store over a whole block. -/
theorem wpList_store_all {ops : Array Oper} {rest : List Oper} {o : Oper} {a : Act} {Q : Exit → Act → World → Prop} (hgd : o.guard = none) (x y : Operand) (ho : o.op = .store t x y) (hx : a.eval x = .pointer (some ⟨b, 0, none⟩)) (hy : a.eval y = .agg vs.toArray) (A : AggT P t n) (h : Row w b e C) (hc : C.length = n)
    (hv : vs.length = n) (h1 : ∀ v ∈ vs, v.oneCell' = true) (hk : wpList P ops Q rest (a.put o.dst undef) (w.setRow b vs.toArray)) : wpList P ops Q (o :: rest) a w := by
  refine wpList_store_at hgd x y ho hx hy A h (by omega) hv h1 ?_
  rw [List.take_zero, List.nil_append, Nat.zero_add, ← hc, List.drop_length, List.append_nil]
  exact hk
/-- A load of a whole block. -/
theorem wpList_load_all {ops : Array Oper} {rest : List Oper} {o : Oper} {a : Act} {Q : Exit → Act → World → Prop} (hgd : o.guard = none) (x : Operand) (ho : o.op = .load t x) (hx : a.eval x = .pointer (some ⟨b, 0, none⟩)) (A : AggT P t n) (h : Row w b e C) (hc : C.length = n)
    (hk : wpList P ops Q rest (a.put o.dst (.agg C.toArray)) w) : wpList P ops Q (o :: rest) a w := by
  refine wpList_load_at hgd x ho hx A h (by omega) ?_
  rw [List.drop_zero, ← hc, List.take_length]
  exact hk
/-- A load of a part of a block. -/
theorem wpList_load_part {ops : Array Oper} {rest : List Oper} {o : Oper} {a : Act} {Q : Exit → Act → World → Prop} (hgd : o.guard = none) (x : Operand) (ho : o.op = .load t x) (hx : a.eval x = .pointer (some ⟨b, off, none⟩)) (A : AggT P t n) (h : Row w b e C) (hf : off + n ≤ C.length) (hvs : (C.drop off).take n = vs)
    (hk : wpList P ops Q rest (a.put o.dst (.agg vs.toArray)) w) : wpList P ops Q (o :: rest) a w := by
  subst hvs
  exact wpList_load_at hgd x ho hx A h hf hk
/-- A result that lies in a block. -/
theorem results_row {fn : Func} {p : Tmp} {tmps : Array Value} (hr : fn.results = #[.cell p t]) (hp : tmps.getD p undef = .pointer (some ⟨b, 0, none⟩)) (A : AggT P t n) (h : Row w b e C) (hc : C.length = n) : (results fn tmps).run P w = .ok (.agg C.toArray) w := by
  have hp' : tmps[p]?.getD undef = .pointer (some ⟨b, 0, none⟩) := by simpa using hp
  have hl := run_loadVar_at (P := P) (off := 0) A h (by omega)
  rw [List.drop_zero, ← hc, List.take_length] at hl
  simp [results, hr, hp', asAddr, hl]
end
end Go.X
