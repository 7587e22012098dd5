/-
  pack.In of the program: what a reader holds; fail, next, Byte, At, Left, End.
-/
import Derived.Test.YtggiknehmoaimaaGreatDoorBytes
import Derived.Deep.QuietTactic
import Derived.IntWalk
namespace Go.X
open Go.RowKit
abbrev nilS : Value := .slice none 0 0
theorem bytesIn_sub {w : World} {ad : Option Addr} {c p q : Nat} {l : Bytes} (h : BytesIn w (.slice ad l.length c) l) (hpq : p ≤ q) (hq : q ≤ l.length) : BytesIn w (cutV ad 1 p q c) ((l.drop p).take (q - p)) := by
  obtain ⟨ad', c', e, hc, hb⟩ := h
  injection e with e1 _ e3
  subst e1 e3
  unfold cutV
  refine ⟨_, c - p, by rw [List.length_take, List.length_drop, Nat.min_eq_left (by omega)], by rw [List.length_take, List.length_drop]; omega, fun i x hi => ?_⟩
  have hlt := (List.getElem?_eq_some_iff.1 hi).1
  rw [List.length_take, List.length_drop] at hlt
  rw [List.getElem?_take_of_lt (by omega), List.getElem?_drop] at hi
  obtain ⟨b, o, rfl, h1⟩ := hb _ _ hi
  rw [if_neg (by omega)]
  refine ⟨b, o + p, by simp [add_lit], ?_⟩
  rw [Nat.add_assoc]; exact h1
end Go.X
namespace Go.Proofs.YtggiknehmoaimaaGreatDoor
open Go Go.RowKit Go.X

/-- A reader of the bytes L that stands at p. -/
structure InIs (w : World) (r : Nat) (ad : Option Addr) (c : Nat) (L : Bytes) (p : Nat) : Prop where
  row : Row w r 221 [.slice ad L.length c, .int .i64 p, .nilIface]
  bytes : BytesIn w (.slice ad L.length c) L
  sep : ∀ x, ad = some x → x.block ≠ r
  pos : p ≤ L.length
  len : L.length ≤ 140737488355328
  far : ∀ x, ad = some x → x.block < w.heap.size
theorem InIs.cap {w : World} {r : Nat} {ad : Option Addr} {c : Nat} {L : Bytes} {p : Nat} (h : InIs w r ad c L p) : L.length ≤ c := by
  obtain ⟨_, _, e, hc, _⟩ := h.bytes
  injection e with _ _ e
  subst e
  exact hc
theorem InIs.ext {F : Nat → Prop} {w w' : World} {r : Nat} {ad : Option Addr} {c : Nat} {L : Bytes} {p : Nat} (h : InIs w r ad c L p) (hx : Ext F w w') (hr : ¬ F r) (ha : ∀ x, ad = some x → ¬ F x.block) : InIs w' r ad c L p :=
  ⟨h.row.ext hx hr, h.bytes.ext hx fun _ b hb => by
    cases ad with
    | none => simp [Value.ownBlock] at hb
    | some x => simp [Value.ownBlock] at hb; subst hb; exact ha x rfl, h.sep, h.pos, h.len, fun x hx' => Nat.lt_of_lt_of_le (h.far x hx') hx.size⟩
theorem InIs.ext0' {w w' : World} {r : Nat} {ad : Option Addr} {c : Nat} {L : Bytes} {p : Nat} (h : InIs w r ad c L p) (hx : Ext Nil w w') : InIs w' r ad c L p := h.ext hx id fun _ _ => id
/-- The same reader, at another place. -/
theorem InIs.moved {w w' : World} {r : Nat} {ad : Option Addr} {c : Nat} {L : Bytes} {p q : Nat} (h : InIs w r ad c L p) (hx : Ext (fun b => b = r) w w') (hr : Row w' r 221 [.slice ad L.length c, .int .i64 q, .nilIface]) (hq : q ≤ L.length) : InIs w' r ad c L q :=
  ⟨hr, h.bytes.ext hx fun _ b hb => by
    cases ad with
    | none => simp [Value.ownBlock] at hb
    | some x => simp [Value.ownBlock] at hb; subst hb; exact h.sep x rfl, h.sep, hq, h.len, fun x hx' => Nat.lt_of_lt_of_le (h.far x hx') hx.size⟩
/-- An error that is told with a place. -/
def badV (a : Nat) : Value := .iface 130 (.pointer (some ⟨a, 0, none⟩))
theorem bad_neq (t : TypeId) (v : Value) (w : World) : (binOp .neq 41 (.iface t v) .nilIface).run Tryz.prog w = .ok (.bool true) w := by
  have h : ∀ d : Nat, (Op.equalIn (d + 1) 41 (.iface t v) .nilIface).run Tryz.prog w = .ok false w := fun d => by simp [Op.equalIn, run_underlying Tryz.underlying41]
  simp only [binOp]
  simp [Op.equal, Op.maxDepth, h 9999]
theorem bad_eql (t : TypeId) (v : Value) (w : World) : (binOp .eql 41 (.iface t v) .nilIface).run Tryz.prog w = .ok (.bool false) w := by
  have h : ∀ d : Nat, (Op.equalIn (d + 1) 41 (.iface t v) .nilIface).run Tryz.prog w = .ok false w := fun d => by simp [Op.equalIn, run_underlying Tryz.underlying41]
  simp only [binOp]
  simp [Op.equal, Op.maxDepth, h 9999]
def BadAt (w : World) (a why at_ : Nat) : Prop := Row w a 134 [.int .i64 why, .int .i64 at_]
/-- A call that ends by an error with its place. -/
def Failed (w : World) (F : Nat → Prop) (why at_ : Nat) (v : Value → Value) (e : Ending) (w' : World) : Prop := ∃ a, e = .returned (v (badV a)) ∧ w.heap.size ≤ a ∧ BadAt w' a why at_ ∧ Ext F w w'

set_option maxHeartbeats 1000000 in
theorem fail_any {w : World} {r : Nat} {s o : Value} {p : Value} (row : Row w r 221 [s, p, o]) (why at_ : Nat) (x y : Int) (hx : x = why) (hy : y = at_) :
    Calls Tryz.prog 122 #[.pointer (some ⟨r, 0, none⟩), .int .i64 x, .int .i64 y] w (Failed w (fun b => b = r) why at_ id) := by
  subst hx hy
  have c1 := row.cell (i := 1) rfl
  have c2 := row.cell (i := 2) rfl
  have hf := row.frozen
  have hrl := row.lt
  have hne : ¬ r = w.heap.size := by omega
  have Hrow := Lib.hid row
  clear row
  go_enter Tryz.func122, Tryz.ntmps122
  go_wp2
  go_ret
  refine ⟨w.heap.size, rfl, Nat.le_refl _, ?_, (((Ext.refl (fun b => b = r) w).setCell (fun _ => rfl) _).setCell (fun _ => rfl) _).alloc _⟩
  have h1 := Go.X.row_alloc ((w.setCell ⟨r, 2, none⟩ (badV w.heap.size)).setCell ⟨r, 1, none⟩ (.int .i64 (at_ : Int))) #[.int .i64 (why : Int), .int .i64 (at_ : Int)] 134
  show Row _ _ _ _
  simpa [badV] using h1

section
variable {w : World} {r : Nat} {ad : Option Addr} {c : Nat} {L : Bytes} {p : Nat}
set_option maxHeartbeats 1000000 in
theorem next_ok (h : InIs w r ad c L p) (k : Int) (n : Nat) (hk : k = n) (hn : p + n ≤ L.length) :
    Calls Tryz.prog 123 #[.pointer (some ⟨r, 0, none⟩), .int .i64 k] w fun e w' => e = .returned (.tuple #[cutV ad 1 p (p + n) c, .nilIface]) ∧ InIs w' r ad c L (p + n) ∧ Ext (fun b => b = r) w w' := by
  subst hk
  have c0 := h.row.cell (i := 0) rfl
  have c1 := h.row.cell (i := 1) rfl
  have c2 := h.row.cell (i := 2) rfl
  have hf := h.row.frozen
  have hl := h.len
  have hcp := h.cap
  have hpos := h.pos
  have hsl := fun w' => X.run_slice (P := Tryz.prog) elB ad L.length c p (p + n) (some (.int .i64 p)) (some (.int .i64 ((p : Int) + n))) (.inr ⟨_, rfl⟩) (.inr ⟨.i64, by rw [Int.natCast_add]⟩) (by omega) (by omega) w'
  have H := Lib.hid h
  clear h
  go_enter Tryz.func123, Tryz.ntmps123
  have e0 : IntKind.i64.wrap ((L.length : Int) - p) = (L.length : Int) - p := IntWalk.i64_in _ (by omega)
  have e1 : decide ((n : Int) > (L.length : Int) - p) = false := by simp; omega
  have e2 : decide ((L.length : Int) - p < n) = false := by simp; omega
  go_wp2
  go_quiet (fail)
  go_wp2
  clear e0 e1 e2
  have hr1 := (H.out.row.ext0 ((Ext.refl Nil w).drewN nq)).set 1 (.int .i64 ((p : Int) + n))
  have hx1 := ((Ext.refl (fun b => b = r) w).drewN nq).setCell (p := ⟨r, 1, none⟩) (fun _ => rfl) (.int .i64 ((p : Int) + n))
  generalize ((w.drewN nq).setCell ⟨r, 1, none⟩ (.int .i64 ((p : Int) + n))) = w1 at hr1 hx1 ⊢
  have d0 := hr1.cell (i := 0) rfl
  have d1 := hr1.cell (i := 1) rfl
  have e3 : IntKind.i64.wrap ((p : Int) + n - n) = p := by rw [Int.add_sub_cancel]; exact IntWalk.i64_in _ (by omega)
  have e4 : IntKind.i64.wrap (p : Int) = p := IntWalk.i64_in _ (by omega)
  have Hr1 := Lib.hid hr1
  have Hx1 := Lib.hid hx1
  clear c0 c1 c2 hf hr1 hx1
  go_quiet (fail)
  go_wp2
  go_ret2
  exact ⟨rfl, H.out.moved (Hx1.out.drewN _) ((by have h := Hr1.out; simpa using h : Row w1 r _ _).ext0 ((Ext.refl Nil w1).drewN _)) hn, Hx1.out.drewN _⟩
set_option maxHeartbeats 1000000 in
theorem next_short (h : InIs w r ad c L p) (k : Int) (n : Nat) (hk : k = n) (hn : L.length < p + n) :
    Calls Tryz.prog 123 #[.pointer (some ⟨r, 0, none⟩), .int .i64 k] w (Failed w (fun b => b = r) 20 p fun x => .tuple #[nilS, x]) := by
  subst hk
  have c0 := h.row.cell (i := 0) rfl
  have c1 := h.row.cell (i := 1) rfl
  have c2 := h.row.cell (i := 2) rfl
  have hf := h.row.frozen
  have hl := h.len
  have hpos := h.pos
  have H := Lib.hid h
  clear h
  go_enter Tryz.func123, Tryz.ntmps123
  have e0 : IntKind.i64.wrap ((L.length : Int) - p) = (L.length : Int) - p := IntWalk.i64_in _ (by omega)
  have e1 : decide ((n : Int) > (L.length : Int) - p) = true := by simp; omega
  have e2 : decide ((L.length : Int) - p < n) = true := by simp; omega
  go_wp2
  go_quiet (fail)
  go_wp2_with fail
  have hx := (Ext.refl Nil w).drewN nq
  refine (fail_any (H.out.row.ext0 hx) 20 p _ _ rfl rfl).mono ?_
  rintro e w' ⟨a, rfl, h1, h2, h3⟩
  have Hp : Hid (w.heap.size ≤ a ∧ BadAt w' a 20 p ∧ Ext (fun b => b = r) w w') := ⟨h1, h2, hx.nilMono.trans' h3⟩
  clear h1 h2 h3 hx
  go_wp2
  go_ret2
  exact ⟨a, rfl, Hp.out⟩

set_option maxHeartbeats 1000000 in
theorem at_any (h : InIs w r ad c L p) : Calls Tryz.prog 85 #[.pointer (some ⟨r, 0, none⟩)] w fun e w' => e = .returned (.int .i64 p) ∧ w = w' := by
  have c1 := h.row.cell (i := 1) rfl
  clear h
  go_enter Tryz.func85, Tryz.ntmps85
  go_wp2
  go_ret
  exact ⟨rfl, rfl⟩
set_option maxHeartbeats 1000000 in
theorem left_any (h : InIs w r ad c L p) : Calls Tryz.prog 150 #[.pointer (some ⟨r, 0, none⟩)] w fun e w' => e = .returned (.int .i64 ((L.length : Int) - p)) ∧ Ext Nil w w' := by
  have c0 := h.row.cell (i := 0) rfl
  have c1 := h.row.cell (i := 1) rfl
  have hl := h.len
  have hpos := h.pos
  clear h
  have e0 : IntKind.i64.wrap ((L.length : Int) - p) = (L.length : Int) - p := IntWalk.i64_in _ (by omega)
  go_enter Tryz.func150, Tryz.ntmps150
  go_wp2
  go_quiet (fail)
  go_wp2
  go_ret
  exact ⟨rfl, (Ext.refl Nil w).drewN _⟩
set_option maxHeartbeats 1000000 in
theorem end_ok (h : InIs w r ad c L p) (hp : p = L.length) : Calls Tryz.prog 88 #[.pointer (some ⟨r, 0, none⟩)] w fun e w' => e = .returned .nilIface ∧ Ext Nil w w' := by
  subst hp
  have c0 := h.row.cell (i := 0) rfl
  have c1 := h.row.cell (i := 1) rfl
  have c2 := h.row.cell (i := 2) rfl
  clear h
  go_enter Tryz.func88, Tryz.ntmps88
  go_wp2
  go_quiet (fail)
  go_wp2
  go_ret
  exact ⟨rfl, (Ext.refl Nil w).drewN _⟩
set_option maxHeartbeats 1000000 in
theorem end_rest (h : InIs w r ad c L p) (hp : p < L.length) : Calls Tryz.prog 88 #[.pointer (some ⟨r, 0, none⟩)] w (Failed w (fun b => b = r) 23 p id) := by
  have c0 := h.row.cell (i := 0) rfl
  have c1 := h.row.cell (i := 1) rfl
  have c2 := h.row.cell (i := 2) rfl
  have H := Lib.hid h
  have e1 : decide ((p : Int) < L.length) = true := by simp; omega
  have e2 : decide (p < L.length) = true := by simp; omega
  clear h
  go_enter Tryz.func88, Tryz.ntmps88
  go_wp2
  go_quiet (fail)
  go_wp2_with fail
  have hx := (Ext.refl Nil w).drewN nq
  refine (fail_any (H.out.row.ext0 hx) 23 p _ _ rfl rfl).mono ?_
  rintro e w' ⟨a, rfl, h1, h2, h3⟩
  have Hp : Hid (w.heap.size ≤ a ∧ BadAt w' a 23 p ∧ Ext (fun b => b = r) w w') := ⟨h1, h2, hx.nilMono.trans' h3⟩
  clear h1 h2 h3 hx
  go_wp2
  go_ret
  exact ⟨a, rfl, Hp.out⟩
set_option maxHeartbeats 1000000 in
theorem byte_ok (h : InIs w r ad c L p) (x : UInt8) (hx : L[p]? = some x) :
    Calls Tryz.prog 155 #[.pointer (some ⟨r, 0, none⟩)] w fun e w' => e = .returned (.tuple #[bval x, .nilIface]) ∧ InIs w' r ad c L (p + 1) ∧ Ext (fun b => b = r) w w' := by
  have H := Lib.hid h
  have hp : p + 1 ≤ L.length := (List.getElem?_eq_some_iff.1 hx).1
  clear h
  go_enter Tryz.func155, Tryz.ntmps155
  go_wp2_with fail
  refine (next_ok H.out 1 1 rfl hp).mono ?_
  rintro e w1 ⟨rfl, h1, hx1⟩
  have hb := Go.X.bytesIn_sub h1.bytes (Nat.le_succ p) hp
  have H1 := Lib.hid h1
  have Hx1 := Lib.hid hx1
  obtain ⟨ad1, c1, e1, hc1, hb1⟩ := hb
  have hone : ((L.drop p).take (p + 1 - p))[0]? = some x := by rw [Nat.add_sub_cancel_left, List.getElem?_take_of_lt (by omega), List.getElem?_drop]; exact hx
  have hlen : ((L.drop p).take (p + 1 - p)).length = 1 := by rw [List.length_take, List.length_drop]; omega
  obtain ⟨b, o, rfl, h0⟩ := hb1 0 x hone
  rw [e1, hlen]
  rw [Nat.add_zero] at h0
  unfold bval at h0
  clear h1 hx1 hb1 e1 hone hlen hc1 hx
  go_wp2
  go_ret2
  exact ⟨rfl, H1.out, Hx1.out⟩
set_option maxHeartbeats 1000000 in
theorem byte_short (h : InIs w r ad c L p) (hp : p = L.length) :
    Calls Tryz.prog 155 #[.pointer (some ⟨r, 0, none⟩)] w (Failed w (fun b => b = r) 20 p fun x => .tuple #[.int .u8 0, x]) := by
  have H := Lib.hid h
  have Hp := Lib.hid hp
  have hbn := bad_neq
  clear h hp
  go_enter Tryz.func155, Tryz.ntmps155
  go_wp2_with fail
  refine (next_short H.out 1 1 rfl (by have := Hp.out; omega)).mono ?_
  rintro e w1 ⟨a, rfl, h1⟩
  have H1 := Lib.hid h1
  clear h1
  unfold badV
  go_wp2
  go_ret2
  exact ⟨a, rfl, H1.out⟩
end
end Go.Proofs.YtggiknehmoaimaaGreatDoor
