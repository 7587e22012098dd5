/-
  pack.In of the program: Raw, Bytes.
-/
import Derived.Test.YtggiknehmoaimaaGreatDoorInC
namespace Go.Proofs.YtggiknehmoaimaaGreatDoor
open Go Go.RowKit Go.X
section
variable {w w' : World} {q r : Nat} {ad : Option Addr} {c : Nat} {L : Bytes} {p p' : Nat}
/-- A part of a reader's bytes, for an append. -/
theorem sub_src (h : BytesIn w (.slice ad L.length c) L) {n : Nat} (hn : p + n ≤ L.length) (hz : ad = none → c = 0) : Src w (cutV ad 1 p (p + n) c) 1 n (bv ((L.drop p).take n)) := by
  have hb := Go.X.bytesIn_sub h (Nat.le_add_right p n) hn
  rw [Nat.add_sub_cancel_left] at hb
  have hl : ((L.drop p).take n).length = n := by rw [List.length_take, List.length_drop]; omega
  have ha : BArg w (cutV ad 1 p (p + n) c) ((L.drop p).take n) := ⟨hb, fun m c' e => by
    unfold cutV at e
    injection e with e1 _ e3
    cases ad with
    | none => have := hz rfl; omega
    | some x => split at e1 <;> cases e1⟩
  have := ha.src
  rwa [hl] at this

/-- What a call that makes bytes leaves. -/
def MadeAt (w : World) (r : Nat) (ad : Option Addr) (c : Nat) (L : Bytes) (p : Nat) (l : Bytes) (e : Ending) (w' : World) : Prop :=
  ∃ v, e = .returned (.tuple #[v, .nilIface]) ∧ Made w l w' v ∧ InIs w' r ad c L p ∧ Ext (fun b => b = r) w w'
theorem madeAt_of {w1 : World} {v : Value} {l : Bytes} {n : Nat} (hx1 : Ext (fun b => b = r) w w1) (h1 : InIs w1 r ad c L p) (hl : l.length = n) (hA : Appended w1 w' (.slice none 0 0) v 5 1 (0 + n) ([] ++ bv l)) : MadeAt w r ad c L p l (.returned (.tuple #[v, .nilIface])) w' := by
  subst hl
  obtain ⟨h2, h3, _⟩ := made_of hx1.size hA
  exact ⟨v, rfl, h2, h1.ext0' h3, hx1.trans' h3.nilMono⟩
set_option maxRecDepth 100000 in
set_option maxHeartbeats 4000000 in
theorem in_raw_ok (h : InIs w r ad c L p) (hz : ad = none → c = 0) (k : Int) (n : Nat) (hk : k = n) (hn : p + n ≤ L.length) :
    Calls Tryz.prog 82 #[.pointer (some ⟨r, 0, none⟩), .int .i64 k] w (MadeAt w r ad c L (p + n) ((L.drop p).take n)) := by
  subst hk
  have c1 := h.row.cell (i := 1) rfl
  have c2 := h.row.cell (i := 2) rfl
  have hl := h.len
  have H := Lib.hid h
  have n0 : decide ((n : Int) < 0) = false := by simp
  clear h
  go_enter Tryz.func82, Tryz.ntmps82
  go_wp2_with fail
  refine (next_ok H.out n n rfl hn).mono ?_
  rintro e w1 ⟨rfl, h1, hx1⟩
  have hs := sub_src (n := n) h1.bytes hn hz
  have hln : ((L.drop p).take n).length = n := by rw [List.length_take, List.length_drop]; omega
  generalize cutV ad 1 p (p + n) c = vc at hs ⊢
  have Hs := Lib.hid hs
  have H1 := Lib.hid h1
  have Hx1 := Lib.hid hx1
  have Hln := Lib.hid hln
  clear hs h1 hx1 c1 c2 hln
  go_wp2_with (at_builtin; refine wpList_append rfl _ _ _ rfl elB ⟨_, Tryz.underlying29, fun _ h => by cases h⟩ (Own.nil _ _ _) Hs.out rfl rfl (by omega) (by unfold maxLen; omega) ?_; intro v' w' hA; have HA := Lib.hid (madeAt_of Hx1.out H1.out Hln.out hA); clear hA)
  go_ret2
  exact HA.out
set_option maxRecDepth 100000 in
set_option maxHeartbeats 4000000 in
theorem in_raw_short (h : InIs w r ad c L p) (k : Int) (n : Nat) (hk : k = n) (hn : L.length < p + n) :
    Calls Tryz.prog 82 #[.pointer (some ⟨r, 0, none⟩), .int .i64 k] w (Failed w (fun b => b = r) 20 p fun x => .tuple #[nilS, x]) := by
  subst hk
  have c1 := h.row.cell (i := 1) rfl
  have c2 := h.row.cell (i := 2) rfl
  have H := Lib.hid h
  have n0 : decide ((n : Int) < 0) = false := by simp
  have hbn := bad_neq
  clear h
  go_enter Tryz.func82, Tryz.ntmps82
  go_wp2_with fail
  refine (next_short H.out n n rfl hn).mono ?_
  rintro e w1 ⟨a, rfl, h1⟩
  have H1 := Lib.hid h1
  clear h1 c1 c2
  unfold badV
  go_wp2
  go_ret2
  exact ⟨a, rfl, H1.out⟩

theorem max_zero (m : Nat) (w : World) : (Builtin.max_ #[3, 3] 3 #[.int .i64 0, .int .i64 m]).run Tryz.prog w = .ok (.int .i64 m) w := by
  rw [run_max_int2]
  by_cases h : m = 0
  · subst h; simp
  · rw [if_pos (show (m : Int) > 0 by omega)]
theorem most_wrap {m : Nat} (h : m < 9223372036854775808) : IntKind.u64.wrap (m : Int) = m := by simp [IntKind.wrap, IntKind.bits, IntKind.signed]; omega
theorem i64_small {m : Nat} (h : m < 9223372036854775808) : IntKind.i64.wrap (m : Int) = m := IntWalk.i64_in _ (by omega)
set_option maxRecDepth 100000 in
set_option maxHeartbeats 4000000 in
theorem read_ok (h : InIs w r ad c L p) (hz : ad = none → c = 0) {most n q : Nat} (hm : most < 9223372036854775808) (hr : rdNumber L p most = .ok (n, q)) (hn : q + n ≤ L.length) :
    Calls Tryz.prog 125 #[.pointer (some ⟨r, 0, none⟩), .int .i64 most] w (MadeAt w r ad c L (q + n) ((L.drop q).take n)) := by
  have H := Lib.hid h
  have hl := h.len
  have Hr := Lib.hid hr
  have hmx := max_zero most
  have hcv := most_wrap hm
  clear h hr hm
  go_enter Tryz.func125, Tryz.ntmps125
  go_wp2_with fail
  refine (in_number_ok H.out Hr.out).mono ?_
  rintro e w1 ⟨rfl, h1, hx1⟩
  have H1 := Lib.hid h1
  have Hx1 := Lib.hid hx1
  clear h1 hx1 hmx hcv
  go_wp2_with fail
  refine (left_any H1.out).mono ?_
  rintro e w2 ⟨rfl, hx2⟩
  have H2 := Lib.hid (H1.out.ext0' hx2)
  have Hx2 := Lib.hid (Hx1.out.trans' hx2.nilMono)
  have e1 : IntKind.u64.wrap ((L.length : Int) - q) = (L.length : Int) - q := by simp [IntKind.wrap, IntKind.bits, IntKind.signed]; omega
  have e2 : decide ((L.length : Int) - q < n) = false := by simp; omega
  have e4 : decide ((n : Int) > (L.length : Int) - q) = false := by simp; omega
  have e3 := i64_small (m := n) (by omega)
  clear hx2
  go_wp2_with fail
  refine (next_ok H2.out n n rfl hn).mono ?_
  rintro e w3 ⟨rfl, h3, hx3⟩
  have hs := sub_src (n := n) h3.bytes hn hz
  have hln : ((L.drop q).take n).length = n := by rw [List.length_take, List.length_drop]; omega
  generalize cutV ad 1 q (q + n) c = vc at hs ⊢
  have Hs := Lib.hid hs
  have H3 := Lib.hid h3
  have Hx3 := Lib.hid (Hx2.out.trans' hx3)
  have Hln := Lib.hid hln
  clear hs h3 hx3 hln e1 e2 e3 e4
  go_wp2_with (at_builtin; refine wpList_append rfl _ _ _ rfl elB ⟨_, Tryz.underlying29, fun _ h => by cases h⟩ (Own.nil _ _ _) Hs.out rfl rfl (by omega) (by unfold maxLen; omega) ?_; intro v' w' hA; have HA := Lib.hid (madeAt_of Hx3.out H3.out Hln.out hA); clear hA)
  go_ret2
  exact HA.out
set_option maxRecDepth 100000 in
set_option maxHeartbeats 4000000 in
theorem read_bad (h : InIs w r ad c L p) {most : Nat} {b : BadD} (hm : most < 9223372036854775808) (hr : rdBytes L p most = .error b) :
    Calls Tryz.prog 125 #[.pointer (some ⟨r, 0, none⟩), .int .i64 most] w (Failed w (fun b => b = r) b.why b.at_ fun x => .tuple #[nilS, x]) := by
  have H := Lib.hid h
  have hl := h.len
  have hmx := max_zero most
  have hcv := most_wrap hm
  have hbn := bad_neq
  clear h hm
  cases hN : rdNumber L p most with
  | error b' =>
    have : b' = b := by unfold rdBytes at hr; rw [hN] at hr; cases hr; rfl
    subst this
    have HN := Lib.hid hN
    clear hN hr
    go_enter Tryz.func125, Tryz.ntmps125
    go_wp2_with fail
    refine (in_number_bad H.out HN.out).mono ?_
    rintro e w1 ⟨a, rfl, h1⟩
    have H1 := Lib.hid h1
    clear h1
    unfold badV
    go_wp2
    go_ret2
    exact ⟨a, rfl, H1.out⟩
  | ok x =>
    obtain ⟨n, q⟩ := x
    have hq : ¬ q + n ≤ L.length ∧ b = ⟨20, q⟩ := by
      unfold rdBytes at hr
      rw [hN] at hr
      simp only [rdRaw] at hr
      split at hr
      · cases hr
      · cases hr; exact ⟨‹_›, rfl⟩
    obtain ⟨hq, rfl⟩ := hq
    obtain ⟨k, hk1, hk2, hk3, hk4, hk5, hk6⟩ := Go.X.rdNumber_ok hN
    have hqL : q ≤ L.length := by have := H.out.pos; omega
    have e1 : IntKind.u64.wrap ((L.length : Int) - q) = (L.length : Int) - q := by simp [IntKind.wrap, IntKind.bits, IntKind.signed]; omega
    have e2 : decide ((L.length : Int) - q < n) = true := by simp; omega
    have e4 : decide ((n : Int) > (L.length : Int) - q) = true := by simp; omega
    have HN := Lib.hid hN
    clear hN hr hk1 hk2 hk3 hk4 hk5 hk6 hq
    go_enter Tryz.func125, Tryz.ntmps125
    go_wp2_with fail
    refine (in_number_ok H.out HN.out).mono ?_
    rintro e w1 ⟨rfl, h1, hx1⟩
    have H1 := Lib.hid h1
    have Hx1 := Lib.hid hx1
    clear h1 hx1 hmx hcv
    go_wp2_with fail
    refine (left_any H1.out).mono ?_
    rintro e w2 ⟨rfl, hx2⟩
    have H2 := Lib.hid (H1.out.ext0' hx2)
    have Hx2 := Lib.hid (Hx1.out.trans' hx2.nilMono)
    have c1 := H2.out.row.cell (i := 1) rfl
    clear hx2
    go_wp2_with fail
    refine (fail_any H2.out.row 20 q _ _ rfl rfl).mono ?_
    rintro e w' ⟨a, rfl, h1, h2, h3⟩
    have Hp : Hid (w.heap.size ≤ a ∧ BadAt w' a 20 q ∧ Ext (fun b => b = r) w w') := ⟨Nat.le_trans Hx2.out.size h1, h2, Hx2.out.trans' h3⟩
    clear h1 h2 h3
    go_wp2
    go_ret2
    exact ⟨a, rfl, Hp.out⟩
/-- Bytes: what a reader's Bytes answers. -/
theorem rdBytes_ok {l : Bytes} {most x : Nat} (hr : rdBytes L p most = .ok (l, x)) : ∃ n q, rdNumber L p most = .ok (n, q) ∧ q + n ≤ L.length ∧ l = (L.drop q).take n ∧ x = q + n := by
  unfold rdBytes at hr
  split at hr
  · cases hr
  · rename_i n q hn
    simp only [rdRaw] at hr
    split at hr
    · cases hr; exact ⟨n, q, hn, ‹_›, rfl, rfl⟩
    · cases hr
set_option maxHeartbeats 1000000 in
theorem in_bytes_ok (h : InIs w r ad c L p) (hz : ad = none → c = 0) {most x : Nat} {l : Bytes} (hm : most < 9223372036854775808) (hr : rdBytes L p most = .ok (l, x)) :
    Calls Tryz.prog 84 #[.pointer (some ⟨r, 0, none⟩), .int .i64 most] w (MadeAt w r ad c L x l) := by
  obtain ⟨n, q, hn, hq, rfl, rfl⟩ := rdBytes_ok hr
  have hc := Lib.hid (read_ok h hz hm hn hq)
  clear hr h hn hm hz
  go_enter Tryz.func84, Tryz.ntmps84
  go_wp2_with fail
  refine hc.out.mono ?_
  rintro e w1 ⟨v, rfl, h1⟩
  have H1 := Lib.hid h1
  clear h1
  go_wp2
  go_ret2
  exact ⟨v, rfl, H1.out⟩
set_option maxHeartbeats 1000000 in
theorem in_bytes_bad (h : InIs w r ad c L p) {most : Nat} {b : BadD} (hm : most < 9223372036854775808) (hr : rdBytes L p most = .error b) :
    Calls Tryz.prog 84 #[.pointer (some ⟨r, 0, none⟩), .int .i64 most] w (Failed w (fun b => b = r) b.why b.at_ fun x => .tuple #[nilS, x]) := by
  have hc := Lib.hid (read_bad h hm hr)
  clear hr h hm
  go_enter Tryz.func84, Tryz.ntmps84
  go_wp2_with fail
  refine hc.out.mono ?_
  rintro e w1 ⟨v, rfl, h1⟩
  have H1 := Lib.hid h1
  clear h1
  go_wp2
  go_ret2
  exact ⟨v, rfl, H1.out⟩
end
end Go.Proofs.YtggiknehmoaimaaGreatDoor
