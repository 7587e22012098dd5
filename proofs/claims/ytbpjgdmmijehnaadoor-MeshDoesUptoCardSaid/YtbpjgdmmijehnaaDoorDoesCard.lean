/-
  Proved: the second form's card of MeshDoes: where what it reads is of bulk at most 1048576, the law returns true, and nothing that was there has turned. Condition: the listed variable reads as the program's own text lays it (tied).
-/
import Derived.Test.YtbpjgdmmijehnaaDoorDoes
import Derived.Test.YtbpjgdmmijehnaaDoorCards
import Derived.Test.YtbpjgdmmijehnaaDoorTie
import Derived.SizedLaws
import Derived.Deep.DeepHandedRow
import Derived.Deep.DeepWitnessRowRef
namespace Go.Proofs.YtbpjgdmmijehnaaDoor
open Go Go.RowKit Go.X Go.ChangeShapes Go.WideShapes

theorem bulk_part {H : Type} {d : DataW H} : ∀ {l : List (DataW H)}, d ∈ l → Rows.uptoBulk d ≤ Rows.uptoBulkAll l
  | [], h => by cases h
  | e :: r, h => by
    rw [Rows.uptoBulkAll]
    rcases List.mem_cons.1 h with h | h
    · subst h; omega
    · have := bulk_part h; omega
theorem bulk_one {H : Type} (d : DataW H) : 1 ≤ Rows.uptoBulk d := by
  cases d <;> first | (rename_i l; cases l <;> simp [Rows.uptoBulk]) | simp [Rows.uptoBulk]
theorem bulk_length {H : Type} : ∀ l : List (DataW H), l.length ≤ Rows.uptoBulkAll l
  | [] => by simp
  | d :: r => by have := bulk_length r; have := bulk_one d; rw [Rows.uptoBulkAll, List.length_cons]; omega
theorem c3 : Tryd.prog.cellsOf 3 = 1 := by kernel_rfl
theorem c5 : Tryd.prog.cellsOf 5 = 1 := by kernel_rfl
theorem c32 : Tryd.prog.cellsOf 32 = 1 := by kernel_rfl
theorem c53 : Tryd.prog.cellsOf 53 = 8 := by kernel_rfl
theorem sz53 : ∃ fs : Array Field, Tryd.prog.underlying 53 = some (.struct fs) ∧ fs.map (fun f => (f.type, f.offset)) = #[(3, 0), (3, 1), (3, 2), (3, 3), (3, 4), (3, 5), (5, 6), (32, 7)] := by
  have h : (Tryd.prog.underlying 53).map (fun d => match d with | .struct fs => fs.map (fun f => (f.type, f.offset)) | _ => #[]) = some #[(3, 0), (3, 1), (3, 2), (3, 3), (3, 4), (3, 5), (5, 6), (32, 7)] := by kernel_rfl
  cases hu : Tryd.prog.underlying 53 with
  | none => rw [hu] at h; cases h
  | some d =>
    rw [hu] at h
    cases d with
    | struct fs => exact ⟨fs, rfl, by simpa using h⟩
    | _ => simp at h
section
variable {H : Type} {enc : TypeId × Value → H} {W : World} {held : Bool} {sp : Nat → Bool}
theorem open_stepD {fuel : Nat} {cs : List Value} {x : DataW H × List MemPlace} (h : DataW.trod enc Tryd.prog W 0 sp held fuel 53 cs = some x) (hb : Rows.uptoBulk x.1 ≤ 1048576) :
    ∃ (s : StepD) (vb : Value), s.b.length ≤ 1048576 ∧ BytesAt W vb s.b ∧ cs = [.int .i64 s.kind, .int .i64 s.x, .int .i64 s.y, .int .i64 s.i, .int .i64 s.j, .int .i64 s.n, .int .u8 s.by_.toNat, vb] := by
  obtain ⟨fs, hu, hfs⟩ := sz53
  obtain ⟨xs, n, _, rfl, hl, hlen, hf⟩ := DataW.trod_struct hu h
  rw [c53] at hl
  have hsz : fs.size = 8 := by have := congrArg Array.size hfs; simpa using this
  have get : ∀ (i : Nat) (t o : Nat), (#[(3, 0), (3, 1), (3, 2), (3, 3), (3, 4), (3, 5), (5, 6), (32, 7)] : Array (Nat × Nat))[i]? = some (t, o) → DataW.trod enc Tryd.prog W 0 sp held n t ((cs.drop o).take (Tryd.prog.cellsOf t)) = xs[i]? := fun i t o hi => by
    rw [← hfs] at hi
    simp only [Array.getElem?_map, Option.map_eq_some_iff, Prod.mk.injEq] at hi
    obtain ⟨f, hf1, rfl, rfl⟩ := hi
    exact hf i f hf1
  have hx : ∀ i, i < 8 → ∃ y, xs[i]? = some y := fun i hi => ⟨_, List.getElem?_eq_getElem (by omega)⟩
  have gint : ∀ i, i < 6 → ∃ m : Int, cs[i]? = some (.int .i64 m) := fun i hi => by
    obtain ⟨y, hy⟩ := hx i (by omega)
    have h1 := get i 3 i (by match i, hi with | 0, _ => rfl | 1, _ => rfl | 2, _ => rfl | 3, _ => rfl | 4, _ => rfl | 5, _ => rfl)
    rw [c3, hy] at h1
    obtain ⟨m, hm, _⟩ := DataW.trod_int (k := .i64) (by kernel_rfl) h1
    refine ⟨m, ?_⟩
    have := congrArg (fun l => l[0]?) hm
    simpa [List.getElem?_take, List.getElem?_drop] using this
  obtain ⟨m0, e0⟩ := gint 0 (by omega)
  obtain ⟨m1, e1⟩ := gint 1 (by omega)
  obtain ⟨m2, e2⟩ := gint 2 (by omega)
  obtain ⟨m3, e3⟩ := gint 3 (by omega)
  obtain ⟨m4, e4⟩ := gint 4 (by omega)
  obtain ⟨m5, e5⟩ := gint 5 (by omega)
  obtain ⟨y6, hy6⟩ := hx 6 (by omega)
  have h6 := get 6 5 6 rfl
  rw [c5, hy6] at h6
  obtain ⟨m6, hm6, _, hw6⟩ := DataW.trod_int (k := .u8) (by kernel_rfl) h6
  have e6 : cs[6]? = some (.int .u8 m6) := by
    have := congrArg (fun l => l[0]?) hm6
    simpa [List.getElem?_take, List.getElem?_drop] using this
  obtain ⟨y7, hy7⟩ := hx 7 (by omega)
  have h7 := get 7 32 7 rfl
  rw [c32, hy7] at h7
  obtain ⟨vb, l, hv, hbytes, hlm⟩ := open_bytes Tryd.underlying32 Tryd.underlying5 c5 h7
  have e7 : cs[7]? = some vb := by
    have := congrArg (fun l => l[0]?) hv
    simpa [List.getElem?_take, List.getElem?_drop] using this
  have hlb : l.length ≤ 1048576 := by
    have h1 : Rows.uptoBulk y7.1 ≤ Rows.uptoBulkAll (xs.map (·.1)) := bulk_part (List.mem_map.2 ⟨y7, List.mem_of_getElem? hy7, rfl⟩)
    have h2 : Rows.uptoBulk (DataW.agg (xs.map (·.1))) = Rows.uptoBulkAll (xs.map (·.1)) + 1 := by rw [Rows.uptoBulk]
    rcases DataW.trod_slice Tryd.underlying32 h7 with ⟨h8, _⟩ | ⟨a, len, cap, elems, rest, n2, _, h8, h9, _, hle, _, hel, _⟩
    · rw [hv] at h8
      obtain ⟨ad, c, e, _⟩ := hbytes.2.1
      simp only [List.cons.injEq, and_true] at h8
      rw [e] at h8
      injection h8 with _ h8
      omega
    · rw [hv] at h8
      obtain ⟨ad, c, e, _⟩ := hbytes.2.1
      simp only [List.cons.injEq, and_true] at h8
      rw [e] at h8
      injection h8 with _ h8
      have h3 : Rows.uptoBulk (DataW.slice (elems.map (·.1)) (rest.map (·.1))) = Rows.uptoBulkAll (elems.map (·.1)) + Rows.uptoBulkAll (rest.map (·.1)) + 1 := by rw [Rows.uptoBulk]
      rw [h9, h3] at h1
      have := bulk_length (elems.map (·.1))
      rw [List.length_map] at this
      simp only at hb
      omega
  refine ⟨⟨m0, m1, m2, m3, m4, m5, UInt8.ofNat m6.toNat, l⟩, vb, hlb, hbytes, ?_⟩
  rw [u8_of m6 hw6]
  apply List.ext_getElem?
  intro i
  match i with
  | 0 => rw [e0]; rfl
  | 1 => rw [e1]; rfl
  | 2 => rw [e2]; rfl
  | 3 => rw [e3]; rfl
  | 4 => rw [e4]; rfl
  | 5 => rw [e5]; rfl
  | 6 => rw [e6]; rfl
  | 7 => rw [e7]; rfl
  | i + 8 => rw [List.getElem?_eq_none (by omega), List.getElem?_eq_none (by simp)]
theorem open_script {fuel : Nat} {cs : List Value} {x : DataW H × List MemPlace} (h : DataW.trod enc Tryd.prog W 0 sp held fuel 43 cs = some x) (hb : Rows.uptoBulk x.1 ≤ 1048576) : ∃ v S, cs = [v] ∧ ScriptAt W v S := by
  have h43 : Tryd.prog.underlying 43 = some (.slice 53) := by kernel_rfl
  rcases DataW.trod_slice h43 h with ⟨rfl, rfl⟩ | ⟨a, len, cap, elems, rest, n, _, rfl, rfl, _, hle, hcap, hlen, hel, _, _⟩
  · exact ⟨_, [], rfl, none, 0, rfl, by simp [maxLen], fun i s hs => by simp at hs⟩
  have hpos : ∀ i, i < len → ∃ s : StepD, s.b.length ≤ 1048576 ∧ ∃ vb, BytesAt W vb s.b ∧ ∀ j v, [Value.int .i64 s.kind, .int .i64 s.x, .int .i64 s.y, .int .i64 s.i, .int .i64 s.j, .int .i64 s.n, .int .u8 s.by_.toNat, vb][j]? = some v → W.cell? ((a.add (i * 8)).add j) = some v := fun i hi => by
    have hi' := hel i hi
    rw [c53, List.getElem?_eq_getElem (by omega), Option.bind_eq_some_iff] at hi'
    obtain ⟨cs', hcs, hy⟩ := hi'
    obtain ⟨_, hl, hc⟩ := World.cells?_some hcs
    have hbi : Rows.uptoBulk (elems[i]'(by omega)).1 ≤ 1048576 := by
      have h1 : Rows.uptoBulk (elems[i]'(by omega)).1 ≤ Rows.uptoBulkAll (elems.map (·.1)) := bulk_part (List.mem_map.2 ⟨_, List.getElem_mem _, rfl⟩)
      have h2 : Rows.uptoBulk (DataW.slice (elems.map (·.1)) (rest.map (·.1))) = Rows.uptoBulkAll (elems.map (·.1)) + Rows.uptoBulkAll (rest.map (·.1)) + 1 := by rw [Rows.uptoBulk]
      have h3 : Rows.uptoBulk (DataW.slice (elems.map (·.1)) (rest.map (·.1))) ≤ 1048576 := hb
      omega
    obtain ⟨s, vb, hs, hbs, rfl⟩ := open_stepD hy hbi
    refine ⟨s, hs, vb, hbs, fun j v hj => ?_⟩
    have hj8 : j < 8 := by have := (List.getElem?_eq_some_iff.1 hj).1; simpa using this
    rw [hc j hj8, hj]
  obtain ⟨S, hS, hp⟩ := choose_list (p := fun i (s : StepD) => s.b.length ≤ 1048576 ∧ ∃ b o vb, some a = some (⟨b, o, none⟩ : Addr) ∧ BytesAt W vb s.b ∧
    W.cell? ⟨b, o + i * 8, none⟩ = some (.int .i64 s.kind) ∧ W.cell? ⟨b, o + i * 8 + 1, none⟩ = some (.int .i64 s.x) ∧ W.cell? ⟨b, o + i * 8 + 2, none⟩ = some (.int .i64 s.y) ∧ W.cell? ⟨b, o + i * 8 + 3, none⟩ = some (.int .i64 s.i) ∧
    W.cell? ⟨b, o + i * 8 + 4, none⟩ = some (.int .i64 s.j) ∧ W.cell? ⟨b, o + i * 8 + 5, none⟩ = some (.int .i64 s.n) ∧ W.cell? ⟨b, o + i * 8 + 6, none⟩ = some (.int .u8 s.by_.toNat) ∧ W.cell? ⟨b, o + i * 8 + 7, none⟩ = some vb) len fun i hi => by
    have hs : a.spot = none := by
      obtain ⟨s0, _, vb0, _, hc0⟩ := hpos 0 (by omega)
      have := hc0 0 _ rfl
      rw [Nat.zero_mul] at this
      have e : (a.add 0).add 0 = a.add 0 := by simp [Addr.add]
      rw [e] at this
      exact addr_spot this
    obtain ⟨s, hsb, vb, hbs, hc⟩ := hpos i hi
    obtain ⟨b, o, sp⟩ := a
    cases hs
    refine ⟨s, hsb, b, o, vb, rfl, hbs, ?_, ?_, ?_, ?_, ?_, ?_, ?_, ?_⟩
    · have := hc 0 _ rfl; rwa [add_lit, add_lit] at this
    · have := hc 1 _ rfl; rwa [add_lit, add_lit] at this
    · have := hc 2 _ rfl; rwa [add_lit, add_lit] at this
    · have := hc 3 _ rfl; rwa [add_lit, add_lit] at this
    · have := hc 4 _ rfl; rwa [add_lit, add_lit] at this
    · have := hc 5 _ rfl; rwa [add_lit, add_lit] at this
    · have := hc 6 _ rfl; rwa [add_lit, add_lit] at this
    · have := hc 7 _ rfl; rwa [add_lit, add_lit] at this
  subst hS
  exact ⟨_, S, rfl, some a, cap, rfl, by omega, hp⟩
end

set_option maxRecDepth 100000 in
theorem does_lifted (os : Os) (started : os.Started) (H : Type) (enc : TypeId × Value → H) (F : Stop.Interp) :
    ReturnsInHanded {} Tryd.checked os 6 .any ((Rows.OpenSpec.upto Rows.meshDoesSpec).preRow enc Tryd.prog Tryd.f6 Rows.meshDoesUptoRow.domain false Rows.meshDoesUptoRow.laid) (((Rows.OpenSpec.upto Rows.meshDoesSpec).at F).post enc Tryd.prog Tryd.f6 false true false false) := by
  have hx : DataW.whole enc Tryd.prog ((World.doorLaid Tryd.prog 28 os).forCall (fun _ _ => 0) ⟨#[], #[.int .i64 0, .int .i64 0, .slice none 0 0], []⟩).memory Tryd.f6.params.toList Rows.meshDoesSpec.vars false #[Value.int .i64 0, Value.int .i64 0, Value.slice none 0 0].toList 8 = some ([.lit (.int .i64 0), .lit (.int .i64 0), .nil], [], []) := by kernel_rfl
  have hok : Input.okWideB Tryd.prog ((World.doorLaid Tryd.prog 28 os).forCall (fun _ _ => 0) ⟨#[], #[.int .i64 0, .int .i64 0, .slice none 0 0], []⟩) 6 ⟨#[], #[.int .i64 0, .int .i64 0, .slice none 0 0], []⟩ = true := by kernel_rfl
  refine returnsInHanded_of_row (C := Tryd.checked) (s := Rows.OpenSpec.upto Rows.meshDoesSpec) Tryd.own started (by kernel_rfl) Tryd.func6
    ⟨World.doorLaid Tryd.prog 28 os, fun _ _ => 0, ⟨#[], #[.int .i64 0, .int .i64 0, .slice none 0 0], []⟩, rfl, World.shaped_of_RefB (by kernel_rfl) (by kernel_rfl), (Input.okWide_of_okWideB (base := 0) hok).1, (Input.okWide_of_okWideB hok).2,
      OpenSpec.preRow_of_cond 8 hx (by kernel_rfl) (fun k hk => by cases hk; kernel_rfl) (by kernel_rfl) (door_met os _), by
        simp only [Assume.holds]
        exact ⟨by simp, by simp, fun _ => Modest.zero, by simp, by simp⟩⟩ ?_
  intro W base args ds gs before hval0 hW _ hcond _ hL _ _
  have hW' := hW
  obtain ⟨p, q, hA0, hV, rfl, hfz, hnd⟩ := hW
  obtain ⟨rfl, rfl⟩ := trodVars_none hV
  have hval : ∀ (j : Nat) t v, Tryd.f6.params[j]? = some t → args[j]? = some v → Value.okWide Tryd.prog W .any base t v := hval0
  have hA : DataW.TrodAll enc Tryd.prog W 0 (fun _ => true) true Tryd.f6.params.toList args.toList ds p := hA0
  have hk := hcond _ rfl
  rw [Tryd.params6] at hA hval
  obtain ⟨v0, l0, d0, e0, p0, q0, ha0, rfl, rfl, h0, hA⟩ := trodAll_cons hA
  obtain ⟨v1, l1, d1, e1, p1, q1, rfl, rfl, rfl, h1, hA⟩ := trodAll_cons hA
  obtain ⟨v2, l2, d2, e2, p2, q2, rfl, rfl, rfl, h2, hA⟩ := trodAll_cons hA
  obtain ⟨rfl, rfl, rfl⟩ := trodAll_nil hA
  have ha : args = #[v0, v1, v2] := Array.ext' ha0
  subst ha
  obtain ⟨n, rfl, _⟩ := open_int (k := .i64) (by kernel_rfl) (hval 0 3 v0 rfl rfl) h0
  obtain ⟨k, rfl, _⟩ := open_int (k := .i64) (by kernel_rfl) (hval 1 3 v1 rfl rfl) h1
  obtain ⟨a, len, cap, rfl⟩ := okWide_slice (e := 53) (by kernel_rfl) (hval 2 43 v2 rfl rfl)
  have hb : Rows.uptoBulk d2 ≤ 1048576 := by
    have := of_decide_eq_true hk
    simp only [List.append_nil, Rows.uptoBulkAll] at this
    omega
  obtain ⟨fuel, h2⟩ := h2
  obtain ⟨v, S, e, hS⟩ := open_script h2 hb
  have : v = .slice a len cap := by simpa [Value.cells] using e.symm
  subst this
  obtain ⟨idle, hi⟩ := idle_of_laid hL
  refine (does_any hi hS).mono fun e W' ⟨he, hx'⟩ => ?_
  subst he
  exact ⟨_, rfl, law_post (s := Rows.meshDoesSpec) (tb := 4) Tryd.laidOut hW' rfl (by kernel_rfl) Tryd.underlying4 rfl (fun t ht => by
    have h0 : (Tryd.f6.params.toList.all fun t => Tryd.prog.readableRec t && decide (t < Tryd.prog.types.size)) = true := by kernel_rfl
    have h := List.all_eq_true.1 h0 t ht
    simp only [Bool.and_eq_true, decide_eq_true_eq] at h
    exact h) (hx'.below (Nat.le_refl _) fun k h => h.elim)⟩

theorem does_holds : Rows.MeshDoesUptoSaid :=
  OpenClaim.holds_of_cond 6 Tryd.f6 rfl rfl rfl rfl rfl rfl rfl ⟨rfl, rfl, rfl, rfl, rfl⟩ rfl rfl rfl rfl rfl (by kernel_rfl) Tryd.func6 (by kernel_rfl)
    (of_decide_eq_true (by kernel_rfl)) (by unfold Func.isWrapper; rw [if_neg (by decide +kernel)]; exact ⟨rfl, rfl⟩)
    (fun os started H enc _ F => by rw [OpenClaim.pre_eq_preRow]; exact does_lifted os started H enc F)

theorem meshDoes_card : Rows.MeshDoesUptoCardSaid :=
  Claim7.holds_tied_plain_at .later [] _ _ _ _
    does_holds (fun _ h => by cases h) (by kernel_rfl) (fun _ h => by cases h) meshDoesUpto_row_tie rfl ⟨rfl, rfl⟩ (by kernel_rfl) rfl
    (fun f fn hf hfn => by
      obtain rfl : f = 6 := Option.some.inj ((show Tryd.prog.funcNamed "pleach/pleachlaw21.MeshDoes" = some 6 by kernel_rfl).symm.trans hf) |>.symm
      obtain rfl : fn = Tryd.f6 := (Option.some.inj (Tryd.func6.symm.trans hfn)).symm
      exact ⟨by kernel_rfl, fun j t ht => by
        have h0 : (Tryd.f6.params.toList.all fun t => !Tryd.prog.wantsStandIn t) = true := by kernel_rfl
        have hm : t ∈ Tryd.f6.params.toList := by simpa using Array.mem_of_getElem? ht
        have h1 : Tryd.prog.wantsStandIn t = false := by simpa using List.all_eq_true.1 h0 t hm
        exact h1⟩)
    (by kernel_rfl)
end Go.Proofs.YtbpjgdmmijehnaaDoor
