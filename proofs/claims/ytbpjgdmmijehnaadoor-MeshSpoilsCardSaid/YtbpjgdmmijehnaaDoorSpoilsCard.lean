/-
  Proved: the card of MeshSpoils: whatever the input, the law returns true, and nothing that was there has turned. Condition: the listed variable reads as the program's own text lays it (tied).
-/
import Derived.Test.YtbpjgdmmijehnaaDoorSpoils
namespace Go.Proofs.YtbpjgdmmijehnaaDoor
open Go Go.RowKit Go.X Go.ChangeShapes Go.WideShapes

theorem cells5 : Tryd.prog.cellsOf 5 = 1 := by kernel_rfl
set_option maxRecDepth 100000 in
theorem arg_bytes {H : Type} {enc : TypeId × Value → H} {W : World} {v : Value} {d : DataW H} {p : List MemPlace} {base : Nat} (hv : Value.okWide Tryd.prog W .any base 32 v)
    (h : DataW.Trod enc Tryd.prog W 0 (fun _ => true) true 32 v d p) : ∃ l, BytesAt W v l ∧ l.length ≤ maxLen := by
  obtain ⟨a, len, cap, rfl⟩ := okWide_slice Tryd.underlying32 hv
  obtain ⟨fuel, h⟩ := h
  obtain ⟨v, l, e, h1, h2⟩ := open_bytes Tryd.underlying32 Tryd.underlying5 cells5 h
  have : v = .slice a len cap := by simpa [Value.cells] using e.symm
  subst this
  exact ⟨l, h1, h2⟩

set_option maxRecDepth 100000 in
theorem spoils_lifted (os : Os) (started : os.Started) (H : Type) (enc : TypeId × Value → H) :
    ReturnsInHanded {} Tryd.checked os 5 .any (fun w args => (Rows.meshSpoilsSpec.pre enc Tryd.prog Tryd.f5 [] false w args ∧ laidMetH Tryd.prog laid1 w) ∧ sizedMet enc Tryd.prog Tryd.f5 (OpenSpec.ofChange Rows.meshSpoilsSpec) false w args)
      (Rows.meshSpoilsSpec.post enc Tryd.prog Tryd.f5 false true false false) :=
  law_lift (C := Tryd.checked) (laid := laid1) (tb := 4) Tryd.own started (by kernel_rfl) Tryd.func5 Tryd.laidOut rfl (by kernel_rfl) Tryd.underlying4
    (fun ds h => by
      match ds, h with
      | [_, _, _, _, _], _ => rfl)
    (by kernel_rfl) 28 #[.slice none 0 0, .slice none 0 0, .int .i64 0, .int .u8 0, .int .i64 0] 8 (World.shaped_of_RefB (by kernel_rfl) (by kernel_rfl)) (by kernel_rfl) (by kernel_rfl) (by kernel_rfl) (door_met os _)
    fun W base args ds ps hval0 hA0 hlt hwt hL => by
      have hval : ∀ (j : Nat) t v, Tryd.f5.params[j]? = some t → args[j]? = some v → Value.okWide Tryd.prog W .any base t v := hval0
      have hA : DataW.TrodAll enc Tryd.prog W 0 (fun _ => true) true Tryd.f5.params.toList args.toList ds ps := hA0
      rw [Tryd.params5] at hA hval
      obtain ⟨v0, l0, d0, e0, p0, q0, ha0, rfl, rfl, h0, hA⟩ := trodAll_cons hA
      obtain ⟨v1, l1, d1, e1, p1, q1, rfl, rfl, rfl, h1, hA⟩ := trodAll_cons hA
      obtain ⟨v2, l2, d2, e2, p2, q2, rfl, rfl, rfl, h2, hA⟩ := trodAll_cons hA
      obtain ⟨v3, l3, d3, e3, p3, q3, rfl, rfl, rfl, h3, hA⟩ := trodAll_cons hA
      obtain ⟨v4, l4, d4, e4, p4, q4, rfl, rfl, rfl, h4, hA⟩ := trodAll_cons hA
      obtain ⟨rfl, rfl, rfl⟩ := trodAll_nil hA
      have ha : args = #[v0, v1, v2, v3, v4] := Array.ext' ha0
      subst ha
      obtain ⟨b, hb, _⟩ := arg_bytes (hval 0 32 v0 rfl rfl) h0
      obtain ⟨o, ho, _⟩ := arg_bytes (hval 1 32 v1 rfl rfl) h1
      obtain ⟨x, rfl, _, _, _⟩ := open_int Tryd.underlying3 (hval 2 3 v2 rfl rfl) h2
      obtain ⟨y, rfl, _, _, hy⟩ := open_int Tryd.underlying5 (hval 3 5 v3 rfl rfl) h3
      obtain ⟨z, rfl, _, _, _⟩ := open_int Tryd.underlying3 (hval 4 3 v4 rfl rfl) h4
      obtain ⟨idle, hi⟩ := idle_of_laid hL
      have hy' := u8_of y hy
      rw [← hy']
      by_cases hl : 2097194 < b.length ∨ 2097194 < o.length
      · exact spoils_long hi hb ho x z (UInt8.ofNat y.toNat) hl
      · exact spoils_short hi hb ho x z (UInt8.ofNat y.toNat) (by omega) (by omega)

theorem spoils_holds : Rows.MeshSpoilsSaid :=
  OpenClaim.holds_of_wide 5 Tryd.f5 rfl rfl rfl rfl rfl rfl rfl ⟨rfl, rfl, rfl, rfl, rfl⟩ rfl rfl rfl rfl rfl (by kernel_rfl) Tryd.func5 (by kernel_rfl)
    (of_decide_eq_true (by kernel_rfl)) (by unfold Func.isWrapper; rw [if_neg (by decide +kernel)]; exact ⟨rfl, rfl⟩)
    (fun os started H enc _ => spoils_lifted os started H enc)

theorem meshSpoils_card : Rows.MeshSpoilsCardSaid :=
  Claim7.holds_tied_plain_at .later [] [.sentinel] true (true, "1410fb78c3261e4b30306e72ebc828ecdafa37d41a11c37f2817a8f0b676521e") true
    spoils_holds (fun _ h => by cases h) (by kernel_rfl) (fun _ h => by cases h) meshSpoils_row_tie rfl ⟨rfl, rfl⟩ (by kernel_rfl) rfl
    (fun f fn hf hfn => by
      obtain rfl : f = 5 := Option.some.inj ((show Tryd.prog.funcNamed "pleach/pleachlaw21.MeshSpoils" = some 5 by kernel_rfl).symm.trans hf) |>.symm
      obtain rfl : fn = Tryd.f5 := (Option.some.inj (Tryd.func5.symm.trans hfn)).symm
      exact ⟨by kernel_rfl, fun j t ht => by
        have h0 : (Tryd.f5.params.toList.all fun t => !Tryd.prog.wantsStandIn t) = true := by kernel_rfl
        have hm : t ∈ Tryd.f5.params.toList := by simpa using Array.mem_of_getElem? ht
        have h1 : Tryd.prog.wantsStandIn t = false := by simpa using List.all_eq_true.1 h0 t hm
        exact h1⟩)
    (by kernel_rfl)
end Go.Proofs.YtbpjgdmmijehnaaDoor
