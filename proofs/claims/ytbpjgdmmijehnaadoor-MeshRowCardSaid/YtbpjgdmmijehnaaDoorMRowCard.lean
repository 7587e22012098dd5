/-
  Proved: the card of MeshRow: whatever the input, the law returns true, and nothing that was there has turned. Condition: the listed variable reads as the program's own text lays it (tied).
-/
import Derived.Test.YtbpjgdmmijehnaaDoorMRowWalk
import Derived.SizedLaws
namespace Go.Proofs.YtbpjgdmmijehnaaDoor
open Go Go.RowKit Go.X Go.ChangeShapes Go.WideShapes

theorem cells5' : Tryd.prog.cellsOf 5 = 1 := by kernel_rfl
theorem cells32 : Tryd.prog.cellsOf 32 = 1 := by kernel_rfl
theorem cells4 : Tryd.prog.cellsOf 4 = 1 := by kernel_rfl
set_option maxRecDepth 100000 in
theorem arg_lists {H : Type} {enc : TypeId × Value → H} {W : World} {v : Value} {d : DataW H} {p : List MemPlace} {base : Nat} (hv : Value.okWide Tryd.prog W .any base 25 v)
    (h : DataW.Trod enc Tryd.prog W 0 (fun _ => true) true 25 v d p) : ∃ L, ListsAt W v L ∧ (L.length = 0 ∨ ∃ el spare, d = .slice el spare ∧ el.length = L.length) := by
  obtain ⟨a, len, cap, rfl⟩ := okWide_slice Tryd.underlying25 hv
  obtain ⟨fuel, h⟩ := h
  obtain ⟨v, l, e, h1, h2⟩ := open_lists Tryd.underlying25 cells32 Tryd.underlying32 Tryd.underlying5 cells5' h
  have : v = .slice a len cap := by simpa [Value.cells] using e.symm
  subst this
  exact ⟨l, h1, h2⟩
set_option maxRecDepth 100000 in
theorem arg_bools {H : Type} {enc : TypeId × Value → H} {W : World} {v : Value} {d : DataW H} {p : List MemPlace} {base : Nat} (hv : Value.okWide Tryd.prog W .any base 26 v)
    (h : DataW.Trod enc Tryd.prog W 0 (fun _ => true) true 26 v d p) : ∃ L, BoolsAt W v L := by
  obtain ⟨a, len, cap, rfl⟩ := okWide_slice Tryd.underlying26 hv
  obtain ⟨fuel, h⟩ := h
  obtain ⟨v, l, e, h1⟩ := open_bools Tryd.underlying26 cells4 Tryd.underlying4 h
  have : v = .slice a len cap := by simpa [Value.cells] using e.symm
  subst this
  exact ⟨l, h1⟩

set_option maxRecDepth 100000 in
theorem row_lifted (os : Os) (started : os.Started) (H : Type) (enc : TypeId × Value → H) :
    ReturnsInHanded {} Tryd.checked os 4 .any (fun w args => (Rows.meshRowSpec.pre enc Tryd.prog Tryd.f4 [] false w args ∧ laidMetH Tryd.prog laid1 w) ∧ sizedMet enc Tryd.prog Tryd.f4 (OpenSpec.ofChange Rows.meshRowSpec) false w args)
      (Rows.meshRowSpec.post enc Tryd.prog Tryd.f4 false true false false) :=
  law_lift (C := Tryd.checked) (laid := laid1) (tb := 4) Tryd.own started (by kernel_rfl) Tryd.func4 Tryd.laidOut rfl (by kernel_rfl) Tryd.underlying4
    (fun ds h => by
      match ds, h with
      | [_, _, _], _ => rfl)
    (by kernel_rfl) 28 #[.slice none 0 0, .slice none 0 0, .slice none 0 0] 8 (World.shaped_of_RefB (by kernel_rfl) (by kernel_rfl)) (by kernel_rfl) (by kernel_rfl) (by kernel_rfl) (door_met os _)
    fun W base args ds ps hval0 hA0 hlt hwt0 hL => by
      have hval : ∀ (j : Nat) t v, Tryd.f4.params[j]? = some t → args[j]? = some v → Value.okWide Tryd.prog W .any base t v := hval0
      have hA : DataW.TrodAll enc Tryd.prog W 0 (fun _ => true) true Tryd.f4.params.toList args.toList ds ps := hA0
      have hwt : (DataW.weightsEach Tryd.prog Tryd.f4.params.toList ds).all (· ≤ reachBytes) = true := hwt0
      rw [Tryd.params4] at hA hval hwt
      obtain ⟨v0, l0, d0, e0, p0, q0, ha0, rfl, rfl, h0, hA⟩ := trodAll_cons hA
      obtain ⟨v1, l1, d1, e1, p1, q1, rfl, rfl, rfl, h1, hA⟩ := trodAll_cons hA
      obtain ⟨v2, l2, d2, e2, p2, q2, rfl, rfl, rfl, h2, hA⟩ := trodAll_cons hA
      obtain ⟨rfl, rfl, rfl⟩ := trodAll_nil hA
      have ha : args = #[v0, v1, v2] := Array.ext' ha0
      subst ha
      obtain ⟨L, hl, hd⟩ := arg_lists (hval 0 25 v0 rfl rfl) h0
      obtain ⟨O, ho, _⟩ := arg_lists (hval 1 25 v1 rfl rfl) h1
      obtain ⟨T, ht⟩ := arg_bools (hval 2 26 v2 rfl rfl) h2
      obtain ⟨idle, hi⟩ := idle_of_laid hL
      refine row_any hi hl ho ht ?_
      rcases hd with hd | ⟨el, spare, rfl, hd⟩
      · omega
      · have := sized_slice hwt (j := 0) rfl rfl Tryd.underlying25
        have hb : Tryd.prog.bytesOf 32 = 24 := by kernel_rfl
        rw [hb] at this
        have := reachBytes_lt
        omega

theorem row_holds : Rows.MeshRowSaid :=
  OpenClaim.holds_of_wide 4 Tryd.f4 rfl rfl rfl rfl rfl rfl rfl ⟨rfl, rfl, rfl, rfl, rfl⟩ rfl rfl rfl rfl rfl (by kernel_rfl) Tryd.func4 (by kernel_rfl)
    (of_decide_eq_true (by kernel_rfl)) (by unfold Func.isWrapper; rw [if_neg (by decide +kernel)]; exact ⟨rfl, rfl⟩)
    (fun os started H enc _ => row_lifted os started H enc)

theorem meshRow_card : Rows.MeshRowCardSaid :=
  Claim7.holds_tied_plain_at .later [] [.sentinel] true (true, "1410fb78c3261e4b30306e72ebc828ecdafa37d41a11c37f2817a8f0b676521e") true
    row_holds (fun _ h => by cases h) (by kernel_rfl) (fun _ h => by cases h) meshRow_row_tie rfl ⟨rfl, rfl⟩ (by kernel_rfl) rfl
    (fun f fn hf hfn => by
      obtain rfl : f = 4 := Option.some.inj ((show Tryd.prog.funcNamed "pleach/pleachlaw21.MeshRow" = some 4 by kernel_rfl).symm.trans hf) |>.symm
      obtain rfl : fn = Tryd.f4 := (Option.some.inj (Tryd.func4.symm.trans hfn)).symm
      exact ⟨by kernel_rfl, fun j t ht => by
        have h0 : (Tryd.f4.params.toList.all fun t => !Tryd.prog.wantsStandIn t) = true := by kernel_rfl
        have hm : t ∈ Tryd.f4.params.toList := by simpa using Array.mem_of_getElem? ht
        have h1 : Tryd.prog.wantsStandIn t = false := by simpa using List.all_eq_true.1 h0 t hm
        exact h1⟩)
    (by kernel_rfl)
end Go.Proofs.YtbpjgdmmijehnaaDoor
