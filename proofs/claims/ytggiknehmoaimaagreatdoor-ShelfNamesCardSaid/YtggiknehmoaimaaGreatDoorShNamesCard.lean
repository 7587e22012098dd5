/-
  Proved: the card of ShelfNames: called in any world, the law returns true, and nothing that was there has turned. Condition: the listed variable reads as the program's own text lays it (tied).
-/
import Derived.Test.YtggiknehmoaimaaGreatDoorShNames
import Derived.Test.YtggiknehmoaimaaGreatDoorHandle
namespace Go.Proofs.YtggiknehmoaimaaGreatDoor
open Go Go.RowKit Go.X Go.ChangeShapes Go.WideShapes
set_option maxRecDepth 100000 in
theorem shelfNames_lifted (os : Os) (started : os.Started) (H : Type) (enc : TypeId × Value → H) :
    ReturnsInHanded {} Tryz.checked os 3 .any (fun w args => (Rows.shelfNamesSpec.pre enc Tryz.prog Tryz.f3 [] false w args ∧ laidMetH Tryz.prog laid1 w) ∧ sizedMet enc Tryz.prog Tryz.f3 (OpenSpec.ofChange Rows.shelfNamesSpec) false w args)
      (Rows.shelfNamesSpec.post enc Tryz.prog Tryz.f3 false true false false) :=
  law_lift (C := Tryz.checked) (laid := laid1) (tb := 4) Tryz.own started (by kernel_rfl) Tryz.func3 Tryz.laidOut rfl (by kernel_rfl) Tryz.underlying4
    (fun ds h => by
      match ds, h with
      | [], _ => rfl)
    (by kernel_rfl) 60 #[] 8 (World.shaped_of_RefB (by kernel_rfl) (by kernel_rfl)) (by kernel_rfl) (by kernel_rfl) (by kernel_rfl) (door_met os _)
    fun W base args ds ps hval hA hlt hwt hL => by
      have hA' : DataW.TrodAll enc Tryz.prog W 0 (fun _ => true) true Tryz.f3.params.toList args.toList ds ps := hA
      rw [Tryz.params3] at hA'
      obtain ⟨rfl, rfl, rfl⟩ := trodAll_none hA'
      exact shelf_names (handle_of_laid hL)

theorem shelfNames_holds : Rows.ShelfNamesSaid :=
  OpenClaim.holds_of_wide 3 Tryz.f3 rfl rfl rfl rfl rfl rfl rfl ⟨rfl, rfl, rfl, rfl, rfl⟩ rfl rfl rfl rfl rfl (by kernel_rfl) Tryz.func3 (by kernel_rfl)
    (of_decide_eq_true (by kernel_rfl)) (by unfold Func.isWrapper; rw [if_neg (by decide +kernel)]; exact ⟨rfl, rfl⟩)
    (fun os started H enc _ => shelfNames_lifted os started H enc)

theorem shelfNames_card : Rows.ShelfNamesCardSaid :=
  Claim7.holds_tied_plain_at .later [] [.handle] true (true, "55dcbe16debce0683d0ead54c0c8fded65618e8924c21a9753402c4190fb1f45") true
    shelfNames_holds (fun _ h => by cases h) (by kernel_rfl) (fun _ h => by cases h) shelfNames_row_tie rfl ⟨rfl, rfl⟩ (by kernel_rfl) rfl
    (fun f fn hf hfn => by
      obtain rfl : f = 3 := Option.some.inj ((show Tryz.prog.funcNamed "pleach/pleachlaw12.ShelfNames" = some 3 by kernel_rfl).symm.trans hf) |>.symm
      obtain rfl : fn = Tryz.f3 := (Option.some.inj (Tryz.func3.symm.trans hfn)).symm
      exact ⟨by kernel_rfl, fun j t ht => by
        rw [Tryz.params3] at ht
        simp at ht⟩)
    (by kernel_rfl)
end Go.Proofs.YtggiknehmoaimaaGreatDoor
