/-
  Proved: the card of MeshNames: called in any world, the law returns true, and nothing that was there has turned. Condition: the listed variable reads as the program's own text lays it (tied).
-/
import Derived.Test.YtbpjgdmmijehnaaDoorLift
import Derived.Test.YtbpjgdmmijehnaaDoorFixed
import Derived.Test.YtbpjgdmmijehnaaDoorRows
import Derived.Test.YtbpjgdmmijehnaaDoorCards
import Derived.Test.YtbpjgdmmijehnaaDoorTie
namespace Go.Proofs.YtbpjgdmmijehnaaDoor
open Go Go.RowKit Go.X Go.ChangeShapes Go.WideShapes

def laid1 : List (String × DataW Unit) := [("pleach/mesh.ErrIdle", Rows.laid_pleach_mesh_ErrIdle)]
theorem Tryd.own : ownKnob Tryd.prog.godebug = none := by kernel_rfl
theorem Tryd.laidOut : laidOutB Tryd.prog = true := by kernel_rfl
theorem gIdle : Tryd.prog.globalNamed "pleach/mesh.ErrIdle" = some 0 := by kernel_rfl
theorem tIdle : (Tryd.prog.globals[0]?).map (·.type) = some 24 := by kernel_rfl
theorem star : "*" ++ "errors.errorString" = "*errors.errorString" := by decide
theorem rowErr (u : TypeId) (h : Tryd.prog.typeName? 3 u = some "*errors.errorString") : u = 104 :=
  typeName_ptr_named (nm := "errors.errorString") (by rw [star]; kernel_rfl) (by kernel_rfl) (by decide) u (by rw [star]; exact h)
theorem cells121 : Tryd.prog.cellsOf 121 = 1 := by kernel_rfl
theorem cells9 : Tryd.prog.cellsOf 9 = 1 := by kernel_rfl

set_option maxRecDepth 100000 in
/-- The listed cell. -/
theorem idle_of_laid {W : World} (h : laidMetH Tryd.prog laid1 W) : ∃ idle, IdleAt W idle := by
  rw [MakeChecks.laidMetH_plain _ _ _ (by kernel_rfl)] at h
  obtain ⟨ps, ⟨g0, t0, cs0, f0, p0, q0, hg0, ht0, hv0, hd0, _, e0⟩, hnd, hrows⟩ := h
  obtain rfl := Option.some.inj (gIdle.symm.trans hg0)
  obtain rfl := Option.some.inj (tIdle.symm.trans ht0)
  subst e0
  obtain ⟨l0⟩ := cs0
  have ok0 : ∀ u v, l0 = [.iface u v] → Value.okWide Tryd.prog W .any 0 u v := fun u v e => by
    subst e
    exact (hrows 0 0 (by simp [MemPlace.row])).2 u v (by simpa using World.var?_cell hg0 hv0 0)
  obtain ⟨a0, s0, rfl, hc0, hs0, hz0, rfl⟩ := errorString_of_trod Tryd.underlying24 rowErr Tryd.underlying104 Tryd.underlying121 rfl rfl Tryd.underlying9 cells121 cells9 hd0 ok0
  exact ⟨_, ⟨a0, rfl⟩, by simpa using World.var?_cell gIdle hv0 0⟩

set_option maxRecDepth 100000 in
theorem door_met (os : Os) (args : Array Value) : laidMetH Tryd.prog laid1 ((World.doorLaid Tryd.prog 28 os).forCall (fun _ _ => 0) ⟨#[], args, []⟩).memory :=
  laidMetH_of_parts3 (fuel := 8) (laidMet_of_run' 8 (by kernel_rfl) (by kernel_rfl)) (by kernel_rfl) (by kernel_rfl)

set_option maxRecDepth 100000 in
theorem names_lifted (os : Os) (started : os.Started) (H : Type) (enc : TypeId × Value → H) :
    ReturnsInHanded {} Tryd.checked os 3 .any (fun w args => (Rows.meshNamesSpec.pre enc Tryd.prog Tryd.f3 [] false w args ∧ laidMetH Tryd.prog laid1 w) ∧ sizedMet enc Tryd.prog Tryd.f3 (OpenSpec.ofChange Rows.meshNamesSpec) false w args)
      (Rows.meshNamesSpec.post enc Tryd.prog Tryd.f3 false true false false) :=
  law_lift (C := Tryd.checked) (laid := laid1) (tb := 4) Tryd.own started (by kernel_rfl) Tryd.func3 Tryd.laidOut rfl (by kernel_rfl) Tryd.underlying4
    (fun ds h => by
      match ds, h with
      | [], _ => rfl)
    (by kernel_rfl) 28 #[] 8 (World.shaped_of_RefB (by kernel_rfl) (by kernel_rfl)) (by kernel_rfl) (by kernel_rfl) (by kernel_rfl) (door_met os _)
    fun W base args ds ps hval hA hlt hwt hL => by
      have hA' : DataW.TrodAll enc Tryd.prog W 0 (fun _ => true) true Tryd.f3.params.toList args.toList ds ps := hA
      rw [Tryd.params3] at hA'
      obtain ⟨rfl, rfl, rfl⟩ := trodAll_none hA'
      obtain ⟨idle, hi⟩ := idle_of_laid hL
      exact names_any hi

theorem names_holds : Rows.MeshNamesSaid :=
  OpenClaim.holds_of_wide 3 Tryd.f3 rfl rfl rfl rfl rfl rfl rfl ⟨rfl, rfl, rfl, rfl, rfl⟩ rfl rfl rfl rfl rfl (by kernel_rfl) Tryd.func3 (by kernel_rfl)
    (of_decide_eq_true (by kernel_rfl)) (by unfold Func.isWrapper; rw [if_neg (by decide +kernel)]; exact ⟨rfl, rfl⟩)
    (fun os started H enc _ => names_lifted os started H enc)

theorem meshNames_card : Rows.MeshNamesCardSaid :=
  Claim7.holds_tied_plain_at .later [] [.sentinel] true (true, "1410fb78c3261e4b30306e72ebc828ecdafa37d41a11c37f2817a8f0b676521e") true
    names_holds (fun _ h => by cases h) (by kernel_rfl) (fun _ h => by cases h) meshNames_row_tie rfl ⟨rfl, rfl⟩ (by kernel_rfl) rfl
    (fun f fn hf hfn => by
      obtain rfl : f = 3 := Option.some.inj ((show Tryd.prog.funcNamed "pleach/pleachlaw21.MeshNames" = some 3 by kernel_rfl).symm.trans hf) |>.symm
      obtain rfl : fn = Tryd.f3 := (Option.some.inj (Tryd.func3.symm.trans hfn)).symm
      exact ⟨by kernel_rfl, fun j t ht => by
        rw [Tryd.params3] at ht
        simp at ht⟩)
    (by kernel_rfl)
end Go.Proofs.YtbpjgdmmijehnaaDoor
