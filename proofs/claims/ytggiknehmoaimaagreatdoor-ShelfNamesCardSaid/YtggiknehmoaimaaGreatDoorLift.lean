/-
  From a walk to a row: what every law's row asks beyond its walk, proved once.
-/
import Derived.Test.YtggiknehmoaimaaGreatDoorBase
import Derived.ProofKit
import Derived.LaidMore
import Derived.LaidLaws
import Derived.LaidHandle
import Derived.OpenShut
import Derived.Stop.Joined
import Derived.JoinedOf
import Derived.ChangeCalls
namespace Go.X
open Go.RowKit Go.ChangeShapes Go.WideShapes

section
variable {H : Type} {enc : TypeId × Value → H} {P : Program}
theorem trodAll_stays (hl : laidOutB P = true) {W W' : World} (hb : Below W.heap.size W W') :
    ∀ {ts : List TypeId} {vs : List Value} {ds : List (DataW H)} {ps : List MemPlace}, (∀ t ∈ ts, P.readableRec t = true ∧ t < P.types.size) →
      DataW.TrodAll enc P W 0 (fun _ => true) true ts vs ds ps → (∀ x ∈ ps, x.block < W.heap.size) →
      DataW.TrodAll enc P W' 0 (fun b => decide (b < W.heap.size)) true ts vs ds ps
  | [], _, _, _, _, h, _ => by
    obtain ⟨rfl, rfl, rfl⟩ := trodAll_nil h
    exact trodAll_mk0
  | t :: ts, _, _, _, ht, h, hlt => by
    obtain ⟨v, vs1, d, ds1, a, b, rfl, rfl, rfl, h1, h2⟩ := trodAll_cons h
    have h0 := ht t (List.mem_cons_self ..)
    exact ⟨a, b, Below.trod hl h0.1 h0.2 h1 hb fun x hx => hlt x (List.mem_append_left _ hx),
      trodAll_stays hl hb (fun t ht' => ht t (List.mem_cons_of_mem _ ht')) h2 fun x hx => hlt x (List.mem_append_right _ hx), rfl⟩

theorem law_post {f : Func} {s : ChangeSpec} {apart fresh handsOn : Bool} {W W' : World} {args : Array Value} {ds gs : List (DataW H)} {before : List MemPlace} {tb : TypeId}
    (hl : laidOutB P = true) (hW : DataW.Whole enc P f.params.toList s.vars apart W args.toList ds gs before) (hv : s.vars = [])
    (hr : f.resultTypes = #[tb]) (hb : P.underlying tb = some .bool) (hs : s.fn H ds = { results := [.lit (.bool true)], args := ds })
    (hts : ∀ t ∈ f.params.toList, P.readableRec t = true ∧ t < P.types.size) (hx : Below W.heap.size W W') :
    s.post enc P f apart fresh handsOn false W args (.bool true) W' := by
  have hW' := hW
  obtain ⟨p, q, hA, hV, rfl, hfz, hnd⟩ := hW
  rw [hv] at hV
  obtain ⟨rfl, rfl⟩ := trodVars_none hV
  have e : s.fn H (ds ++ []) = { results := [.lit (.bool true)], args := ds } := by rw [List.append_nil]; exact hs
  refine ⟨_, _, _, [], p, [], hW', ?_, ?_, ?_, hx.frame _, fun h => by cases h⟩
  · rw [e, hr]; exact trodAll_mk1 (shut_bool hb true)
  · rw [e]; exact trodAll_stays hl hx hts hA fun x hx' => hW'.lt x (List.mem_append_left _ hx')
  · rw [e, hv]; rfl
end

/-- A law's lifted form, out of its walk. -/
theorem law_lift {H : Type} {enc : TypeId × Value → H} {C : Checked} {os : Os} {k : FuncId} {fn : Func} {s : ChangeSpec} {laid : List (String × DataW Unit)} {tb : TypeId} {fresh handsOn : Bool}
    (own : ownKnob C.prog.godebug = none) (started : os.Started) (hni : C.prog.inits.idxOf? k = none) (hfn : C.prog.funcs[k]? = some fn)
    (hl : laidOutB C.prog = true) (hv : s.vars = []) (hr : fn.resultTypes = #[tb]) (hb : C.prog.underlying tb = some .bool)
    (hs : ∀ ds : List (DataW H), ds.length = fn.params.size → s.fn H ds = { results := [.lit (.bool true)], args := ds })
    (hts : (fn.params.toList.all fun t => C.prog.readableRec t && decide (t < C.prog.types.size)) = true)
    (n : Nat) (wargs : Array Value) (fuel : Nat)
    (hsh : ((World.doorLaid C.prog n os).forCall (fun _ _ => 0) ⟨#[], wargs, []⟩).Shaped C.prog)
    (hok : Input.okWideB C.prog ((World.doorLaid C.prog n os).forCall (fun _ _ => 0) ⟨#[], wargs, []⟩) k ⟨#[], wargs, []⟩ = true)
    (hpre : s.preB enc C.prog fn [] false ((World.doorLaid C.prog n os).forCall (fun _ _ => 0) ⟨#[], wargs, []⟩).memory wargs fuel = true)
    (hsz : s.sizedB enc C.prog fn false ((World.doorLaid C.prog n os).forCall (fun _ _ => 0) ⟨#[], wargs, []⟩).memory wargs fuel = true)
    (hx : laidMetH C.prog laid ((World.doorLaid C.prog n os).forCall (fun _ _ => 0) ⟨#[], wargs, []⟩).memory)
    (walk : ∀ (W : World) (base : Nat) (args : Array Value) (ds : List (DataW H)) (ps : List MemPlace),
      (∀ (j : Nat) t v, fn.params[j]? = some t → args[j]? = some v → Value.okWide C.prog W .any base t v) →
      DataW.TrodAll enc C.prog W 0 (fun _ => true) true fn.params.toList args.toList ds ps → (∀ x ∈ ps, x.block < W.heap.size) →
      (DataW.weightsEach C.prog fn.params.toList ds).all (· ≤ reachBytes) = true →
      laidMetH C.prog laid W →
      Calls C.prog k args W fun e W' => e = .returned (.bool true) ∧ Ext Nil W W') :
    ReturnsInHanded {} C os k .any (fun w args => (s.pre enc C.prog fn [] false w args ∧ laidMetH C.prog laid w) ∧ sizedMet enc C.prog fn (OpenSpec.ofChange s) false w args)
      (s.post enc C.prog fn false fresh handsOn false) := by
  refine returnsInHanded_of_change_and (C := C) (X := fun w _ => laidMetH C.prog laid w) (fun _ _ _ hh h => h.of_heap hh) own started hni hfn
    (ChangeSpec.witness_shaped (enc := enc) (C := C) (os := os) (X := fun w _ => laidMetH C.prog laid w) false (World.doorLaid C.prog n os) wargs fuel rfl hsh hok hpre hsz hx) ?_
  intro W base args ds gs before hval hW _ hwt hL _
  have hW' := hW
  obtain ⟨p, q, hA, hV, rfl, hfz, hnd⟩ := hW
  rw [hv] at hV
  obtain ⟨rfl, rfl⟩ := trodVars_none hV
  have hwt' : (DataW.weightsEach C.prog fn.params.toList ds).all (· ≤ reachBytes) = true := by
    have e : s.plain.varTypes C.prog = [] := by
      show (s.vars.filterMap _) = []
      rw [hv]; rfl
    rw [e] at hwt
    simpa using hwt
  refine (walk W base args ds p hval hA (fun x hx => hW'.lt x (List.mem_append_left _ hx)) hwt' hL).mono fun e W' ⟨he, hx'⟩ => ?_
  subst he
  have hlen : ds.length = fn.params.size := by simpa using (trodAll_length hA).2
  refine ⟨_, rfl, law_post hl hW' hv hr hb (hs ds hlen) (fun t ht => ?_) (hx'.below (Nat.le_refl _) fun k h => h.elim)⟩
  have := List.all_eq_true.1 hts t ht
  simpa using this
end Go.X
