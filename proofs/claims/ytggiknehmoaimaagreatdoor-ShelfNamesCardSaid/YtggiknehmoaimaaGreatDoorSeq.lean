/-
  A region that draws its order, walked in ONE order: what only reads (the same value in every world that has grown out of the present one) is taken as soon as it may come up; what makes memory, or calls, comes up alone; what turns memory comes last, in a row.
-/
import Derived.Test.YtggiknehmoaimaaGreatDoorBase
import Derived.StillTail
import Derived.OrdersHeld
namespace Go.X
open Go.RowKit

theorem Ext.extN {a b c : World} (h : Ext Nil a b) (k : Ext Nil b c) : Ext Nil a c := h.trans' k
theorem Ext.cells {w w' : World} (h : Ext Nil w w') : ∀ b o : Nat, b < w.heap.size → w'.cell? ⟨b, o, none⟩ = w.cell? ⟨b, o, none⟩ :=
  fun b o hp => World.cell?_of_block (a := ⟨b, o, none⟩) (h.block b hp id)

section
variable {P : Program} {ops : Array Oper} {md : Region.Mode} {n : Nat} {G : Nat → Prop}

/-- No way out by a panic, nor for want of room. -/
def Calm (_ : Exit) (_ : Act) (_ : World) : Prop := False

/-- Whatever order is picked, for f operations of the head; L stands behind them. -/
def wpG (G : Nat → Prop) (P : Program) (md : Region.Mode) (ops : Array Oper) (n : Nat) (L : Array Bool → Act → World → Prop) : Nat → Array Bool → Act → World → Prop
  | 0, listed, a, w => L listed a w
  | f + 1, listed, a, w =>
    Region.ready md ops listed ≠ [] ∧ ∀ i ∈ Region.ready md ops listed, i < n ∧ wpOp P ops Calm i (fun a' w' => Ext G w w' ∧ wpG G P md ops n L f (listed.setIfInBounds i true) a' w') a w

theorem Oper.wp_calm {o : Oper} {a : Act} {w : World} {K : Act → World → Prop} {Q : Exit → Act → World → Prop} (hh : o.wp P a w K Calm) : o.wp P a w K Q := by
  unfold Oper.wp at *
  generalize (execOp a.eval o).run P w = r at *
  cases r with
  | ok x w' =>
    cases x <;> simp only [Oper.upon] at hh ⊢ <;>
      first
        | exact hh
        | exact Calls.mono hh (fun e w'' he => by cases e <;> first | exact he | exact he.elim | (obtain ⟨_, _, h⟩ := he; exact h.elim))
  | halt x w' => cases x <;> simp only [Oper.upon] at hh ⊢ <;> exact hh.elim

theorem wpOp_calm {i : Nat} {a : Act} {w : World} {K : Act → World → Prop} {Q : Exit → Act → World → Prop} (hh : wpOp P ops Calm i K a w) : wpOp P ops Q i K a w := by
  unfold wpOp at *
  split
  · simpa [*] using hh
  · rename_i o ho
    simp only [ho] at hh
    split
    · rename_i hw
      simp only [hw, if_true] at hh
      rcases hh with h | ⟨_, _, _, h⟩
      · exact .inl (Oper.wp_calm h)
      · exact h.elim
    · rename_i hw; simp only [hw] at hh; exact hh

theorem wpAny_of_wpG {g : Nat} {L : Array Bool → Act → World → Prop} {Q : Exit → Act → World → Prop} (hL : ∀ listed a w, L listed a w → wpAny P md ops Q g listed a w) :
    ∀ (f : Nat) (listed : Array Bool) (a : Act) (w : World), wpG G P md ops n L f listed a w → wpAny P md ops Q (f + g) listed a w
  | 0, listed, a, w, h => by rw [Nat.zero_add]; exact hL _ _ _ h
  | f + 1, listed, a, w, h => by
    rw [show f + 1 + g = (f + g) + 1 by omega]
    exact ⟨fun h0 => absurd h0 h.1, fun i hi => wpOp_mono (fun a' w' h' => wpAny_of_wpG hL f _ a' w' h'.2) (wpOp_calm (h.2 i hi).2)⟩

/-- Each of the tail's operations but the first waits for one of the tail's. -/
def chain2B (md : Region.Mode) (ops : Array Oper) (n : Nat) : Bool :=
  (List.range ops.size).all fun t => decide (t ≤ n) || (List.range t).any fun s => decide (n ≤ s) && Region.waitsFor md ops t s

/-- Each of the head's operations, but those of 'pre', is waited for. -/
def sink2B (md : Region.Mode) (ops : Array Oper) (n : Nat) (pre : List Nat) : Bool :=
  (List.range n).all fun i => pre.contains i || (List.range (n + 1)).any fun j => decide (i < j) && Region.waitsFor md ops j i

structure HeadInv2 (md : Region.Mode) (ops : Array Oper) (n : Nat) (pre : List Nat) (listed : Array Bool) : Prop extends HeadInv md ops n listed where
  pres : ∀ i ∈ pre, listed.getD i false = true
theorem HeadInv2.set {pre : List Nat} {i : Nat} {listed : Array Bool} (inv : HeadInv2 md ops n pre listed) (hi : i ∈ Region.ready md ops listed) (hin : i < n) : HeadInv2 md ops n pre (listed.setIfInBounds i true) :=
  ⟨inv.toHeadInv.set hi hin, fun j hj => getD_set_true (inv.pres j hj)⟩

theorem tail_waits2 {pre : List Nat} {listed : Array Bool} (hs : sink2B md ops n pre = true) (hc : chain2B md ops n = true) (inv : HeadInv2 md ops n pre listed) :
    ∀ (d i : Nat), n - i = d → i < n → listed.getD i true = false → ∀ t, n ≤ t → t ∉ Region.ready md ops listed := by
  intro d
  induction d using Nat.strongRecOn with
  | _ d ih =>
    intro i hd hi hun t ht hr
    obtain ⟨_, ot, hot, hall⟩ := mem_ready.1 hr
    have htlt : t < ops.size := (Array.getElem?_eq_some_iff.1 hot).1
    by_cases htn : t = n
    · subst htn
      have h1 := List.all_eq_true.1 hs i (List.mem_range.2 hi)
      have hnp : pre.contains i = false := by
        rw [← Bool.not_eq_true, List.contains_iff_mem]
        intro hp
        have := inv.pres i hp
        rw [getD_both hun] at this; cases this
      rw [hnp, Bool.false_or] at h1
      obtain ⟨j, hj, hj2⟩ := List.any_eq_true.1 h1
      simp only [Bool.and_eq_true, decide_eq_true_eq] at hj2
      obtain ⟨oj, hoj, e, he, hb, hon⟩ := Region.waitsFor_spec hj2.2
      have hjle : j ≤ t := by have := List.mem_range.1 hj; omega
      by_cases hjt : j = t
      · subst hjt
        have : oj = ot := Option.some.inj (hoj.symm.trans hot)
        subst this
        have h2 := hall e he hb
        rw [hon, getD_both hun] at h2
        cases h2
      · cases hl : listed.getD j false with
        | true =>
          have h2 := inv.closed j oj hoj hl e he hb
          rw [hon, getD_both hun] at h2
          cases h2
        | false =>
          have hjs : j < listed.size := by rw [inv.size]; omega
          exact ih (t - j) (by omega) j rfl (by omega) (getD_in hjs hl) t (Nat.le_refl _) hr
    · have h1 := List.all_eq_true.1 hc t (List.mem_range.2 htlt)
      simp only [Bool.or_eq_true, decide_eq_true_eq] at h1
      rcases h1 with h1 | h1
      · omega
      · obtain ⟨s, hs1, hs2⟩ := List.any_eq_true.1 h1
        simp only [Bool.and_eq_true, decide_eq_true_eq] at hs2
        have hst := List.mem_range.1 hs1
        obtain ⟨o', ho', e, he, hb, hon⟩ := Region.waitsFor_spec hs2.2
        have : o' = ot := Option.some.inj (ho'.symm.trans hot)
        subst this
        have h2 := hall e he hb
        rw [hon, getD_both (inv.tail s hs2.1 (by omega))] at h2
        cases h2

/-- The tail's operations come when all of the head have. -/
def tailB (md : Region.Mode) (ops : Array Oper) (n : Nat) (pre : List Nat) : Bool := decide (n = ops.size) || (decide (n < ops.size) && sink2B md ops n pre && chain2B md ops n)

theorem tail_not {pre : List Nat} {listed : Array Bool} (hB : tailB md ops n pre = true) (inv : HeadInv2 md ops n pre listed) {i : Nat} (hi : i < n) (hun : listed.getD i true = false) :
    ∀ t, n ≤ t → t ∉ Region.ready md ops listed := by
  simp only [tailB, Bool.or_eq_true, Bool.and_eq_true, decide_eq_true_eq] at hB
  rcases hB with h | ⟨⟨_, h2⟩, h3⟩
  · intro t ht hr
    obtain ⟨_, ot, hot, _⟩ := mem_ready.1 hr
    have := (Array.getElem?_eq_some_iff.1 hot).1
    omega
  · exact tail_waits2 h2 h3 inv _ i rfl hi hun

theorem wpG_first {pre : List Nat} {i : Nat} {oi : Oper} {v : Value} {L : Array Bool → Act → World → Prop} (hi : ops[i]? = some oi) (hsel : ∀ (j : Nat) (o : Oper) cs b, ops[j]? = some o → o.op ≠ .select cs b)
    (hB : tailB md ops n pre = true) (hin : i < n) (hdone : ∀ listed a w, L listed a w → ∀ j ∈ Region.ready md ops listed, n ≤ j) :
    ∀ (f : Nat) (listed : Array Bool) (a : Act) (w : World), HeadInv2 md ops n pre listed →
      (∀ j oj, ops[j]? = some oj → j ≠ i → listed.getD j true = false → (∀ e ∈ oj.after, Region.binds md e = true → e.on ≠ i) → oi.apart ops oj = true) →
      i ∈ Region.ready md ops listed → YieldsIf P ops (Ext G w) oi v a →
      wpG G P md ops n L f (listed.setIfInBounds i true) (a.put oi.dst v) w → wpG G P md ops n L (f + 1) listed a w := by
  intro f
  induction f with
  | zero =>
    intro listed a w inv _ hr hy H
    have hun := (mem_ready.1 hr).1
    refine ⟨fun h => (by rw [h] at hr; cases hr), fun j hj => ?_⟩
    have hjn : j < n := by
      rcases Nat.lt_or_ge j n with h | h
      · exact h
      · exact absurd hj (tail_not hB inv hin hun j h)
    refine ⟨hjn, ?_⟩
    by_cases hji : j = i
    · subst hji; exact hy.wpOp hi (Ext.refl _ _) ⟨Ext.refl _ _, H⟩
    · have := hdone _ _ _ H j (ready_mono hj hji)
      omega
  | succ f ih =>
    intro listed a w inv hfree hr hy H
    have hun := (mem_ready.1 hr).1
    refine ⟨fun h => (by rw [h] at hr; cases hr), fun j hj => ?_⟩
    have hjn : j < n := by
      rcases Nat.lt_or_ge j n with h | h
      · exact h
      · exact absurd hj (tail_not hB inv hin hun j h)
    refine ⟨hjn, ?_⟩
    by_cases hji : j = i
    · subst hji; exact hy.wpOp hi (Ext.refl _ _) ⟨Ext.refl _ _, H⟩
    · have h1 := (H.2 j (ready_mono hj hji)).2
      obtain ⟨hjun, oj, hoj, hall⟩ := mem_ready.1 hj
      have hnot : ∀ e ∈ oj.after, Region.binds md e = true → e.on ≠ i := fun e he hb heq => by
        have h1 := hall e he hb
        rw [heq, getD_both hun] at h1
        cases h1
      have h2 := wpOp_putIf hoj (hfree j oj hoj hji hjun hnot) (fun cs b => hsel i oi cs b hi) (fun cs b => hsel j oj cs b hoj) (fun _ _ _ h => h) hy h1
      have hfree' : ∀ k ok, ops[k]? = some ok → k ≠ i → (listed.setIfInBounds j true).getD k true = false →
          (∀ e ∈ ok.after, Region.binds md e = true → e.on ≠ i) → oi.apart ops ok = true := fun k ok hk hki hun hno => by
        refine hfree k ok hk hki ?_ hno
        by_cases hjk : j = k
        · subst hjk; exact hjun
        · rw [getD_set_ne true hjk] at hun; exact hun
      refine wpOp_mono (fun a' w' h3 => ⟨h3.2.1, ih (listed.setIfInBounds j true) a' w' (inv.set hj hjn) hfree' (ready_mono hr (Ne.symm hji)) ?_ ?_⟩) h2
      · exact h3.1.imp (fun ⟨x, y⟩ => ⟨x, fun u hu => y u (h3.2.1.trans' hu)⟩) id
      · rw [Array.setIfInBounds_comm _ _ hji]
        exact h3.2.2

/-- THE WALK. true: it only reads; false: it comes up alone. -/
def wpEg (G : Nat → Prop) (P : Program) (ops : Array Oper) (T : Act → World → Prop) : List (Nat × Bool) → Act → World → Prop
  | [], a, w => T a w
  | (i, s) :: rest, a, w =>
    match ops[i]? with
    | none => False
    | some o =>
      if Region.wanted o (yielded ops a.tmps) then
        match s with
        | true => ∃ v, (∀ w', Ext G w w' → (execOp a.eval o).run P w' = .ok (.value v) w') ∧ wpEg G P ops T rest (a.put o.dst v) w
        | false => o.wp P a w (fun a' w' => Ext G w w' ∧ wpEg G P ops T rest a' w') Calm
      else wpEg G P ops T rest (a.put o.dst undef) w

/-- THE TAIL. true: it yields its value in whatever world; false: it comes up alone. -/
def wpT (P : Program) (ops : Array Oper) (Q : Exit → Act → World → Prop) : List (Nat × Bool) → Act → World → Prop
  | [], a, w => Q .normal a w
  | (i, s) :: rest, a, w =>
    match ops[i]? with
    | none => False
    | some o =>
      if Region.wanted o (yielded ops a.tmps) then
        match s with
        | true => ∃ v, (∀ w', (execOp a.eval o).run P w' = .ok (.value v) w') ∧ wpT P ops Q rest (a.put o.dst v) w
        | false => o.wp P a w (fun a' w' => wpT P ops Q rest a' w') Calm
      else wpT P ops Q rest (a.put o.dst undef) w

/-- Is a plan one? -/
def planT (md : Region.Mode) (ops : Array Oper) : List (Nat × Bool) → Array Bool → Bool
  | [], listed => (Region.ready md ops listed).isEmpty
  | (i, s) :: rest, listed => (if s then (Region.ready md ops listed).contains i && Region.free md ops listed i else decide (Region.ready md ops listed = [i])) &&
      planT md ops rest (listed.setIfInBounds i true)
def planB (md : Region.Mode) (ops : Array Oper) (n : Nat) (tail : List (Nat × Bool)) : List (Nat × Bool) → Array Bool → Bool
  | [], listed => (Region.ready md ops listed).all (fun j => decide (n ≤ j)) && planT md ops tail listed
  | (i, s) :: rest, listed => decide (i < n) && (if s then (Region.ready md ops listed).contains i && Region.free md ops listed i else decide (Region.ready md ops listed = [i])) &&
      planB md ops n tail rest (listed.setIfInBounds i true)
/-- What comes first: operations that yield their value in whatever world. -/
def preB (md : Region.Mode) (ops : Array Oper) (n : Nat) (plan tail : List (Nat × Bool)) : List Nat → Array Bool → Bool
  | [], listed => planB md ops n tail plan listed
  | i :: rest, listed => decide (i < n) && (Region.ready md ops listed).contains i && Region.free md ops listed i && preB md ops n plan tail rest (listed.setIfInBounds i true)
def planOk (ops : Array Oper) (n : Nat) (pre : List Nat) (plan tail : List (Nat × Bool)) : Bool :=
  Region.noSelect ops && tailB .any ops n pre && decide (pre.length + plan.length = n) && decide (n + tail.length = ops.size) && preB .any ops n plan tail pre (Array.replicate ops.size false)

theorem Calm.imp {o : Oper} {i : Nat} {a : Act} {w : World} {K : Act → World → Prop} {Q : Exit → Act → World → Prop} (hi : ops[i]? = some o) (hw : Region.wanted o (yielded ops a.tmps) = true) (h : o.wp P a w K Calm) : wpOp P ops Q i K a w := by
  unfold wpOp; simp only [hi, hw, if_true]; exact .inl (Oper.wp_calm h)

theorem wpAny_of_calm {Q : Exit → Act → World → Prop} : ∀ (f : Nat) (listed : Array Bool) (a : Act) (w : World),
    wpAny P md ops (fun e a w => e = .normal ∧ Q .normal a w) f listed a w → wpAny P md ops Q f listed a w
  | 0, _, _, _, h => ⟨h.1, h.2.2⟩
  | f + 1, _, _, _, h => ⟨fun h0 => (h.1 h0).2, fun i hi => by
      refine wpOp_mono (fun a' w' h' => wpAny_of_calm f _ a' w' h') (wpOp_calm ?_)
      have := h.2 i hi
      unfold wpOp at this ⊢
      split
      · simpa [*] using this
      · rename_i o ho
        simp only [ho] at this
        split
        · rename_i hw
          simp only [hw, if_true] at this
          rcases this with h2 | ⟨_, _, _, h2⟩
          · refine .inl ?_
            unfold Oper.wp at *
            generalize (execOp _ o).run P _ = r at *
            cases r with
            | ok x w' =>
              cases x <;> simp only [Oper.upon] at h2 ⊢ <;>
                first
                  | exact h2
                  | exact Calls.mono h2 (fun e w'' he => by cases e <;> first | exact he | exact absurd he.1 (by simp) | (obtain ⟨_, _, h3⟩ := he; exact absurd h3.1 (by simp)))
            | halt x w' => cases x <;> simp only [Oper.upon] at h2 ⊢ <;> exact absurd h2.1 (by simp)
          · exact absurd h2.1 (by simp)
        · rename_i hw; simp only [hw] at this; exact this⟩

theorem wpAny_of_planT {Q : Exit → Act → World → Prop} (hsel : Region.noSelect ops = true) :
    ∀ (plan : List (Nat × Bool)) (listed : Array Bool) (a : Act) (w : World), planT md ops plan listed = true → wpT P ops Q plan a w →
      wpAny P md ops (fun e a w => e = .normal ∧ Q .normal a w) plan.length listed a w
  | [], listed, a, w, hp, h => ⟨by simpa [planT] using hp, rfl, h⟩
  | (i, true) :: rest, listed, a, w, hp, h => by
    simp only [planT, if_true, Bool.and_eq_true] at hp
    obtain ⟨⟨hr, hf⟩, hp⟩ := hp
    have hr' : i ∈ Region.ready md ops listed := by simpa using hr
    obtain ⟨_, oi, hoi, _⟩ := mem_ready.1 hr'
    simp only [wpT, hoi] at h
    have hy : ∃ v, Yields P ops oi v a ∧ wpT P ops Q rest (a.put oi.dst v) w := by
      split at h
      · rename_i hw; obtain ⟨v, h1, h2⟩ := h; exact ⟨v, .inl ⟨hw, h1⟩, h2⟩
      · rename_i hw; exact ⟨undef, .inr ⟨by simpa using hw, rfl⟩, h⟩
    obtain ⟨v, hy, h2⟩ := hy
    exact wpAny_take hoi hsel hf hr (fun c a w h => absurd h.1 (by simp)) hy (wpAny_of_planT hsel rest _ _ w hp h2)
  | (i, false) :: rest, listed, a, w, hp, h => by
    simp only [planT, Bool.false_eq_true, if_false, Bool.and_eq_true, decide_eq_true_eq] at hp
    obtain ⟨hr, hp⟩ := hp
    have hr' : i ∈ Region.ready md ops listed := by rw [hr]; simp
    obtain ⟨_, oi, hoi, _⟩ := mem_ready.1 hr'
    simp only [wpT, hoi] at h
    refine ⟨fun h0 => (by rw [hr] at h0; cases h0), fun j hj => ?_⟩
    rw [hr, List.mem_singleton] at hj
    subst hj
    split at h
    · rename_i hw
      exact Calm.imp hoi hw (Oper.wp_mono (fun a' w' h' => wpAny_of_planT hsel rest _ a' w' hp h') h)
    · rename_i hw
      unfold wpOp
      simp only [hoi, hw, Bool.false_eq_true, if_false]
      exact wpAny_of_planT hsel rest _ _ w hp h

theorem wpG_of_plan {pre : List Nat} {T : Act → World → Prop} {tail : List (Nat × Bool)} (hsel : Region.noSelect ops = true) (hB : tailB md ops n pre = true) :
    ∀ (plan : List (Nat × Bool)) (listed : Array Bool) (a : Act) (w : World), HeadInv2 md ops n pre listed → planB md ops n tail plan listed = true → wpEg G P ops T plan a w →
      wpG G P md ops n (fun listed' a' w' => ((Region.ready md ops listed').all (fun j => decide (n ≤ j)) = true ∧ planT md ops tail listed' = true) ∧ T a' w') plan.length listed a w
  | [], listed, a, w, _, hp, h => by
    simp only [planB, Bool.and_eq_true] at hp
    exact ⟨hp, h⟩
  | (i, true) :: rest, listed, a, w, inv, hp, h => by
    simp only [planB, if_true, Bool.and_eq_true, decide_eq_true_eq] at hp
    obtain ⟨⟨hin, hr, hf⟩, hp⟩ := hp
    have hr' : i ∈ Region.ready md ops listed := by simpa using hr
    obtain ⟨_, oi, hoi, _⟩ := mem_ready.1 hr'
    simp only [wpEg, hoi] at h
    have hy : ∃ v, YieldsIf P ops (Ext G w) oi v a ∧ wpEg G P ops T rest (a.put oi.dst v) w := by
      split at h
      · rename_i hw; obtain ⟨v, h1, h2⟩ := h; exact ⟨v, .inl ⟨hw, h1⟩, h2⟩
      · rename_i hw; exact ⟨undef, .inr ⟨by simpa using hw, rfl⟩, h⟩
    obtain ⟨v, hy, h2⟩ := hy
    exact wpG_first hoi (Region.noSelect_spec hsel) hB hin (fun _ _ _ hL j hj => by simpa using List.all_eq_true.1 hL.1.1 j hj) rest.length listed a w inv (Region.free_spec hoi hf) hr' hy
      (wpG_of_plan hsel hB rest _ _ w (inv.set hr' hin) hp h2)
  | (i, false) :: rest, listed, a, w, inv, hp, h => by
    simp only [planB, Bool.false_eq_true, if_false, Bool.and_eq_true, decide_eq_true_eq] at hp
    obtain ⟨⟨hin, hr⟩, hp⟩ := hp
    have hr' : i ∈ Region.ready md ops listed := by rw [hr]; simp
    obtain ⟨_, oi, hoi, _⟩ := mem_ready.1 hr'
    simp only [wpEg, hoi] at h
    refine ⟨by rw [hr]; simp, fun j hj => ?_⟩
    rw [hr, List.mem_singleton] at hj
    subst hj
    refine ⟨hin, ?_⟩
    unfold wpOp
    simp only [hoi]
    split
    · rename_i hw
      rw [if_pos hw] at h
      exact .inl (Oper.wp_mono (fun a' w' h' => ⟨h'.1, wpG_of_plan hsel hB rest _ a' w' (inv.set hr' hin) hp h'.2⟩) h)
    · rename_i hw
      rw [if_neg hw] at h
      exact ⟨Ext.refl _ _, wpG_of_plan hsel hB rest _ _ w (inv.set hr' hin) hp h⟩

theorem wpAny_of_pre {Q : Exit → Act → World → Prop} {plan tail : List (Nat × Bool)} (hsel : Region.noSelect ops = true) (all : List Nat) (hB : tailB md ops n all = true) :
    ∀ (pre done : List Nat) (listed : Array Bool) (a : Act) (w : World), HeadInv2 md ops n done listed → (∀ i ∈ all, i ∈ done ∨ i ∈ pre) → preB md ops n plan tail pre listed = true →
      wpT P ops (fun _ a' w' => wpEg G P ops (fun a' w' => wpT P ops Q tail a' w') plan a' w') (pre.map fun i => (i, true)) a w →
      wpAny P md ops (fun e a w => e = .normal ∧ Q .normal a w) (pre.length + (plan.length + tail.length)) listed a w
  | [], done, listed, a, w, inv, hall, hp, h => by
    have inv' : HeadInv2 md ops n all listed := ⟨inv.toHeadInv, fun i hi => (hall i hi).elim (inv.pres i) fun h => by cases h⟩
    have H := wpG_of_plan (md := md) hsel hB plan _ a w inv' hp h
    rw [List.length_nil, Nat.zero_add]
    exact wpAny_of_wpG (fun listed a' w' hL => wpAny_of_planT hsel tail listed a' w' hL.1.2 hL.2) _ _ _ _ H
  | i :: rest, done, listed, a, w, inv, hall, hp, h => by
    simp only [preB, Bool.and_eq_true, decide_eq_true_eq] at hp
    obtain ⟨⟨⟨hin, hr⟩, hf⟩, hp⟩ := hp
    have hr' : i ∈ Region.ready md ops listed := by simpa using hr
    obtain ⟨hun, oi, hoi, _⟩ := mem_ready.1 hr'
    simp only [List.map_cons, wpT, hoi] at h
    have hy : ∃ v, Yields P ops oi v a ∧ wpT P ops (fun _ a' w' => wpEg G P ops (fun a' w' => wpT P ops Q tail a' w') plan a' w') (rest.map fun i => (i, true)) (a.put oi.dst v) w := by
      split at h
      · rename_i hw; obtain ⟨v, h1, h2⟩ := h; exact ⟨v, .inl ⟨hw, h1⟩, h2⟩
      · rename_i hw; exact ⟨undef, .inr ⟨by simpa using hw, rfl⟩, h⟩
    obtain ⟨v, hy, h2⟩ := hy
    have hset := inv.set hr' hin
    have inv2 : HeadInv2 md ops n (i :: done) (listed.setIfInBounds i true) := ⟨hset.toHeadInv, fun j hj => by
      rcases List.mem_cons.1 hj with rfl | hj
      · have hlt : j < listed.size := by rw [inv.size]; exact (Array.getElem?_eq_some_iff.1 hoi).1
        simp [hlt]
      · exact hset.pres j hj⟩
    rw [List.length_cons, show rest.length + 1 + (plan.length + tail.length) = (rest.length + (plan.length + tail.length)) + 1 by omega]
    exact wpAny_take hoi hsel hf hr (fun c a w h => absurd h.1 (by simp)) hy (wpAny_of_pre hsel all hB rest (i :: done) _ _ w inv2 (fun j hj => (hall j hj).elim (fun h => .inl (List.mem_cons_of_mem _ h)) fun h => by
      rcases List.mem_cons.1 h with rfl | h
      · exact .inl List.mem_cons_self
      · exact .inr h) hp h2)

/-- **A region that draws, by a plan**: what comes first, the head, then the tail. -/
theorem wp_region_preG (G : Nat → Prop) {id : Nat} {Q : Exit → Act → World → Prop} {a : Act} {w : World} {l : List Oper} (n : Nat) (pre : List Nat) (plan tail : List (Nat × Bool)) (hm : P.follows .mixedOrders = true) (hB : planOk l.toArray n pre plan tail = true)
    (h : ∀ wd : World, Ext Nil w wd → wd.heap = w.heap → wpT P l.toArray (fun _ a' w' => wpEg G P l.toArray (fun a' w' => wpT P l.toArray Q tail a' w') plan a' w') (pre.map fun i => (i, true)) a wd) : (Code.region id l.toArray true).wp P Q a w := by
  simp only [planOk, Bool.and_eq_true, decide_eq_true_eq] at hB
  obtain ⟨⟨⟨⟨hsel, ht⟩, hlen⟩, hsum⟩, hp⟩ := hB
  have inv0 : HeadInv2 .any l.toArray n [] (Array.replicate l.toArray.size false) :=
    ⟨⟨by simp, fun j oj _ hl => (by rw [getD_replicate_false] at hl; cases hl), fun t _ ht => getD_in (by simpa using ht) (getD_replicate_false _ _)⟩, fun i hi => by cases hi⟩
  refine wp_region_any hm (wpAny_of_calm _ _ _ _ ?_)
  have := wpAny_of_pre (P := P) (Q := Q) (md := .any) hsel pre ht pre [] _ a w.drew inv0 (fun i hi => .inr hi) hp (h _ (Ext.refl _ _).drew rfl)
  rw [show pre.length + (plan.length + tail.length) = l.toArray.size by omega] at this
  exact this
/-- What the head's calls turn, none of its other operations reads: here: nothing. -/
abbrev wpE (P : Program) (ops : Array Oper) (T : Act → World → Prop) (l : List (Nat × Bool)) (a : Act) (w : World) : Prop := wpEg Nil P ops T l a w
theorem wp_region_pre {id : Nat} {Q : Exit → Act → World → Prop} {a : Act} {w : World} {l : List Oper} (n : Nat) (pre : List Nat) (plan tail : List (Nat × Bool)) (hm : P.follows .mixedOrders = true) (hB : planOk l.toArray n pre plan tail = true)
    (h : ∀ wd : World, Ext Nil w wd → wd.heap = w.heap → wpT P l.toArray (fun _ a' w' => wpE P l.toArray (fun a' w' => wpT P l.toArray Q tail a' w') plan a' w') (pre.map fun i => (i, true)) a wd) : (Code.region id l.toArray true).wp P Q a w :=
  wp_region_preG Nil n pre plan tail hm hB h
/-- .. where nothing comes first. -/
theorem wp_region_plan {id : Nat} {Q : Exit → Act → World → Prop} {a : Act} {w : World} {l : List Oper} (n : Nat) (plan tail : List (Nat × Bool)) (hm : P.follows .mixedOrders = true) (hB : planOk l.toArray n [] plan tail = true)
    (h : ∀ wd : World, Ext Nil w wd → wd.heap = w.heap → wpE P l.toArray (fun a' w' => wpT P l.toArray Q tail a' w') plan a wd) : (Code.region id l.toArray true).wp P Q a w :=
  wp_region_pre n [] plan tail hm hB h
theorem wp_region_planG (G : Nat → Prop) {id : Nat} {Q : Exit → Act → World → Prop} {a : Act} {w : World} {l : List Oper} (n : Nat) (plan tail : List (Nat × Bool)) (hm : P.follows .mixedOrders = true) (hB : planOk l.toArray n [] plan tail = true)
    (h : ∀ wd : World, Ext Nil w wd → wd.heap = w.heap → wpEg G P l.toArray (fun a' w' => wpT P l.toArray Q tail a' w') plan a wd) : (Code.region id l.toArray true).wp P Q a w :=
  wp_region_preG G n [] plan tail hm hB h

/-! ### the steps (what is found on the way stands behind '∃': 'apply Exists.intro', then the walk finds it) -/
variable {T : Act → World → Prop} {rest : List (Nat × Bool)} {a : Act} {w : World} {i : Nat} {o : Oper} {s : Bool} {Q : Exit → Act → World → Prop}
theorem wpE_nil (h : T a w) : wpEg G P ops T [] a w := h
/-- An operation that only reads. -/
theorem wpE_still (ho : ops[i]? = some o) (hw : Region.wanted o (yielded ops a.tmps) = true)
    (h : ∃ v, (∀ w', Ext G w w' → (execOp a.eval o).run P w' = .ok (.value v) w') ∧ wpEg G P ops T rest (a.put o.dst v) w) : wpEg G P ops T ((i, true) :: rest) a w := by
  simp only [wpEg, ho, hw, if_true]; exact h
/-- One that is passed over. -/
theorem wpE_skip (ho : ops[i]? = some o) (hw : Region.wanted o (yielded ops a.tmps) = false) (h2 : wpEg G P ops T rest (a.put o.dst undef) w) : wpEg G P ops T ((i, s) :: rest) a w := by
  simp only [wpEg, ho, hw, Bool.false_eq_true, if_false]; exact h2
/-- One that makes memory, or calls. -/
theorem wpE_loud (ho : ops[i]? = some o) (hw : Region.wanted o (yielded ops a.tmps) = true) (h : o.wp P a w (fun a' w' => Ext G w w' ∧ wpEg G P ops T rest a' w') Calm) : wpEg G P ops T ((i, false) :: rest) a w := by
  simp only [wpEg, ho, hw, if_true]; exact h
/-- .. a call. -/
theorem wpE_call (ho : ops[i]? = some o) (hw : Region.wanted o (yielded ops a.tmps) = true)
    (h : ∃ f args, (execOp a.eval o).run P w = .ok (.enter f args) w ∧ Calls P f args w fun e w' => ∃ v, e = .returned v ∧ Ext G w w' ∧ wpEg G P ops T rest (a.put o.dst v) w') : wpEg G P ops T ((i, false) :: rest) a w := by
  obtain ⟨f, args, hr, h⟩ := h
  exact wpE_loud ho hw (by unfold Oper.wp; rw [hr]; exact Calls.mono h fun e w' ⟨v, he, hx⟩ => by subst he; exact hx)
/-- .. one that makes memory. -/
theorem wpE_grow (ho : ops[i]? = some o) (hw : Region.wanted o (yielded ops a.tmps) = true)
    (h : ∃ v w', (execOp a.eval o).run P w = .ok (.value v) w' ∧ Ext G w w' ∧ wpEg G P ops T rest (a.put o.dst v) w') : wpEg G P ops T ((i, false) :: rest) a w := by
  obtain ⟨v, w', hr, hx, h⟩ := h
  exact wpE_loud ho hw (by unfold Oper.wp; rw [hr]; exact ⟨hx, h⟩)
theorem wpT_nil (h : Q .normal a w) : wpT P ops Q [] a w := h
theorem wpT_pure (ho : ops[i]? = some o) (hw : Region.wanted o (yielded ops a.tmps) = true)
    (h : ∃ v, (∀ w', (execOp a.eval o).run P w' = .ok (.value v) w') ∧ wpT P ops Q rest (a.put o.dst v) w) : wpT P ops Q ((i, true) :: rest) a w := by
  simp only [wpT, ho, hw, if_true]; exact h
theorem wpT_skip (ho : ops[i]? = some o) (hw : Region.wanted o (yielded ops a.tmps) = false) (h2 : wpT P ops Q rest (a.put o.dst undef) w) : wpT P ops Q ((i, s) :: rest) a w := by
  simp only [wpT, ho, hw, Bool.false_eq_true, if_false]; exact h2
theorem wpT_loud (ho : ops[i]? = some o) (hw : Region.wanted o (yielded ops a.tmps) = true) (h : o.wp P a w (fun a' w' => wpT P ops Q rest a' w') Calm) : wpT P ops Q ((i, false) :: rest) a w := by
  simp only [wpT, ho, hw, if_true]; exact h
/-- .. whose run is known. -/
theorem wpT_run (ho : ops[i]? = some o) (hw : Region.wanted o (yielded ops a.tmps) = true)
    (h : ∃ v w', (execOp a.eval o).run P w = .ok (.value v) w' ∧ wpT P ops Q rest (a.put o.dst v) w') : wpT P ops Q ((i, false) :: rest) a w := by
  obtain ⟨v, w', hr, h⟩ := h
  exact wpT_loud ho hw (by unfold Oper.wp; rw [hr]; exact h)
theorem wpT_act (ho : ops[i]? = some o) (hw : Region.wanted o (yielded ops a.tmps) = true)
    (h : ∃ w', (execOp a.eval o).run P w = .ok .skip w' ∧ wpT P ops Q rest (a.put o.dst undef) w') : wpT P ops Q ((i, false) :: rest) a w := by
  obtain ⟨w', hr, h⟩ := h
  exact wpT_loud ho hw (by unfold Oper.wp; rw [hr]; exact h)
theorem wpT_call (ho : ops[i]? = some o) (hw : Region.wanted o (yielded ops a.tmps) = true)
    (h : ∃ f args, (execOp a.eval o).run P w = .ok (.enter f args) w ∧ Calls P f args w fun e w' => ∃ v, e = .returned v ∧ wpT P ops Q rest (a.put o.dst v) w') : wpT P ops Q ((i, false) :: rest) a w := by
  obtain ⟨f, args, hr, h⟩ := h
  exact wpT_loud ho hw (by unfold Oper.wp; rw [hr]; exact Calls.mono h fun e w' ⟨v, he, hx⟩ => by subst he; exact hx)
end
end Go.X
