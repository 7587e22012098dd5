/-
  The calls of a mesh, told of a law's own state: its mesh, and lists of bytes that stay.
-/
import Derived.Test.YtbpjgdmmijehnaaDoorNames
import Derived.Test.YtbpjgdmmijehnaaDoorOpen
namespace Go.Proofs.YtbpjgdmmijehnaaDoor
open Go.RowKit Go.X

/-- A list of bytes, apart from the blocks F. -/
def Outside (w : World) (F : Nat → Prop) (x : Value × List UInt8) : Prop := BytesAt w x.1 x.2 ∧ (x.2 ≠ [] → ∀ b, x.1.ownBlock = some b → ¬ F b)
/-- The law's state, since W: a mesh of its own; what lies in memory besides. -/
def St (W : World) (a : Nat) (n : Int) (R : Lk → List (List UInt8)) (outs : List (Value × List UInt8)) (w : World) : Prop :=
  ∃ F, IsMesh w a n 0 R F ∧ (∀ b, F b → W.heap.size ≤ b) ∧ (∀ x ∈ outs, Outside w F x) ∧ Below W.heap.size W w

theorem _root_.Go.X.BytesAt.arg {w : World} {v : Value} {l : List UInt8} (h : BytesAt w v l) : BytesArg w v l := ⟨h.1, let ⟨ad, c, h, _⟩ := h.2.1; ⟨ad, c, h⟩⟩

section
variable {W w w' : World} {a : Nat} {n : Int} {R R' : Lk → List (List UInt8)} {outs : List (Value × List UInt8)} {F : Nat → Prop} {v : Value} {e : Ending} {idle : Value}

theorem Outside.ext {x : Value × List UInt8} (h : Outside w F x) (hx : Ext F w w') : Outside w' (Grow F w w') x := by
  refine ⟨h.1.ext hx h.2, fun h0 b hb hg => hg.elim (h.2 h0 b hb) fun hg => ?_⟩
  have := h.1.2.2 h0 b hb
  omega

theorem grow_from {B : Nat} (hF : ∀ b, F b → B ≤ b) (hb : B ≤ w.heap.size) : ∀ b, Grow F w w' b → B ≤ b := fun b h => h.elim (hF b) fun h => by omega

theorem st_did (hF : ∀ b, F b → W.heap.size ≤ b) (ho : ∀ x ∈ outs, Outside w F x) (hb : Below W.heap.size W w) (h : Did v w a n R' F e w') : e = .returned v ∧ St W a n R' outs w' := by
  obtain ⟨h1, h2, h3⟩ := h
  exact ⟨h1, _, h2, grow_from hF hb.size, fun x hx => (ho x hx).ext h3, hb.trans (h3.below hb.size hF)⟩

theorem St.below (h : St W a n R outs w) : Below W.heap.size W w := let ⟨_, _, _, _, h⟩ := h; h
theorem St.at (h : St W a n R outs w) {x : Value × List UInt8} (hx : x ∈ outs) : BytesAt w x.1 x.2 := let ⟨_, _, _, h, _⟩ := h; (h x hx).1
theorem St.less (h : St W a n R outs w) {outs' : List (Value × List UInt8)} (hs : ∀ x ∈ outs', x ∈ outs) : St W a n R outs' w :=
  let ⟨F, h1, h2, h3, h4⟩ := h; ⟨F, h1, h2, fun x hx => h3 x (hs x hx), h4⟩
theorem St.idleAt (h : St W a n R outs w) (hi : IdleAt W idle) : IdleAt w idle := hi.below h.below hi.pos
/-- A list of bytes that was there when the law began. -/
theorem St.old (h : St W a n R outs w) {x : Value} {l : List UInt8} (hx : BytesAt W x l) : St W a n R ((x, l) :: outs) w := by
  obtain ⟨F, h1, h2, h3, h4⟩ := h
  refine ⟨F, h1, h2, fun y hy => ?_, h4⟩
  rcases List.mem_cons.1 hy with rfl | hy
  · exact ⟨hx.below h4 hx.2.2, fun h0 b hb hf => by have := hx.2.2 h0 b hb; have := h2 b hf; omega⟩
  · exact h3 y hy

theorem new_st (hB : Below W.heap.size W w) (hn : 1 ≤ n ∧ n ≤ 8) :
    Calls Tryd.prog 8 #[.int .i64 n] w fun e w' => ∃ a, e = .returned (.tuple #[.pointer (some ⟨a, 0, none⟩), .int .i64 0]) ∧ St W a n R0 [] w' := by
  refine (new_any n w).mono fun e w' h => ?_
  unfold NewV at h
  rw [if_pos hn] at h
  obtain ⟨a, h1, h2, h3⟩ := h
  exact ⟨a, h1, _, h2, fun b hb => Nat.le_trans hB.size hb.1, fun x hx => by simp at hx, hB.trans (h3.below hB.size fun b h => h.elim)⟩

theorem send_st (h : St W a n R outs w) (x y : Int) (v : Value) (l : List UInt8) (hv : (v, l) ∈ outs) :
    Calls Tryd.prog 9 #[.pointer (some ⟨a, 0, none⟩), .int .i64 x, .int .i64 y, v] w fun e w' => e = .returned (.int .i64 (sendV n R (x, y) l)) ∧ St W a n (sendR n R (x, y) l) outs w' := by
  obtain ⟨F, h1, h2, h3, h4⟩ := h
  exact (send_any h1 x y v l (h3 _ hv).1.arg (h3 _ hv).2).mono fun e w' h => st_did h2 h3 h4 h
theorem flip_st (h : St W a n R outs w) (x y i place : Int) (by_ : UInt8) (hml : ∀ l ∈ R (x, y), l.length ≤ 2097194) :
    Calls Tryd.prog 14 #[.pointer (some ⟨a, 0, none⟩), .int .i64 x, .int .i64 y, .int .i64 i, .int .i64 place, .int .u8 by_.toNat] w fun e w' => e = .returned (.int .i64 (flipV n R (x, y) i by_)) ∧ St W a n (flipR n R (x, y) i place by_) outs w' := by
  obtain ⟨F, h1, h2, h3, h4⟩ := h
  exact (flip_any h1 x y i place by_ hml).mono fun e w' h => st_did h2 h3 h4 h
theorem clip_st (h : St W a n R outs w) (x y i m : Int) (hml : ∀ l ∈ R (x, y), l.length ≤ 2097194) :
    Calls Tryd.prog 16 #[.pointer (some ⟨a, 0, none⟩), .int .i64 x, .int .i64 y, .int .i64 i, .int .i64 m] w fun e w' => e = .returned (.int .i64 (askedV n R (x, y) [i])) ∧ St W a n (clipR n R (x, y) i m) outs w' := by
  obtain ⟨F, h1, h2, h3, h4⟩ := h
  exact (clip_any h1 x y i m hml).mono fun e w' h => st_did h2 h3 h4 h
theorem twice_st (h : St W a n R outs w) (x y i : Int) (hml : ∀ l ∈ R (x, y), l.length ≤ 2097194) :
    Calls Tryd.prog 15 #[.pointer (some ⟨a, 0, none⟩), .int .i64 x, .int .i64 y, .int .i64 i] w fun e w' => e = .returned (.int .i64 (twiceV n R (x, y) i)) ∧ St W a n (twiceR n R (x, y) i) outs w' := by
  obtain ⟨F, h1, h2, h3, h4⟩ := h
  exact (twice_any h1 x y i hml).mono fun e w' h => st_did h2 h3 h4 h
theorem swap_st (h : St W a n R outs w) (x y i j : Int) :
    Calls Tryd.prog 17 #[.pointer (some ⟨a, 0, none⟩), .int .i64 x, .int .i64 y, .int .i64 i, .int .i64 j] w fun e w' => e = .returned (.int .i64 (askedV n R (x, y) [i, j])) ∧ St W a n (swapR n R (x, y) i j) outs w' := by
  obtain ⟨F, h1, h2, h3, h4⟩ := h
  exact (swap_any h1 x y i j).mono fun e w' h => st_did h2 h3 h4 h
theorem len_st (h : St W a n R outs w) (x y : Int) :
    Calls Tryd.prog 12 #[.pointer (some ⟨a, 0, none⟩), .int .i64 x, .int .i64 y] w fun e w' => e = .returned (.int .i64 (R (x, y)).length) ∧ St W a n R outs w' := by
  obtain ⟨F, h1, h2, h3, h4⟩ := h
  exact (len_any h1 x y).mono fun e w' h => st_did h2 h3 h4 h

/-- What Take leaves. -/
def TookS (idle : Value) (W : World) (a : Nat) (n : Int) (R : Lk → List (List UInt8)) (outs : List (Value × List UInt8)) (k : Lk) (e : Ending) (w' : World) : Prop :=
  if thereB n k then
    match R k with
    | [] => e = .returned (.tuple #[nilS, idle]) ∧ St W a n R outs w'
    | l :: L => ∃ ad c, e = .returned (.tuple #[.slice ad l.length c, .nilIface]) ∧ St W a n (upd R k L) ((.slice ad l.length c, l) :: outs) w'
  else e = .returned (.tuple #[nilS, .iface 28 (.int .i64 1)]) ∧ St W a n R outs w'

theorem take_st (h : St W a n R outs w) (hi : IdleAt W idle) (x y : Int) (hcap : (R (x, y)).length ≤ 1024) :
    Calls Tryd.prog 10 #[.pointer (some ⟨a, 0, none⟩), .int .i64 x, .int .i64 y] w (TookS idle W a n R outs (x, y)) := by
  have hid := (h.idleAt hi).2
  have hp := hi.pos
  obtain ⟨F, h1, h2, h3, h4⟩ := h
  refine (take_any h1 x y idle hid (fun hf => by have := h2 0 hf; omega) hcap).mono fun e w' h => ?_
  unfold TookV at h
  unfold TookS
  split at h
  · rename_i ht
    rw [if_pos ht]
    cases hR : R (x, y) with
    | nil =>
      rw [hR] at h
      exact st_did h2 h3 h4 h
    | cons l L =>
      rw [hR] at h
      obtain ⟨m, e1, e2, e3, e4, e5⟩ := h
      have e2' : Own w' m 5 1 l.length (bv l) := e2
      obtain ⟨ad, c, rfl, hc, _⟩ := e2'.slice2
      refine ⟨ad, c, e1, _, e3, fun b hb => grow_from h2 h4.size b hb.1, fun z hz => ?_, h4.trans (e4.below h4.size h2)⟩
      rcases List.mem_cons.1 hz with rfl | hz
      · exact ⟨⟨e2'.src (bv_one l), ⟨_, _, rfl, hc⟩, fun _ b hb => e2'.lt b hb⟩, fun _ b hb hg => hg.2 hb⟩
      · have := (h3 z hz).ext e4
        exact ⟨this.1, fun h0 b hb hg => this.2 h0 b hb hg.1⟩
  · rename_i ht
    rw [if_neg ht]
    exact st_did h2 h3 h4 h
theorem take_some (h : St W a n R outs w) (hi : IdleAt W idle) (x y : Int) (hcap : (R (x, y)).length ≤ 1024) (ht : thereB n (x, y) = true) {l : List UInt8} {L : List (List UInt8)} (hR : R (x, y) = l :: L) :
    Calls Tryd.prog 10 #[.pointer (some ⟨a, 0, none⟩), .int .i64 x, .int .i64 y] w fun e w' => ∃ ad c, e = .returned (.tuple #[.slice ad l.length c, .nilIface]) ∧ St W a n (upd R (x, y) L) ((.slice ad l.length c, l) :: outs) w' :=
  (take_st h hi x y hcap).mono fun e w' h => by
    unfold TookS at h
    rwa [if_pos ht, hR] at h
theorem take_none (h : St W a n R outs w) (hi : IdleAt W idle) (x y : Int) (ht : thereB n (x, y) = true) (hR : R (x, y) = []) :
    Calls Tryd.prog 10 #[.pointer (some ⟨a, 0, none⟩), .int .i64 x, .int .i64 y] w fun e w' => e = .returned (.tuple #[nilS, idle]) ∧ St W a n R outs w' :=
  (take_st h hi x y (by rw [hR]; simp)).mono fun e w' h => by
    unfold TookS at h
    rwa [if_pos ht, hR] at h
theorem same_st (h : St W a n R outs w) {u v : Value} {l m : List UInt8} (hu : (u, l) ∈ outs) (hv : (v, m) ∈ outs) :
    Calls Tryd.prog 11 #[u, v] w fun e w' => e = .returned (.bool (l == m)) ∧ w = w' := same_any (h.at hu).arg (h.at hv).arg
theorem St.ext (h : St W a n R outs w) : Ext Nil W w := Ext.of_below h.below
end
end Go.Proofs.YtbpjgdmmijehnaaDoor
