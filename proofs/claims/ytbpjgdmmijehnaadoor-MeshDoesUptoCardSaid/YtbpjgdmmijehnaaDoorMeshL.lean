/-
  The contracts of Clear and Drop.
-/
import Derived.Test.YtbpjgdmmijehnaaDoorMeshK
namespace Go.Proofs.YtbpjgdmmijehnaaDoor
open Go.RowKit Go.X

section
variable {w : World} {a : Nat} {n : Int} {R : Lk → List (List UInt8)} {F : Nat → Prop}

def clearR (n : Int) (R : Lk → List (List UInt8)) (k : Lk) : Lk → List (List UInt8) := if askedV n R k [] = 0 then upd R k [] else R
def dropR (n : Int) (R : Lk → List (List UInt8)) (k : Lk) (i : Int) : Lk → List (List UInt8) := if askedV n R k [i] = 0 then upd R k ((R k).eraseIdx i.toNat) else R
def skip (j i : Nat) : Nat := if i < j then i else i + 1
theorem erase_get {β : Type} (l : List β) (j i : Nat) : (l.eraseIdx j)[i]? = l[skip j i]? := by
  unfold skip; rw [List.getElem?_eraseIdx]; split <;> rfl
theorem skip_inj {j i i' : Nat} (h : skip j i = skip j i') : i = i' := by unfold skip at h; split at h <;> split at h <;> omega
/-- A message less: the memory's part. -/
theorem MeshAt.dropped {w w5 w6 : World} {lk q : Int} {mb : Nat} {es es1 : List (Ent Lk)} {ms : Lk → List Value} {k : Lk} {rb ro c cap j : Nat}
    (h : MeshAt w a n lk R F q mb es ms) (hrv : rv es k = .slice (some ⟨rb, ro, none⟩) c cap) (hx : Ext (fun b => b = rb) w w5) (h6 : Stored w5 w6 mb kdl es es1 k (.slice (some ⟨rb, ro, none⟩) ((ms k).length - 1) cap))
    (hrow : Own w5 (.slice (some ⟨rb, ro, none⟩) ((ms k).length - 1) cap) 32 1 ((ms k).length - 1) ((ms k).eraseIdx j)) (hj : j < (ms k).length) :
    MeshAt w6 a n lk (upd R k ((R k).eraseIdx j)) (Grow F w w6) q mb es1 (upd ms k ((ms k).eraseIdx j)) ∧ Ext F w w6 := by
  have hob : (rv es k).ownBlock = some rb := by rw [hrv]; rfl
  have hG : Ext (fun b => b = mb ∨ (rv es k).ownBlock = some b) w w6 :=
    (hx.mono (G := fun b => b = mb ∨ (rv es k).ownBlock = some b) fun b _ e => .inr (by rw [e]; exact hob)).trans h6.ext fun _ _ e => .inl e
  have hle : ((ms k).eraseIdx j).length = (ms k).length - 1 := List.length_eraseIdx_of_lt hj
  refine ⟨h.turn hG (fun b hb => hb.elim .inl fun e => .inr (.inl e)) h6.has h6.get ?_ ?_ ?_ ?_ ?_ ?_, hG.mono fun b _ e => e.elim (fun e => e ▸ h.fm) (h.frow _ _)⟩
  · rw [hle]
    exact hrow.ext h6.ext fun b hb e => by
      have : rb = b := by simpa [Value.ownBlock] using hb
      exact h.ne_m_row hob (this.trans e)
  · rw [hle, List.length_eraseIdx_of_lt (by rw [← h.len k]; exact hj), h.len k]
  · intro i m x hm hxx
    rw [erase_get] at hm hxx
    exact Own.ext (h.msg k _ m x hm hxx) hG fun b hb e => e.elim (h.ne_m_msg hm hb) (h.ne_row_msg hm hb)
  · intro b hb
    have : rb = b := by simpa [Value.ownBlock] using hb
    exact .inl (this ▸ hob)
  · intro i m b hm hb
    rw [erase_get] at hm
    exact .inl ⟨_, m, hm, hb⟩
  · intro i i' m m' b hm hm' hb hb'
    rw [erase_get] at hm hm'
    exact skip_inj (h.msgSep _ _ _ _ _ _ _ hm hm' hb hb').2
set_option maxRecDepth 100000 in
set_option maxHeartbeats 2000000 in
theorem clear_any (h : IsMesh w a n 0 R F) (x y : Int) :
    Calls Tryd.prog 38 #[.pointer (some ⟨a, 0, none⟩), .int .i64 x, .int .i64 y] w (Did (.int .i64 (askedV n R (x, y) [])) w a n (clearR n R (x, y)) F) := by
  have H := Lib.hid h; clear h
  go_enter_defers Tryd.func38, Tryd.ntmps38
  go_wp2_with fail
  refine (lock_mesh H.out).mono ?_
  rintro e w1 ⟨rfl, H1, hx1, hs1⟩
  have HH1 := Lib.hid H1
  have Hx1 := Lib.hid hx1
  clear hs1 H1 hx1
  go_wp2_with fail
  have hal : Ext Nil w1 (w1.alloc (Obj.cells #[Value.int IntKind.i64 x, Value.int IntKind.i64 y] 68)) := ((Ext.refl _ _).alloc _)
  refine (asked_any (HH1.out.grown hal) x y _ [] (ints_nil _) (by simp)).mono ?_
  rintro e w2 ⟨rfl, hx2⟩
  have c0 : w2.cell? ⟨w1.heap.size, 0, none⟩ = some (.int .i64 x) := by rw [hx2.cells _ _ (by simp)]; simp
  have c1 : w2.cell? ⟨w1.heap.size, 1, none⟩ = some (.int .i64 y) := by rw [hx2.cells _ _ (by simp)]; simp
  have Hx2 := Lib.hid (hal.extN hx2)
  clear hx2 hal
  obtain ⟨kb, hkb⟩ : ∃ kb, kb = w1.heap.size := ⟨_, rfl⟩
  rw [← hkb] at c0 c1 ⊢
  clear hkb
  obtain ⟨ev, hev⟩ : ∃ ev, ev = askedV n R (x, y) [] := ⟨_, rfl⟩
  rw [← hev]
  have Hev := Lib.hid hev; clear hev
  have hkb2 : kb < w2.heap.size := World.block_lt_of_cell? w2 _ c0
  by_cases hz : ev = 0
  case neg =>
    have hb : (ev != 0) = true := by rw [bne_iff_ne]; exact hz
    have Hz := Lib.hid hz; clear hz
    go_wp2
    refine leaves_cons (f := 25) (args := #[.pointer (some ⟨a, 0, none⟩)]) (by simp) (by simp [go_sem]) ?_
    refine (unlock_mesh .returning (HH1.out.grown Hx2.out)).mono ?_
    rintro e u' w9 ⟨rfl, rfl, h9, hx9, hs9⟩
    have e1 : askedV n R (x, y) [] = ev := Hev.out.symm
    have e2 : clearR n R (x, y) = R := by unfold clearR; rw [e1, if_neg Hz.out]
    rw [e1, e2]
    exact ⟨_, results_tmp rfl _ _ _, did_read (Hx1.out.trans' Hx2.out.nilMono) h9 hx9⟩
  case pos =>
    subst hz
    obtain ⟨q, mb, es, ms, M⟩ := HH1.out.grown Hx2.out
    have m3 := M.cell.2.2.2.1
    have ha2 : a < w2.heap.size := M.bound _ M.fa
    have HM := Lib.hid M; clear M
    have e1 : Hid (askedV n R (x, y) [] = 0) := Hev.out.symm
    go_wp2_with fail
    refine X.wp_region_plan 5 [(0, true), (1, true), (2, true), (3, true), (4, true)] [(5, false)] (by kernel_rfl) (by kernel_rfl) (fun w5 hxw5 hh => ?_)
    clear hh
    repeat
      refine X.wpE_still (o := ⟨_, _, _, _, _, _⟩) rfl rfl ?_
      apply Exists.intro
      refine ⟨fun w' hE => ?_, ?_⟩
      · have hE2 := hxw5.extN hE
        have hc := hE2.cells
        go_simp
        rfl
      simp only [Act.put, List.setIfInBounds_toArray, List.set_cons_succ, List.set_cons_zero]
    refine X.wpE_nil ?_
    obtain ⟨w6, es1, hr6, h6⟩ := X.run_mapUpdate linkKey Tryd.underlying57 (HM.out.map.ext hxw5 id) (x, y) nilS
    have hr6' : (Instr.mapUpdate 57 (.map (some mb)) (.agg #[.int .i64 x, .int .i64 y]) nilS).run Tryd.prog w5 = .ok () w6 := hr6
    obtain ⟨M6, hx6⟩ := MeshAt.replaced (d := (ms (x, y)).length) HM.out hxw5 h6 (by simp only [Nat.sub_self, List.drop_length]; exact Own.nil _ _ _) fun b hb => by cases hb
    rw [HM.out.len (x, y), List.drop_length] at M6
    have Hx6 := Lib.hid hx6
    have HM6 := Lib.hid M6
    clear hr6 hx6 M6 h6
    refine X.wpT_act (o := ⟨_, _, _, _, _, _⟩) rfl rfl ?_
    apply Exists.intro
    refine ⟨?_, ?_⟩
    · go_simp
      rfl
    clear hr6'
    simp only [Act.put]
    refine X.wpT_nil ?_
    go_wp2
    refine leaves_cons (f := 25) (args := #[.pointer (some ⟨a, 0, none⟩)]) (by simp) (by simp [go_sem]) ?_
    refine (unlock_mesh .returning ⟨_, _, _, _, HM6.out⟩).mono ?_
    rintro e u' w9 ⟨rfl, rfl, h9, hx9, hs9⟩
    have e2 : clearR n R (x, y) = upd R (x, y) [] := by unfold clearR; rw [e1.out, if_pos rfl]
    rw [e1.out, e2]
    exact ⟨_, results_tmp rfl _ _ _, did_door (Hx1.out.trans' Hx2.out.nilMono) Hx6.out h9 hx9⟩
set_option maxRecDepth 100000 in
set_option maxHeartbeats 2000000 in
theorem drop_any (h : IsMesh w a n 0 R F) (x y i : Int) (hcap : (R (x, y)).length ≤ 1024) :
    Calls Tryd.prog 32 #[.pointer (some ⟨a, 0, none⟩), .int .i64 x, .int .i64 y, .int .i64 i] w (Did (.int .i64 (askedV n R (x, y) [i])) w a n (dropR n R (x, y) i) F) := by
  have H := Lib.hid h; clear h
  go_enter_defers Tryd.func32, Tryd.ntmps32
  go_wp2_with fail
  refine (lock_mesh H.out).mono ?_
  rintro e w1 ⟨rfl, H1, hx1, hs1⟩
  have HH1 := Lib.hid H1
  have Hx1 := Lib.hid hx1
  clear hs1 H1 hx1
  go_wp2_with fail
  have hal : Ext Nil w1 ((w1.alloc (Obj.cells #[Value.int IntKind.i64 x, Value.int IntKind.i64 y] 68)).alloc (Obj.cells #[Value.int IntKind.i64 i] 3)) := ((Ext.refl _ _).alloc _).alloc _
  have hin : Ints ((w1.alloc (Obj.cells #[Value.int IntKind.i64 x, Value.int IntKind.i64 y] 68)).alloc (Obj.cells #[Value.int IntKind.i64 i] 3)) (.slice (some ⟨w1.heap.size + 1, 0, none⟩) 1 1) [i] := by
    have := ints_new1 (w1.alloc (Obj.cells #[Value.int IntKind.i64 x, Value.int IntKind.i64 y] 68)) i
    rwa [World.size_alloc] at this
  refine (asked_any (HH1.out.grown hal) x y _ [i] (hin) (by simp)).mono ?_
  rintro e w2 ⟨rfl, hx2⟩
  have c0 : w2.cell? ⟨w1.heap.size, 0, none⟩ = some (.int .i64 x) := by rw [hx2.cells _ _ (by simp; omega)]; simp [World.cell?_alloc_past]
  have c1 : w2.cell? ⟨w1.heap.size, 1, none⟩ = some (.int .i64 y) := by rw [hx2.cells _ _ (by simp; omega)]; simp [World.cell?_alloc_past]
  have Hx2 := Lib.hid (hal.extN hx2)
  clear hx2 hal hin
  obtain ⟨kb, hkb⟩ : ∃ kb, kb = w1.heap.size := ⟨_, rfl⟩
  rw [← hkb] at c0 c1 ⊢
  have HkF : Hid (∀ b, F b → b < kb) := by show ∀ b, F b → b < kb; rw [hkb]; exact HH1.out.bound
  clear hkb
  obtain ⟨ev, hev⟩ : ∃ ev, ev = askedV n R (x, y) [i] := ⟨_, rfl⟩
  rw [← hev]
  have Hev := Lib.hid hev; clear hev
  have hkb2 : kb < w2.heap.size := World.block_lt_of_cell? w2 _ c0
  by_cases hz : ev = 0
  case neg =>
    have hb : (ev != 0) = true := by rw [bne_iff_ne]; exact hz
    have Hz := Lib.hid hz; clear hz
    go_wp2
    refine leaves_cons (f := 25) (args := #[.pointer (some ⟨a, 0, none⟩)]) (by simp) (by simp [go_sem]) ?_
    refine (unlock_mesh .returning (HH1.out.grown Hx2.out)).mono ?_
    rintro e u' w9 ⟨rfl, rfl, h9, hx9, hs9⟩
    have e1 : askedV n R (x, y) [i] = ev := Hev.out.symm
    have e2 : dropR n R (x, y) i = R := by unfold dropR; rw [e1, if_neg Hz.out]
    rw [e1, e2]
    exact ⟨_, results_tmp rfl _ _ _, did_read (Hx1.out.trans' Hx2.out.nilMono) h9 hx9⟩
  case pos =>
    subst hz
    obtain ⟨q, mb, es, ms, M⟩ := HH1.out.grown Hx2.out
    have m3 := M.cell.2.2.2.1
    have ha2 : a < w2.heap.size := M.bound _ M.fa
    have hth := Lib.hid (asked_zero Hev.out).1
    have hij := (asked_zero Hev.out).2 i (by simp)
    obtain ⟨j, rfl⟩ := Int.eq_ofNat_of_zero_le hij.1
    have hj0 : (0 : Int) ≤ (j : Int) := hij.1
    have hj1 : (j : Int) < ((R (x, y)).length : Int) := hij.2
    clear hij
    have hjn : j < (R (x, y)).length := by omega
    obtain ⟨rb, ro, cap, m, l, hrv, hlc, hm, hRl, hmc, hfz, hmsg⟩ := M.elem2 (k := (x, y)) (i := j) hjn
    obtain ⟨adm, cm, rfl, hcm, hadm⟩ := Own.slice2 hmsg
    have hl := look_mesh M (x, y)
    rw [hrv] at hl
    have hrb : rb < w2.heap.size := World.block_lt_of_cell? w2 _ hmc
    have HM := Lib.hid M
    have Hrv := Lib.hid hrv
    have Hmsg := Lib.hid hmsg
    have Hm := Lib.hid hm
    have HRl := Lib.hid hRl
    clear M hrv hmsg hm hRl hlc
    have hfz0 := hfz 0
    clear hfz hmc hfz0
    obtain ⟨kk, hkk⟩ : ∃ kk, (R (x, y)).length = kk + 1 := ⟨(R (x, y)).length - 1, by omega⟩
    rw [hkk] at hl hj1 hjn hcap
    have hrow : Own w2 (.slice (some ⟨rb, ro, none⟩) (kk + 1) cap) 32 1 (kk + 1) (ms (x, y)) := by
      have := HM.out.row (x, y)
      rwa [Hrv.out, HM.out.len (x, y), hkk] at this
    have Hrow := Lib.hid hrow
    have Hkk := Lib.hid hkk
    have Hrv2 : Hid (rv es (x, y) = .slice (some ⟨rb, ro, none⟩) (kk + 1) cap) := by show rv es (x, y) = _; rw [Hrv.out, hkk]
    have e1 : Hid (askedV n R (x, y) [(j : Int)] = 0) := Hev.out.symm
    clear hrow hkk
    go_wp2_with fail
    have hmbrb : mb ≠ rb := fun e => HM.out.ne_m_row (k := (x, y)) (b := rb) (by rw [Hrv.out]; rfl) e.symm
    have hab : a ≠ rb := fun e => HM.out.ne_a_row (k := (x, y)) (b := rb) (by rw [Hrv.out]; rfl) e.symm
    have hkb : kb ≠ rb := fun e => Nat.lt_irrefl kb (by have := HkF.out rb (HM.out.frow (x, y) rb (by rw [Hrv.out]; rfl)); omega)
    have m3' := fun w' (hE : Ext (fun b => b = rb) w2 w') => hE.cell m3 hab
    have c0' := fun w' (hE : Ext (fun b => b = rb) w2 w') => hE.cell c0 hkb
    have c1' := fun w' (hE : Ext (fun b => b = rb) w2 w') => hE.cell c1 hkb
    have hl' := fun w' (hE : Ext (fun b => b = rb) w2 w') => X.run_lookup linkKey Tryd.underlying57 zeroRow (HM.out.map.ext hE hmbrb) (x, y) false
    have Hg := Lib.hid (And.intro m3' (And.intro c0' (And.intro c1' hl')))
    clear m3 c0 c1 m3' c0' c1' hl' hl
    refine X.wp_region_planG (fun b => b = rb) 15 [(0, true), (1, true), (2, true), (3, true), (4, true), (5, true), (6, true), (7, true), (8, true), (9, true), (10, true), (11, true), (12, true), (13, true), (14, false)] [(15, false)] (by kernel_rfl) (by kernel_rfl) (fun w3 hxw3 hh => ?_)
    clear hh
    repeat
      refine X.wpE_still (o := ⟨_, _, _, _, _, _⟩) rfl rfl ?_
      apply Exists.intro
      refine ⟨fun w' hE => ?_, ?_⟩
      · have hE2 := hxw3.nilMono.trans' hE
        have g1 := Hg.out.1 w' hE2
        have g2 := Hg.out.2.1 w' hE2
        have g3 := Hg.out.2.2.1 w' hE2
        have g4 : (Instr.lookup 57 (.map (some mb)) (.agg #[.int .i64 x, .int .i64 y]) false).run Tryd.prog w' = .ok (.slice (some ⟨rb, ro, none⟩) (kk + 1) cap) w' := by
          have := Hg.out.2.2.2 w' hE2
          rwa [show (if false = true then Value.tuple #[(X.get es (x, y)).getD nilS, .bool (X.get es (x, y)).isSome] else (X.get es (x, y)).getD nilS) = .slice (some ⟨rb, ro, none⟩) (kk + 1) cap from Hrv2.out] at this
        clear hE2
        go_simp
        rfl
      simp only [Act.put, List.setIfInBounds_toArray, List.set_cons_succ, List.set_cons_zero]
    have hones : ∀ u ∈ ms (x, y), u.oneCell' = true := fun u hu => by
      obtain ⟨i, hi, rfl⟩ := List.getElem_of_mem hu
      obtain ⟨_, _, h2⟩ := HM.out.msgE (List.getElem?_eq_getElem hi)
      exact Own.one h2
    refine X.wpE_call (o := ⟨_, _, _, _, _, _⟩) rfl rfl ?_
    apply Exists.intro
    apply Exists.intro
    refine ⟨?_, ?_⟩
    · go_simp
      exact ⟨rfl, rfl⟩
    rw [show IntKind.i64.wrap ((j : Int) + 1) = (j : Int) + 1 by rw [IntKind.wrap_i64]; omega]
    refine (delete_any (k := kk) (i := j) (Hrow.out.ext hxw3 fun _ _ h => h) hjn (by omega) hones).mono ?_
    rintro e w5 ⟨rfl, hown5, hx5, hs5⟩
    refine ⟨_, rfl, hx5, ?_⟩
    simp only [Act.put, List.setIfInBounds_toArray, List.set_cons_succ, List.set_cons_zero]
    refine X.wpE_nil ?_
    have hx25 : Ext (fun b => b = rb) w2 w5 := hxw3.nilMono.trans hx5 fun _ _ e => e
    obtain ⟨w6, es1, hr6, h6⟩ := X.run_mapUpdate linkKey Tryd.underlying57 (HM.out.map.ext hx25 hmbrb) (x, y) (.slice (some ⟨rb, ro, none⟩) kk cap)
    have hr6' : (Instr.mapUpdate 57 (.map (some mb)) (.agg #[.int .i64 x, .int .i64 y]) (.slice (some ⟨rb, ro, none⟩) kk cap)).run Tryd.prog w5 = .ok () w6 := hr6
    have hlen := (HM.out.len (x, y)).trans Hkk.out
    obtain ⟨M6, hx6⟩ := MeshAt.dropped HM.out Hrv.out hx25 (by rw [hlen]; exact h6) (j := j) (by rw [hlen]; exact hown5) (by omega)
    have Hx6 := Lib.hid hx6
    have HM6 := Lib.hid M6
    clear hr6 hx6 M6 h6 hown5 hx5 hs5 hx25 hlen hones
    refine X.wpT_act (o := ⟨_, _, _, _, _, _⟩) rfl rfl ?_
    apply Exists.intro
    refine ⟨?_, ?_⟩
    · go_simp
      rfl
    clear hr6'
    simp only [Act.put]
    refine X.wpT_nil ?_
    go_wp2
    refine leaves_cons (f := 25) (args := #[.pointer (some ⟨a, 0, none⟩)]) (by simp) (by simp [go_sem]) ?_
    refine (unlock_mesh .returning ⟨_, _, _, _, HM6.out⟩).mono ?_
    rintro e u' w9 ⟨rfl, rfl, h9, hx9, hs9⟩
    have e2 : dropR n R (x, y) (j : Int) = upd R (x, y) ((R (x, y)).eraseIdx j) := by unfold dropR; rw [e1.out, if_pos rfl]; rfl
    rw [e1.out, e2]
    exact ⟨_, results_tmp rfl _ _ _, did_door (Hx1.out.trans' Hx2.out.nilMono) Hx6.out h9 hx9⟩
end
end Go.Proofs.YtbpjgdmmijehnaaDoor
