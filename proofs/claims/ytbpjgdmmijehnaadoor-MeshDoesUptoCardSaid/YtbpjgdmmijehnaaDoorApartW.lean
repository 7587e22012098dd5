/-
  The book: apart, its walk.
-/
import Derived.Test.YtbpjgdmmijehnaaDoorApart
namespace Go.Proofs.YtbpjgdmmijehnaaDoor
open Go.RowKit Go.X

/-- What came out, as it reads now. -/
def Reads (os : List Out) (c : Nat → List UInt8) (w : World) : Prop := ∀ (j : Nat) (x : Out), os[j]? = some x → MsgIs w x.1 (c j) ∧ (c j).length = x.2.2.length
section
variable {w w' w1 w2 w3 wr wa w5 : World} {bk : Nat} {os : List Out} {q : Int} {vo vw v : Value} {K G : Nat → Prop} {c : Nat → List UInt8}
theorem Reads.ext (h : Reads os c w) (hx : Ext G w w') (hn : ∀ (j : Nat) (x : Out) b, os[j]? = some x → x.1.ownBlock = some b → ¬ G b) : Reads os c w' :=
  fun j x hj => ⟨Own.ext (h j x hj).1 hx fun b hb => hn j x b hj hb, (h j x hj).2⟩
theorem Reads.fill {i k b o cap : Nat} {x : Out} {y : UInt8} (h : Reads os c w) (hs : Sep os) (hi : os[i]? = some x) (hx : x.1 = .slice (some ⟨b, o, none⟩) x.2.2.length cap) (hk : k < x.2.2.length) :
    Reads os (updN c i ((c i).set k y)) (w.setCell ⟨b, o + k, none⟩ (.int .u8 y.toNat)) := by
  intro j z hj
  unfold updN
  by_cases e : j = i
  · subst e
    rw [if_pos rfl]
    obtain rfl : z = x := by rw [hi] at hj; simpa using hj.symm
    obtain ⟨h1, h2⟩ := h j z hj
    unfold MsgIs at h1
    rw [hx, h2] at h1
    refine ⟨?_, by rw [List.length_set]; exact h2⟩
    unfold MsgIs
    rw [List.length_set, h2, hx]
    exact own_fill h1 hk
  · rw [if_neg e]
    have hx2 : Ext (fun z => z = b) w (w.setCell ⟨b, o + k, none⟩ (.int .u8 y.toNat)) := (Ext.refl (fun z => z = b) w).setCell (fun _ => rfl) _
    refine ⟨Own.ext (h j z hj).1 hx2 fun b' hb' e' => ?_, (h j z hj).2⟩
    subst e'
    exact e (hs j i z x b' hj hi hb' (by rw [hx]; rfl))

set_option maxRecDepth 100000 in
set_option maxHeartbeats 8000000 in
theorem apart_any (h : BookAt w bk os q vo vw K) (hlen : os.length ≤ 1000) :
    Calls Tryd.prog 23 #[.pointer (some ⟨bk, 0, none⟩)] w fun e w' => e = .returned (.bool true) ∧ Ext (OutB os) w w' := by
  have H := Lib.hid h; clear h
  go_enter Tryd.func23, Tryd.ntmps23
  go_wp2_with fail
  refine (holds_any H.out hlen).mono ?_
  rintro e w1 ⟨rfl, hx1⟩
  have B1 : Hid (BookAt w1 bk os q vo vw K) := H.out.ext hx1 fun _ _ h => h
  have Hx1 := Lib.hid hx1
  clear hx1
  have hSep : Hid (Sep os) := H.out.sep
  have c0 := B1.out.cell.1
  obtain ⟨ado, co, rfl, _⟩ := B1.out.outs.slice2
  have C0 := Lib.hid c0
  have hG : ∀ b, OutB os b → b < w1.heap.size ∧ ∃ C, w1.heap[b]? = some (.cells C 5 (0, 0)) := fun b ⟨x, hx, hb⟩ => ⟨B1.out.bound b (B1.out.km x hx b (.inl hb)), Own.tag (B1.out.msg x hx).1 b hb⟩
  have hGk : ¬ OutB os bk := fun hb => by obtain ⟨_, C, hC⟩ := hG bk hb; rw [B1.out.cells] at hC; cases hC
  have hGo : ∀ b, (Value.slice ado os.length co).ownBlock = some b → ¬ OutB os b := fun b hb hg => by
    obtain ⟨_, C, hC⟩ := hG b hg
    obtain ⟨D, hD⟩ := B1.out.outs.tag b hb
    rw [hD] at hC; cases hC
  have HG := Lib.hid hG
  have HGk := Lib.hid hGk
  have HGo := Lib.hid hGo
  clear c0 hG hGk hGo
  go_wp2_with fail
  go_loopw [4] (fun i wr => ∃ (k : Nat) (c : Nat → List UInt8), i = .int .i64 k ∧ k ≤ os.length ∧ Ext (OutB os) w1 wr ∧ Reads os c wr ∧ (∀ j, j < k → ∀ y ∈ c j, y = mk1 j)) (fun i _ => os.length - (intOf i).toNat)
  case atStart => exact ⟨0, fun j => match os[j]? with | some x => x.2.2 | none => [], rfl, by omega, Ext.refl _ _, fun j x hj => by simp only [hj]; exact ⟨(B1.out.msg x (List.mem_of_getElem? hj)).1, trivial⟩, fun j hj => by omega⟩
  case round =>
    obtain ⟨i, c, rfl, hi, hxr, hrd, hdone⟩ := hrel
    have Hxr := Lib.hid hxr
    have Hrd := Lib.hid hrd
    have Hdone := Lib.hid hdone
    have c0 := hxr.cell C0.out HGk.out
    clear hxr hrd hdone
    by_cases hlt : i < os.length
    case pos =>
      go_wp2_with fail
      clear c0
      have e1 : 0 ≤ (i : Int) % 251 := by omega
      have e2 : (i : Int) % 251 < 251 := by omega
      obtain ⟨b1, o1, cap1, u1, ev1, _, hu1, hc1⟩ := own_elem B1.out.outs hlt
      obtain ⟨x, hx⟩ : ∃ x, os[i]? = some x := ⟨_, List.getElem?_eq_getElem hlt⟩
      rw [List.getElem?_map, hx] at hu1
      simp only [Option.map_some, Option.some.injEq] at hu1
      subst hu1
      injection ev1 with ev1 _ ev1'
      subst ev1 ev1'
      have Hx := Lib.hid hx
      have Hc1 := Lib.hid hc1
      clear hx hc1
      have hm1 := Hrd.out i x Hx.out
      have hshape : ∃ ad cc, x.1 = .slice ad x.2.2.length cc := by
        obtain ⟨h1, h2⟩ := hm1
        unfold MsgIs at h1
        rw [h2] at h1
        obtain ⟨ad, cc, e, _⟩ := h1.slice2
        exact ⟨ad, cc, e⟩
      obtain ⟨ad, cc, hsh⟩ := hshape
      have Hsh := Lib.hid hsh
      have hl5 := (B1.out.msg x (List.mem_of_getElem? Hx.out)).2.2
      clear hm1 hsh
      go_loopw [5] (fun p ws => ∃ (k : Nat) (c' : Nat → List UInt8), p = .int .i64 k ∧ k ≤ x.2.2.length ∧ Ext (OutB os) w1 ws ∧ Reads os c' ws ∧ (∀ j, j < i → ∀ y ∈ c' j, y = mk1 j) ∧ (∀ p, p < k → (c' i)[p]? = some (mk1 i))) (fun p _ => x.2.2.length - (intOf p).toNat)
      case atStart => exact ⟨0, c, rfl, by omega, Hxr.out, Hrd.out, Hdone.out, fun p hp => by omega⟩
      case round =>
        obtain ⟨k, c', rfl, hk, hxs, hrs, hdn, hpre⟩ := hrel
        have Hxs := Lib.hid hxs
        have Hrs := Lib.hid hrs
        have Hdn := Lib.hid hdn
        have Hpre := Lib.hid hpre
        have c0 := hxs.cell C0.out HGk.out
        have d1 : wr.cell? ⟨b1, o1 + i, none⟩ = some (.slice ad x.2.2.length cc) := by rw [← Hsh.out]; exact hxs.cell Hc1.out (HGo.out b1 rfl)
        clear hxs hrs hdn hpre
        by_cases hk2 : k < x.2.2.length
        case pos =>
          obtain ⟨hm, hml⟩ := Hrs.out i x Hx.out
          have hm' : Own wr (.slice ad x.2.2.length cc) 5 1 x.2.2.length (bv (c' i)) := by
            unfold MsgIs at hm
            rwa [hml, Hsh.out] at hm
          obtain ⟨b2, o2, cap2, u2, ev2, _, hu2, hc2⟩ := own_elem hm' hk2
          injection ev2 with ev2 _ ev2'
          subst ev2 ev2'
          have hfz := hm'.frozen (o2 + k)
          have Hm := Lib.hid hm
          have Hml := Lib.hid hml
          have Hu2 := Lib.hid hu2
          clear hm hml hm' hu2
          go_wp2
          go_roundw
          case rel =>
            have hset := Hrs.out.fill (k := k) (y := mk1 i) hSep.out Hx.out Hsh.out hk2
            rw [mk1_nat] at hset
            refine ⟨k + 1, _, by go_num, by omega, Hxs.out.setCell (fun _ => ⟨x, List.mem_of_getElem? Hx.out, by rw [Hsh.out]; rfl⟩) _, hset, ?_, ?_⟩
            · intro j hj
              unfold updN
              rw [if_neg (by omega)]
              exact Hdn.out j hj
            · intro p hp
              unfold updN
              rw [if_pos rfl, List.getElem?_set]
              by_cases e : k = p
              · rw [if_pos e, if_pos (by rw [Hml.out]; omega)]
              · rw [if_neg e]
                exact Hpre.out p (by omega)
          case measure => simp [intOf]; omega
        case neg =>
          obtain rfl : k = x.2.2.length := by omega
          go_wp2
          go_roundw
          case rel =>
            refine ⟨i + 1, c', by go_num, by omega, Hxs.out, Hrs.out, fun j hj y hy => ?_⟩
            by_cases e : j = i
            · subst e
              obtain ⟨p, hp, rfl⟩ := List.getElem_of_mem hy
              have := Hpre.out p (by rw [← (Hrs.out j x Hx.out).2]; exact hp)
              rw [List.getElem?_eq_getElem hp] at this
              simpa using this
            · exact Hdn.out j (by omega) y hy
          case measure => simp [intOf]; omega
    case neg =>
      obtain rfl : i = os.length := by omega
      clear c0
      have hfull : Full os wr := fun j x hj => by
        obtain ⟨h1, h2⟩ := Hrd.out j x hj
        have : c j = List.replicate x.2.2.length (mk1 j) := List.eq_replicate_iff.2 ⟨h2, Hdone.out j (List.getElem?_eq_some_iff.1 hj).1⟩
        rwa [this] at h1
      have HFull := Lib.hid hfull
      clear hfull Hrd Hdone
      obtain ⟨w2, rfl⟩ : ∃ w2, w2 = wr := ⟨wr, rfl⟩
      have c0 := Hxr.out.cell C0.out HGk.out
      go_wp2_with fail
      clear c0
      have hsz := Hxr.out.size
      have Hsz := Lib.hid hsz
      clear hsz
      go_loopw [6, 7] (fun lg i ws => ∃ (k : Nat) (lvs : List Value), i = .int .i64 k ∧ k ≤ os.length ∧ Longs os w2 ws lg k lvs) (fun _ i _ => os.length - (intOf i).toNat)
      case atStart =>
        refine ⟨0, [], rfl, by omega, own_new w2 #[] 32 1 0 0 [] rfl (Nat.le_refl _) (Nat.zero_le _) (by simp) (by simp), ?_, ?_, fun j x lv _ h => by simp at h, fun j lv b h => by simp at h, (Ext.refl _ _).alloc _⟩
        · intro b hb
          have : w2.heap.size = b := by simpa [Value.ownBlock] using hb
          omega
        · exact fun j x hj => Own.ext (HFull.out j x hj) ((Ext.refl Nil _).alloc _) fun _ _ h => h
      case round =>
        obtain ⟨i, lvs, rfl, hi, hL⟩ := hrel
        have HL := Lib.hid hL
        have c0 := (Hxr.out.trans' hL.ext).cell C0.out HGk.out
        clear hL
        obtain ⟨w3, rfl⟩ : ∃ w3, w3 = wr := ⟨wr, rfl⟩
        by_cases hlt : i < os.length
        case pos =>
          obtain ⟨b1, o1, cap1, u1, ev1, _, hu1, hc1⟩ := own_elem B1.out.outs hlt
          obtain ⟨⟨xv, xw, xb⟩, hx⟩ : ∃ x, os[i]? = some x := ⟨_, List.getElem?_eq_getElem hlt⟩
          rw [List.getElem?_map, hx] at hu1
          simp only [Option.map_some, Option.some.injEq] at hu1
          subst hu1
          injection ev1 with ev1 _ ev1'
          subst ev1 ev1'
          obtain ⟨m1, _, hl5⟩ := B1.out.msg _ (List.mem_of_getElem? hx)
          obtain ⟨ad, cc, hsh⟩ := Own.slice m1
          simp only at hsh
          subst hsh
          have d1 : w3.cell? ⟨b1, o1 + i, none⟩ = some (.slice ad xb.length cc) := (Hxr.out.trans' HL.out.ext).cell hc1 (HGo.out b1 rfl)
          have Hx := Lib.hid hx
          clear hx hc1 m1
          have hl5 : xb.length ≤ 2097194 := hl5
          have e1 : 0 ≤ (i : Int) % 251 := by omega
          have e2 : (i : Int) % 251 < 251 := by omega
          go_wp2_with fail
          clear c0 d1
          go_loopw [8, 9] (fun l p wt => ∃ k : Nat, p = .int .i64 k ∧ k ≤ 40 ∧ Growing w3 wt (.slice ad xb.length cc) l xb.length k (mk1 i)) (fun _ p _ => 40 - (intOf p).toNat)
          case atStart => exact ⟨0, rfl, by omega, Growing.begin (HL.out.full i _ Hx.out)⟩
          case round =>
            obtain ⟨k, rfl, hk, hg⟩ := hrel
            obtain ⟨adl, cl, hl⟩ := hg.own.slice
            subst hl
            have Hg := Lib.hid hg
            clear hg
            obtain ⟨wt, rfl⟩ : ∃ wt, wt = wr := ⟨wr, rfl⟩
            have hxlt : ∀ b, (Value.slice ad xb.length cc).ownBlock = some b → b < w3.heap.size := fun b hb => Own.lt (HL.out.full i _ Hx.out) b hb
            have Hxlt := Lib.hid hxlt
            clear hxlt
            by_cases hk2 : k < 40
            case pos =>
              go_wp2_with (at_builtin; refine wpList_append rfl _ _ _ rfl elByte ⟨_, Tryd.underlying32, fun _ h => by cases h⟩ (Own.ext Hg.out.own ((Ext.refl Nil wt).alloc _) fun _ _ h => h) (src_new wt [.int .u8 ((i : Int) % 251 + 1)] 5 (by intro u hu; simp at hu; subst hu; rfl)) rfl rfl (by simp; omega) (by unfold maxLen; simp; omega) ?_; intro v' w' hA)
              go_roundw
              case rel =>
                rw [← mk1_nat] at hA
                exact ⟨k + 1, by go_num, by omega, Hg.out.step Hxlt.out ((Ext.refl Nil wt).alloc _) hA⟩
              case measure => simp [intOf]; omega
            case neg =>
              obtain rfl : k = 40 := by omega
              have hown := (HL.out.own.ext Hg.out.ext fun b h1 h2 => by
                have h3 := HL.out.new b h1
                have h4 := B1.out.bound b (B1.out.km _ (List.mem_of_getElem? Hx.out) b (.inl h2))
                have := Hsz.out; omega)
              have Hown := Lib.hid hown
              clear hown
              go_wp2_with (at_builtin; refine wpList_append rfl _ _ _ rfl elBytes ⟨_, Tryd.underlying25, fun _ h => by cases h⟩ (Own.ext Hown.out ((Ext.refl Nil wt).alloc _) fun _ _ h => h) (src_new wt [.slice adl (xb.length + 40) cl] 32 (by intro u hu; simp at hu; subst hu; rfl)) rfl rfl (by simp; omega) (by unfold maxLen; simp; omega) ?_; intro v' w' hA)
              go_roundw
              case rel =>
                refine ⟨i + 1, _, by go_num, by omega, HL.out.step (i := i) Hx.out hSep.out (fun b hb => Nat.lt_of_lt_of_le (HG.out b hb).1 Hsz.out) hlt (by have := HL.out.own.1; omega) Hg.out ((Ext.refl Nil wt).alloc _) hA⟩
              case measure => simp [intOf]; omega
        case neg =>
          obtain rfl : i = os.length := by omega
          go_wp2_with fail
          clear c0
          go_loop [10] (fun j => ∃ k : Nat, j = .int .i64 k ∧ k ≤ os.length) (fun j => os.length - (intOf j).toNat)
          case atStart => exact ⟨0, rfl, by omega⟩
          case round =>
            obtain ⟨k, rfl, hk⟩ := hrel
            have c0 := (Hxr.out.trans' HL.out.ext).cell C0.out HGk.out
            by_cases hk2 : k < os.length
            case pos =>
              obtain ⟨b1, o1, cap1, u1, ev1, _, hu1, hc1⟩ := own_elem B1.out.outs hk2
              obtain ⟨⟨xv, xw, xb⟩, hx⟩ : ∃ x, os[k]? = some x := ⟨_, List.getElem?_eq_getElem hk2⟩
              rw [List.getElem?_map, hx] at hu1
              simp only [Option.map_some, Option.some.injEq] at hu1
              subst hu1
              injection ev1 with ev1 _ ev1'
              subst ev1 ev1'
              obtain ⟨m1, _, hl5⟩ := B1.out.msg _ (List.mem_of_getElem? hx)
              obtain ⟨ad, cc, hsh⟩ := Own.slice m1
              simp only at hsh
              subst hsh
              have d1 : w3.cell? ⟨b1, o1 + k, none⟩ = some (.slice ad xb.length cc) := (Hxr.out.trans' HL.out.ext).cell hc1 (HGo.out b1 rfl)
              obtain ⟨b3, o3, cap3, lv, rfl, _, hlv, hc3⟩ := own_elem HL.out.own hk2
              have hlong := HL.out.long k _ lv hx hlv
              have hful := HL.out.full k _ hx
              unfold MsgIs at hful
              rw [List.length_replicate] at hful
              have Hlong := Lib.hid hlong
              have Hful := Lib.hid hful
              have hl5 : xb.length ≤ 2097194 := hl5
              clear hx hc1 m1 hlong hful hlv
              go_wp2_with fail
              refine (full_any k xb.length Hful.out (by omega) (by omega)).mono ?_
              rintro e w' ⟨rfl, rfl⟩
              go_wp2_with fail
              refine (full_any k (xb.length + 40) Hlong.out (by omega) (by omega)).mono ?_
              rintro e w' ⟨rfl, rfl⟩
              go_wp2
              go_round
              case rel => exact ⟨k + 1, by go_num, by omega⟩
              case measure => simp [intOf]; omega
            case neg =>
              go_wp2
              go_ret
              exact ⟨rfl, Hx1.out.nilMono.trans' (Hxr.out.trans' HL.out.ext)⟩
end
end Go.Proofs.YtbpjgdmmijehnaaDoor
