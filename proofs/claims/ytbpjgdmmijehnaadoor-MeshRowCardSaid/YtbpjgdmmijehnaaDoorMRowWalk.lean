/-
  MeshRow: its walk.
-/
import Derived.Test.YtbpjgdmmijehnaaDoorMRow
namespace Go.Proofs.YtbpjgdmmijehnaaDoor
open Go Go.RowKit Go.X Go.ChangeShapes Go.WideShapes

/-- What is under way: sent s, taken g. -/
def under (L : List (List UInt8)) (s g : Nat) : List (List UInt8) := (L.drop g).take (s - g)
theorem under_length {L : List (List UInt8)} {s g : Nat} (h : s ≤ L.length) : (under L s g).length = s - g := by
  unfold under; rw [List.length_take, List.length_drop]; omega
theorem under_sent {L : List (List UInt8)} {s g : Nat} {l : List UInt8} (hg : g ≤ s) (hl : L[s]? = some l) : under L s g ++ [l] = under L (s + 1) g := by
  unfold under
  rw [show s + 1 - g = s - g + 1 by omega, List.take_add_one, List.getElem?_drop, show g + (s - g) = s by omega, hl]
  rfl
theorem under_taken {L : List (List UInt8)} {s g : Nat} {l : List UInt8} (hg : g < s) (hl : L[g]? = some l) : under L s g = l :: under L s (g + 1) := by
  unfold under
  have hlt : g < L.length := (List.getElem?_eq_some_iff.1 hl).1
  have : L.drop g = l :: L.drop (g + 1) := by
    rw [List.drop_eq_getElem_cons hlt]
    rw [List.getElem?_eq_getElem hlt] at hl
    simp only [Option.some.injEq] at hl
    rw [hl]
  rw [this, show s - g = (s - (g + 1)) + 1 by omega, List.take_succ_cons]
theorem under_same (L : List (List UInt8)) (s : Nat) : under L s s = [] := by simp [under]

set_option maxRecDepth 100000 in
set_option maxHeartbeats 8000000 in
theorem row_any {W : World} {idle vl vo vt : Value} {L O : List (List UInt8)} {T : List Bool} (hi : IdleAt W idle) (hl : ListsAt W vl L) (ho : ListsAt W vo O) (ht : BoolsAt W vt T) (hb : L.length ≤ 2 ^ 47) :
    Calls Tryd.prog 4 #[vl, vo, vt] W fun e w' => e = .returned (.bool true) ∧ Ext Nil W w' := by
  obtain ⟨ad1, c1, rfl, _, hL⟩ := hl
  obtain ⟨ad2, c2, rfl, _, hO⟩ := ho
  obtain ⟨ad3, c3, rfl, _, hT⟩ := ht
  have Hi := Lib.hid hi; clear hi
  have HL := Lib.hid hL; clear hL
  have HO := Lib.hid hO; clear hO
  have HT := Lib.hid hT; clear hT
  have Hb := Lib.hid hb; clear hb
  go_enter Tryd.func4, Tryd.ntmps4
  go_wp2_with fail
  refine (fixed_any Hi.out).mono ?_
  rintro e w1 ⟨rfl, hx1⟩
  have hB := Lib.hid (hx1.below (Nat.le_refl _) fun _ h => h.elim)
  clear hx1
  go_wp2_with fail
  refine (new_st hB.out (n := 3) (by decide)).mono ?_
  rintro e w2 ⟨a, rfl, h2⟩
  have H2 : Hid (St3 W a [] [] w2) := ⟨_, rfl, fun k => by simp [R0], h2⟩
  clear h2
  go_wp2_with fail
  go_loopw [10, 11, 12] (fun s g i wr => ∃ (s' g' i' : Nat), s = .int .i64 s' ∧ g = .int .i64 g' ∧ i = .int .i64 i' ∧ s' = min i' L.length ∧ g' ≤ s' ∧ i' ≤ L.length + g' ∧ St3 W a (under L s' g') [] wr)
    (fun _ g i _ => (L.length - (intOf i).toNat) + (L.length - (intOf g).toNat))
  case atStart => exact ⟨0, 0, 0, rfl, rfl, rfl, by omega, by omega, by omega, H2.out⟩
  case round =>
    obtain ⟨s, g, i, rfl, rfl, rfl, hs, hg, hig, hst⟩ := hrel
    have Hst := Lib.hid hst; clear hst
    have hB2 := Hb.out
    by_cases hlt : i < L.length
    case pos =>
      obtain rfl : s = i := by omega
      obtain ⟨l, hli⟩ : ∃ l, L[s]? = some l := ⟨_, List.getElem?_eq_getElem hlt⟩
      obtain ⟨_, b, o, m, rfl, hb1, hcell, hbytes⟩ := HL.out s l hli
      obtain ⟨adm, cm, rfl, _⟩ := hbytes.2.1
      have hcr : wr.cell? ⟨b, o + s, none⟩ = some (.slice adm l.length cm) := by rw [Hst.out.below.cell hb1]; exact hcell
      clear hcell
      have Hli := Lib.hid hli; clear hli
      have Hbytes := Lib.hid hbytes; clear hbytes
      clear hs
      go_wp2_with fail
      refine (send_q (Hst.out.old Hbytes.out) _ _ (.head _)).mono ?_
      rintro e w3 ⟨rfl, h3⟩
      have hcr3 : w3.cell? ⟨b, o + s, none⟩ = some (.slice adm l.length cm) := by rw [h3.below.cell hb1, ← Hst.out.below.cell hb1]; exact hcr
      have H3 := Lib.hid h3; clear h3
      obtain ⟨rv, hrv⟩ : ∃ rv, rv = rowV (under L s g) l := ⟨_, rfl⟩
      rw [← hrv]
      have hcases : (rv = 4 ∧ (2097194 : Int) < l.length) ∨ (rv = 3 ∧ ¬ (2097194 : Int) < l.length ∧ s = g + 1024) ∨ rv = 0 := by
        rw [hrv]
        unfold rowV
        rw [under_length (Nat.le_of_lt hlt)]
        split
        · exact .inl ⟨rfl, ‹_›⟩
        · split
          · exact .inr (.inl ⟨rfl, ‹_›, by omega⟩)
          · exact .inr (.inr rfl)
      have Hrv := Lib.hid hrv; clear hrv
      rcases hcases with ⟨rfl, h4⟩ | ⟨rfl, h4, rfl⟩ | rfl
      · go_wp2
        go_ret
        exact ⟨rfl, H3.out.ext⟩
      · go_wp2
        go_ret
        exact ⟨rfl, H3.out.ext⟩
      have e1 : (if rowV (under L s g) l = 0 then under L s g ++ [l] else under L s g) = under L (s + 1) g := by
        rw [← Hrv.out, if_pos rfl, under_sent hg Hli.out]
      have H4 : Hid (St3 W a (under L (s + 1) g) [] w3) := by
        have := H3.out
        rw [e1] at this
        exact this.less fun _ h => by cases h
      clear H3 e1 Hrv hcr
      by_cases hio : s < O.length
      case pos =>
        obtain ⟨lo, hlo⟩ : ∃ l, O[s]? = some l := ⟨_, List.getElem?_eq_getElem hio⟩
        obtain ⟨_, bo, oo, mo, rfl, hbo, hco, hbyteso⟩ := HO.out s lo hlo
        obtain ⟨ado, co, rfl, _⟩ := hbyteso.2.1
        clear hlo
        have hco1 : w3.cell? ⟨bo, oo + s, none⟩ = some (.slice ado lo.length co) := by rw [H4.out.below.cell hbo]; exact hco
        have Hco := Lib.hid hco; clear hco
        have Hbo := Lib.hid hbyteso; clear hbyteso
        go_wp2_with fail
        refine (send_o (H4.out.old Hbo.out) 3 2 (by decide) _ _ (.head _)).mono ?_
        rintro e w4 ⟨r4, rfl, h4⟩
        have hco2 : w4.cell? ⟨bo, oo + s, none⟩ = some (.slice ado lo.length co) := by rw [h4.below.cell hbo]; exact Hco.out
        have H5 := Lib.hid h4; clear h4 hco1
        go_wp2_with fail
        refine (send_o H5.out 1 3 (by decide) _ _ (.head _)).mono ?_
        rintro e w5 ⟨r5, rfl, h5⟩
        have H6 := Lib.hid h5; clear h5 hco2
        go_wp2_with fail
        refine (take_o H6.out Hi.out 3 2 (by decide)).mono ?_
        rintro e w6 ⟨r6, r6', rfl, h6⟩
        have HH : Hid (St3 W a _ [] w6) := h6.less fun _ h => by cases h
        clear h6 H5 H6 Hco Hbo
        obtain ⟨lg, hlg⟩ : ∃ l, L[g]? = some l := ⟨_, List.getElem?_eq_getElem (by omega)⟩
        obtain ⟨_, bg, og, mg, eg, hbg, hcg, hbytesg⟩ := HL.out g lg hlg
        obtain ⟨adg, cg, rfl, _⟩ := hbytesg.2.1
        have Hlg := Lib.hid hlg; clear hlg
        have Hbg := Lib.hid hbytesg; clear hbytesg
        have Hcg := Lib.hid hcg; clear hcg
        simp only [Option.some.injEq, Addr.mk.injEq, and_true] at eg
        obtain ⟨rfl, rfl⟩ := eg
        by_cases hit : s < T.length
        case pos =>
          obtain ⟨x, hx⟩ : ∃ x, T[s]? = some x := ⟨_, List.getElem?_eq_getElem hit⟩
          obtain ⟨bt, ot, rfl, hbt, hct⟩ := HT.out s x hx
          clear hx
          have hct' : w6.cell? ⟨bt, ot + s, none⟩ = some (.bool x) := by rw [HH.out.below.cell hbt]; exact hct
          clear hct
          cases x
          case false =>
            go_wp2_with fail
            refine (len_q HH.out).mono ?_
            rintro e w9 ⟨rfl, h9⟩
            have H9 : Hid (St3 W a (under L (s + 1) g) [] w9) := h9.less fun _ h => by cases h
            clear h9
            rw [under_length (by omega)]
            go_wp2
            go_roundw
            case rel => exact ⟨(s + 1), g, s + 1, by go_num, by go_num, by go_num, by omega, by omega, by omega, H9.out⟩
            case measure => simp [intOf]; omega
          case true =>
            go_wp2_with fail
            refine (take_q (by rw [← under_taken ?_ Hlg.out]; exact HH.out; omega) Hi.out).mono ?_
            rintro e w7 ⟨adt, ct, rfl, h7⟩
            have H7 := Lib.hid h7; clear h7
            have hcg : w7.cell? ⟨b, o + g, none⟩ = some (.slice adg lg.length cg) := by rw [H7.out.below.cell hbg]; exact Hcg.out
            go_wp2_with fail
            refine (same_any (H7.out.at (.head _)).arg ((H7.out.old Hbg.out).at (.head _)).arg).mono ?_
            rintro e w8 ⟨rfl, rfl⟩
            rw [beq_self_eq_true]
            clear hcg
            go_wp2_with fail
            refine (len_q H7.out).mono ?_
            rintro e w9 ⟨rfl, h9⟩
            have H9 : Hid (St3 W a (under L (s + 1) (g + 1)) [] w9) := h9.less fun _ h => by cases h
            clear h9
            rw [under_length (by omega)]
            go_wp2
            go_roundw
            case rel => exact ⟨(s + 1), g + 1, s + 1, by go_num, by go_num, by go_num, by omega, by omega, by omega, H9.out⟩
            case measure => simp [intOf]; omega
        case neg =>
          go_wp2_with fail
          refine (len_q HH.out).mono ?_
          rintro e w9 ⟨rfl, h9⟩
          have H9 : Hid (St3 W a (under L (s + 1) g) [] w9) := h9.less fun _ h => by cases h
          clear h9
          rw [under_length (by omega)]
          go_wp2
          go_roundw
          case rel => exact ⟨(s + 1), g, s + 1, by go_num, by go_num, by go_num, by omega, by omega, by omega, H9.out⟩
          case measure => simp [intOf]; omega
      case neg =>
        obtain ⟨lg, hlg⟩ : ∃ l, L[g]? = some l := ⟨_, List.getElem?_eq_getElem (by omega)⟩
        obtain ⟨_, bg, og, mg, eg, hbg, hcg, hbytesg⟩ := HL.out g lg hlg
        obtain ⟨adg, cg, rfl, _⟩ := hbytesg.2.1
        have Hlg := Lib.hid hlg; clear hlg
        have Hbg := Lib.hid hbytesg; clear hbytesg
        have Hcg := Lib.hid hcg; clear hcg
        simp only [Option.some.injEq, Addr.mk.injEq, and_true] at eg
        obtain ⟨rfl, rfl⟩ := eg
        by_cases hit : s < T.length
        case pos =>
          obtain ⟨x, hx⟩ : ∃ x, T[s]? = some x := ⟨_, List.getElem?_eq_getElem hit⟩
          obtain ⟨bt, ot, rfl, hbt, hct⟩ := HT.out s x hx
          clear hx
          have hct' : w3.cell? ⟨bt, ot + s, none⟩ = some (.bool x) := by rw [H4.out.below.cell hbt]; exact hct
          clear hct
          cases x
          case false =>
            go_wp2_with fail
            refine (len_q H4.out).mono ?_
            rintro e w9 ⟨rfl, h9⟩
            have H9 : Hid (St3 W a (under L (s + 1) g) [] w9) := h9.less fun _ h => by cases h
            clear h9
            rw [under_length (by omega)]
            go_wp2
            go_roundw
            case rel => exact ⟨(s + 1), g, s + 1, by go_num, by go_num, by go_num, by omega, by omega, by omega, H9.out⟩
            case measure => simp [intOf]; omega
          case true =>
            go_wp2_with fail
            refine (take_q (by rw [← under_taken ?_ Hlg.out]; exact H4.out; omega) Hi.out).mono ?_
            rintro e w7 ⟨adt, ct, rfl, h7⟩
            have H7 := Lib.hid h7; clear h7
            have hcg : w7.cell? ⟨b, o + g, none⟩ = some (.slice adg lg.length cg) := by rw [H7.out.below.cell hbg]; exact Hcg.out
            go_wp2_with fail
            refine (same_any (H7.out.at (.head _)).arg ((H7.out.old Hbg.out).at (.head _)).arg).mono ?_
            rintro e w8 ⟨rfl, rfl⟩
            rw [beq_self_eq_true]
            clear hcg
            go_wp2_with fail
            refine (len_q H7.out).mono ?_
            rintro e w9 ⟨rfl, h9⟩
            have H9 : Hid (St3 W a (under L (s + 1) (g + 1)) [] w9) := h9.less fun _ h => by cases h
            clear h9
            rw [under_length (by omega)]
            go_wp2
            go_roundw
            case rel => exact ⟨(s + 1), g + 1, s + 1, by go_num, by go_num, by go_num, by omega, by omega, by omega, H9.out⟩
            case measure => simp [intOf]; omega
        case neg =>
          go_wp2_with fail
          refine (len_q H4.out).mono ?_
          rintro e w9 ⟨rfl, h9⟩
          have H9 : Hid (St3 W a (under L (s + 1) g) [] w9) := h9.less fun _ h => by cases h
          clear h9
          rw [under_length (by omega)]
          go_wp2
          go_roundw
          case rel => exact ⟨(s + 1), g, s + 1, by go_num, by go_num, by go_num, by omega, by omega, by omega, H9.out⟩
          case measure => simp [intOf]; omega
    case neg =>
      have hgs : g < s ∨ ¬ g < s := by omega
      rcases hgs with hgs | hgs
      case inr =>
        obtain rfl : s = L.length := by omega
        clear hs
        obtain rfl : g = L.length := by omega
        go_wp2_with fail
        refine (take_e (by have := Hst.out; rwa [under_same] at this) Hi.out).mono ?_
        rintro e w4 ⟨rfl, h4⟩
        have hid := (Hi.out.below h4.below Hi.out.pos)
        have hg := hid.2
        have H5 := Lib.hid h4; clear h4
        have Hid4 := Lib.hid hid; clear hid
        go_wp2_with (go_at_call 13; refine (oneErr_same Hid4.out.1).mono ?_; rintro e w6 ⟨rfl, rfl⟩)
        go_ret
        exact ⟨rfl, H5.out.ext⟩
      obtain rfl : s = L.length := by omega
      clear hs
      by_cases hio : i < O.length
      case pos =>
        obtain ⟨lo, hlo⟩ : ∃ l, O[i]? = some l := ⟨_, List.getElem?_eq_getElem hio⟩
        obtain ⟨_, bo, oo, mo, rfl, hbo, hco, hbyteso⟩ := HO.out i lo hlo
        obtain ⟨ado, co, rfl, _⟩ := hbyteso.2.1
        clear hlo
        have hco1 : wr.cell? ⟨bo, oo + i, none⟩ = some (.slice ado lo.length co) := by rw [Hst.out.below.cell hbo]; exact hco
        have Hco := Lib.hid hco; clear hco
        have Hbo := Lib.hid hbyteso; clear hbyteso
        go_wp2_with fail
        refine (send_o (Hst.out.old Hbo.out) 3 2 (by decide) _ _ (.head _)).mono ?_
        rintro e w4 ⟨r4, rfl, h4⟩
        have hco2 : w4.cell? ⟨bo, oo + i, none⟩ = some (.slice ado lo.length co) := by rw [h4.below.cell hbo]; exact Hco.out
        have H5 := Lib.hid h4; clear h4 hco1
        go_wp2_with fail
        refine (send_o H5.out 1 3 (by decide) _ _ (.head _)).mono ?_
        rintro e w5 ⟨r5, rfl, h5⟩
        have H6 := Lib.hid h5; clear h5 hco2
        go_wp2_with fail
        refine (take_o H6.out Hi.out 3 2 (by decide)).mono ?_
        rintro e w6 ⟨r6, r6', rfl, h6⟩
        have HH : Hid (St3 W a _ [] w6) := h6.less fun _ h => by cases h
        clear h6 H5 H6 Hco Hbo
        obtain ⟨lg, hlg⟩ : ∃ l, L[g]? = some l := ⟨_, List.getElem?_eq_getElem (by omega)⟩
        obtain ⟨_, bg, og, mg, eg, hbg, hcg, hbytesg⟩ := HL.out g lg hlg
        obtain ⟨adg, cg, rfl, _⟩ := hbytesg.2.1
        have Hlg := Lib.hid hlg; clear hlg
        have Hbg := Lib.hid hbytesg; clear hbytesg
        have Hcg := Lib.hid hcg; clear hcg
        subst eg
        go_wp2_with fail
        refine (take_q (by rw [← under_taken ?_ Hlg.out]; exact HH.out; omega) Hi.out).mono ?_
        rintro e w7 ⟨adt, ct, rfl, h7⟩
        have H7 := Lib.hid h7; clear h7
        have hcg : w7.cell? ⟨bg, og + g, none⟩ = some (.slice adg lg.length cg) := by rw [H7.out.below.cell hbg]; exact Hcg.out
        go_wp2_with fail
        refine (same_any (H7.out.at (.head _)).arg ((H7.out.old Hbg.out).at (.head _)).arg).mono ?_
        rintro e w8 ⟨rfl, rfl⟩
        rw [beq_self_eq_true]
        clear hcg
        go_wp2_with fail
        refine (len_q H7.out).mono ?_
        rintro e w9 ⟨rfl, h9⟩
        have H9 : Hid (St3 W a (under L L.length (g + 1)) [] w9) := h9.less fun _ h => by cases h
        clear h9
        rw [under_length (by omega)]
        go_wp2
        go_roundw
        case rel => exact ⟨L.length, g + 1, i + 1, by go_num, by go_num, by go_num, by omega, by omega, by omega, H9.out⟩
        case measure => simp [intOf]; omega
      case neg =>
        obtain ⟨lg, hlg⟩ : ∃ l, L[g]? = some l := ⟨_, List.getElem?_eq_getElem (by omega)⟩
        obtain ⟨_, bg, og, mg, eg, hbg, hcg, hbytesg⟩ := HL.out g lg hlg
        obtain ⟨adg, cg, rfl, _⟩ := hbytesg.2.1
        have Hlg := Lib.hid hlg; clear hlg
        have Hbg := Lib.hid hbytesg; clear hbytesg
        have Hcg := Lib.hid hcg; clear hcg
        subst eg
        go_wp2_with fail
        refine (take_q (by rw [← under_taken ?_ Hlg.out]; exact Hst.out; omega) Hi.out).mono ?_
        rintro e w7 ⟨adt, ct, rfl, h7⟩
        have H7 := Lib.hid h7; clear h7
        have hcg : w7.cell? ⟨bg, og + g, none⟩ = some (.slice adg lg.length cg) := by rw [H7.out.below.cell hbg]; exact Hcg.out
        go_wp2_with fail
        refine (same_any (H7.out.at (.head _)).arg ((H7.out.old Hbg.out).at (.head _)).arg).mono ?_
        rintro e w8 ⟨rfl, rfl⟩
        rw [beq_self_eq_true]
        clear hcg
        go_wp2_with fail
        refine (len_q H7.out).mono ?_
        rintro e w9 ⟨rfl, h9⟩
        have H9 : Hid (St3 W a (under L L.length (g + 1)) [] w9) := h9.less fun _ h => by cases h
        clear h9
        rw [under_length (by omega)]
        go_wp2
        go_roundw
        case rel => exact ⟨L.length, g + 1, i + 1, by go_num, by go_num, by go_num, by omega, by omega, by omega, H9.out⟩
        case measure => simp [intOf]; omega
end Go.Proofs.YtbpjgdmmijehnaaDoor
