/- Link: the reference's Births, a row of its own. Printed by gen_nf.py. -/
import Derived.Test.YtgbdbikjckfgmaaGreatNE
namespace Go.Proofs.YtgbdbikjckfgmaaGreat
open Go.RowKit Go.Shelf

set_option maxRecDepth 100000 in
set_option maxHeartbeats 8000000 in
theorem refBirths_own (v : Value) (p : Pers) (w : World) (h : PersIn w v p) (hp : p.fault = 0) :
    Calls Tryz.prog 68 #[v] w fun e w' => ∃ u, e = .returned u ∧ QS w' w.heap.size u p.born ∧ Below w.heap.size w w' := by
  obtain ⟨pn1, pn2, pn3, pl1, pl2, pl3, pl4, pl5, _⟩ := Pers.ok_facts hp
  have HPF := Lib.hid hp; clear hp
  have HP := Lib.hid h
  obtain ⟨rv, cv, rfl, h1, h2⟩ := h
  obtain ⟨ra, rc, rfl⟩ := h1.slice
  obtain ⟨ca, cc, rfl⟩ := h2.slice
  clear h1 h2
  obtain ⟨i0, hi0, hz0, hz1, hz2⟩ := info_parts Tryz.infoRng
  have HB0 : Hid (Below w.heap.size w (w.alloc (.cells #[.int .i64 p.lo, .int .i64 p.hi, .slice ra p.nr rc, .slice ca p.nc cc] 75))) := below_alloc _ _
  have HK0 : Hid ((w.alloc (.cells #[.int .i64 p.lo, .int .i64 p.hi, .slice ra p.nr rc, .slice ca p.nc cc] 75)).heap[w.heap.size]? = some (.cells #[.int .i64 p.lo, .int .i64 p.hi, .slice ra p.nr rc, .slice ca p.nc cc] 75 (0, 0))) := heap_alloc_new _ _
  go_enter Tryz.func68, Tryz.ntmps68
  go_wp2_with fail
  refine (refAges_any _ p _ (HP.out.below HB0.out) HPF.out).mono ?_
  rintro _ w1 ⟨u1, rfl, hf1, hb1⟩
  have HK1 : Hid (w1.heap[w.heap.size]? = some (.cells #[.int .i64 p.lo, .int .i64 p.hi, .slice ra p.nr rc, .slice ca p.nc cc] 75 (0, 0))) := (hb1.block _ (by simp)).trans HK0.out
  have HB1 : Hid (Below w.heap.size w w1) := below_step HB0.out hb1
  have hs1 := (Array.getElem?_eq_some_iff.1 HK1.out).1
  have HF1 := Lib.hid hf1
  obtain ⟨ua, uc, rfl⟩ := hf1.slice
  obtain ⟨d0, d1, d2, d3⟩ := cells4 HK1.out
  have HU0 : Hid (Upb p p.lo []) := ⟨Nrm.nil, fun n => by
    cases hb : hasR p.born n
    · rfl
    · have := ((born_has HPF.out).2 n).1 hb
      simp [hasR]; omega, by simp⟩
  clear hf1 hb1 HB0 HK0
  go_wp2_with fail
  clear d0 d1 d2 d3
  go_loopw [3, 5] (fun v i wr => ∃ d : Int, p.lo ≤ d ∧ d ≤ p.hi + 1 ∧ i = .int .i64 d ∧ ∃ l : RL, Upb p d l ∧ wr.ownsRow w1.heap.size 71 2 v l.length (flat l) ∧ Below w1.heap.size w1 wr) (fun _ i _ => (p.hi + 1 - intOf i).toNat)
  case atStart => exact ⟨p.lo, Int.le_refl _, by omega, rfl, [], HU0.out, World.ownsRow_nil _ _ _ _, Below.refl _ _⟩
  case round =>
    clear HU0
    obtain ⟨d, hd0, hd1, rfl, l, hup, hown, hbl⟩ := hrel
    obtain ⟨av, ac, rfl⟩ := own_slice' hown
    have HUP := Lib.hid hup; have HOWN := Lib.hid hown; have HBL := Lib.hid hbl
    have HBW : Hid (Below w.heap.size w wr) := below_step HB1.out hbl
    obtain ⟨d0, d1, d2, d3⟩ := cells4 ((hbl.block _ hs1).trans HK1.out)
    have hlen := hup.2.2
    clear hup hown hbl
    by_cases hdh : d ≤ p.hi
    · cases hpos : hasR p.born d
      · go_wp2_with fail
        refine (possible_any _ _ p d _ (HP.out.below HBW.out) HPF.out (HF1.out.below HBL.out)).mono ?_
        rintro _ w2 ⟨rfl, hb2⟩
        have HBN : Hid (Below w1.heap.size w1 w2) := below_step HBL.out hb2
        have HON := Lib.hid (own_fr HOWN.out (Fr.below hb2 (fun _ => False)) (fun _ _ _ _ _ e => e))
        have HUN := Lib.hid (HUP.out.skip hpos)
        clear hb2 d0 d1 d2 d3
        go_wp2
        go_roundw
        case rel => exact ⟨d + 1, by omega, by omega, rfl, l, HUN.out, HON.out, HBN.out⟩
        case measure => simp [intOf]; omega
      · go_wp2_with fail
        refine (possible_any _ _ p d _ (HP.out.below HBW.out) HPF.out (HF1.out.below HBL.out)).mono ?_
        rintro _ w2 ⟨rfl, hb2⟩
        have HBN : Hid (Below w1.heap.size w1 w2) := below_step HBL.out hb2
        have HON := Lib.hid (own_fr HOWN.out (Fr.below hb2 (fun _ => False)) (fun _ _ _ _ _ e => e))
        have HUN := Lib.hid (HUP.out.next hpos hd0)
        have hs2 : w1.heap.size ≤ w2.heap.size := HBN.out.size
        have HLOW := Lib.hid HUP.out.low
        clear hb2 d0 d1 d2 d3
        rcases List.eq_nil_or_concat l with rfl | ⟨l0, ⟨a, hh⟩, rfl⟩
        · have HX : Hid (ext [] d d = [(d, d)]) := rfl
          have hz : decide ((0 : Int) < (([] : RL).length : Int)) = false := by simp
          go_wp2_with (at_builtin; refine wpList_append_lies _ rfl (.tmp 44) (.tmp 48) 119 rfl w1.heap.size 71 i0 (.agg #[.int .i64 0, .int .i64 0]) 2 16 Tryz.underlying119 hi0 hz0 hz1 hz2 rfl (by omega) (.slice av 0 ac) 0 [] rfl (World.ownsRow.alloc HON.out _) ⟨w2.heap.size, 0, none⟩ 1 1 [.int .i64 d, .int .i64 d] rfl rfl ?c1 ?c2 ?c3 ?c4 ?c5 ?c6 (w2.heap.size + 1) ?c7 ?_)
          case c1 => exact World.news_of_block (heap_alloc_new w2 (.cells #[.int .i64 d, .int .i64 d] 71))
          case c2 => simp [Value.oneCell']
          case c3 => omega
          case c4 => unfold maxLen; omega
          case c5 => omega
          case c6 => simp; omega
          case c7 => simp
          intro g cap' X hown hgrow hat hlt1
          have HXB : Hid (Below w1.heap.size w1 X) := HBN.out.trans (((below_alloc w2 (.cells #[.int .i64 d, .int .i64 d] 71)).mono hs2).trans ((Fr.grown hgrow).low (by simp; omega) (fun q hq e => by have := own_low HON.out e; omega)))
          have HXO : Hid (X.ownsRow w1.heap.size 71 2 (.slice (some ⟨g, 0, none⟩) (0 + 1) cap') 1 (flat [(d, d)])) := hown
          clear hown hgrow hat hlt1
          go_wp2
          go_roundw
          case rel => exact ⟨d + 1, by omega, by omega, rfl, _, HUN.out, by rw [HX.out]; exact HXO.out, HXB.out⟩
          case measure => simp [intOf]; omega
        · rw [List.concat_eq_append] at *
          obtain ⟨hl1, hl2⟩ := HLOW.out (a, hh) (by simp)
          simp only [] at hl1 hl2
          have hll : (l0 ++ [(a, hh)]).length = l0.length + 1 := by simp
          have hfc : (flat (l0 ++ [(a, hh)]))[l0.length * 2 + 1]? = some (.int .i64 hh) := flat_cell l0 a hh
          have HX : Hid (ext (l0 ++ [(a, hh)]) d d = if d ≤ hh + 1 then l0 ++ [(a, max hh d)] else (l0 ++ [(a, hh)]) ++ [(d, d)]) := ext_snoc _ _ _ _ _
          have hfl := flat_length (l0 ++ [(a, hh)])
          rw [hll] at hlen hfl
          have HON' : Hid (w2.ownsRow w1.heap.size 71 2 (.slice av (l0.length + 1) ac) (l0.length + 1) (flat (l0 ++ [(a, hh)]))) := by have := HON.out; rw [hll] at this; exact this
          obtain ⟨g, cp, e, _, hg⟩ := HON'.out.form (by omega)
          cases e
          have hc : w2.cell? ⟨g, l0.length * 2 + 1, none⟩ = some (.int .i64 hh) := by rw [HON'.out.cellAt _ (by omega), hfc]
          have hf : w2.frozen? ⟨g, l0.length * 2 + 1, none⟩ = false := HON'.out.frozenAt _
          have HST := Lib.hid (HON'.out.stored (l0.length * 2 + 1) (.int .i64 d))
          rw [flat_set] at HST
          have HLL := Lib.hid hll
          rw [hll]
          clear hfc hfl HON HOWN hll
          generalize hm : l0.length = m at *
          have HM := Lib.hid hm
          clear hm
          have hz : decide ((0 : Int) < (m : Int) + 1) = true := decide_eq_true (by omega)
          by_cases hj : hh = d - 1
          · have hj' : (hh == d - 1) = true := by simpa using hj
            have HX2 : Hid (ext (l0 ++ [(a, hh)]) d d = l0 ++ [(a, d)]) := by unfold Hid; rw [HX.out, if_pos (by omega), show max hh d = d by omega]
            have HXB : Hid (Below w1.heap.size w1 (w2.setCell ⟨g, m * 2 + 1, none⟩ (.int .i64 d))) := HBN.out.trans ((Fr.grown HST.out.2).low hs2 (fun q hq e => by have := own_low HON'.out e; omega))
            clear hj
            go_wp2
            go_roundw
            case rel => exact ⟨d + 1, by omega, by omega, rfl, _, HUN.out, by rw [HX2.out, List.length_append, HM.out]; exact HST.out.1, HXB.out⟩
            case measure => simp [intOf]; omega
          · have hj' : (hh == d - 1) = false := by simpa using hj
            have HX2 : Hid (ext (l0 ++ [(a, hh)]) d d = (l0 ++ [(a, hh)]) ++ [(d, d)]) := by unfold Hid; rw [HX.out, if_neg (by omega)]
            clear hj
            generalize hls : l0 ++ [(a, hh)] = ls at *
            clear hls
            go_wp2_with (at_builtin; refine wpList_append_lies _ rfl (.tmp 44) (.tmp 48) 119 rfl w1.heap.size 71 i0 (.agg #[.int .i64 0, .int .i64 0]) 2 16 Tryz.underlying119 hi0 hz0 hz1 hz2 rfl (by omega) (.slice (some ⟨g, 0, none⟩) (m + 1) ac) (m + 1) (flat ls) rfl (World.ownsRow.alloc HON'.out _) ⟨w2.heap.size, 0, none⟩ 1 1 [.int .i64 d, .int .i64 d] rfl rfl ?d1 ?d2 ?d3 ?d4 ?d5 ?d6 (w2.heap.size + 1) ?d7 ?_)
            case d1 => exact World.news_of_block (heap_alloc_new w2 (.cells #[.int .i64 d, .int .i64 d] 71))
            case d2 => simp [Value.oneCell']
            case d3 => omega
            case d4 => unfold maxLen; omega
            case d5 => omega
            case d6 => simp; omega
            case d7 => simp
            intro g' cap' X hown hgrow hat hlt1
            have HXB : Hid (Below w1.heap.size w1 X) := HBN.out.trans (((below_alloc w2 (.cells #[.int .i64 d, .int .i64 d] 71)).mono hs2).trans ((Fr.grown hgrow).low (by simp; omega) (fun q hq e => by have := own_low HON'.out e; omega)))
            have HXO : Hid (X.ownsRow w1.heap.size 71 2 (.slice (some ⟨g', 0, none⟩) (m + 1 + 1) cap') (ls ++ [(d, d)]).length (flat (ls ++ [(d, d)]))) := by unfold Hid; rw [flat_append, List.length_append, HLL.out]; exact hown
            clear hown hgrow hat hlt1
            go_wp2
            go_roundw
            case rel => exact ⟨d + 1, by omega, by omega, rfl, _, HUN.out, by rw [HX2.out]; exact HXO.out, HXB.out⟩
            case measure => simp [intOf]; omega
    · obtain rfl : l = p.born := HUP.out.end HPF.out (by omega)
      go_wp2
      go_ret
      exact ⟨_, rfl, own_mono HOWN.out HB1.out.size, HBW.out⟩
end Go.Proofs.YtgbdbikjckfgmaaGreat
