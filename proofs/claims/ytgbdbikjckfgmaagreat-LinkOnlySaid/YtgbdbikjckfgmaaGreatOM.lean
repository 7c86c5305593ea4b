/- Link: LinkOnly's walk. Printed by gen_om.py. -/
import Derived.Test.YtgbdbikjckfgmaaGreatOJ
namespace Go.Proofs.YtgbdbikjckfgmaaGreat
open Go.RowKit Go.Shelf

theorem one_len {p : Nat → Bool} {k0 : Nat} (h : ∀ k, p k = decide (k = k0)) : ∀ n, ((List.range n).filter p).length = if k0 < n then 1 else 0
  | 0 => rfl
  | n + 1 => by
    rw [List.range_succ, List.filter_append, List.length_append, one_len h n, List.filter_cons, List.filter_nil, h n]
    by_cases e : n = k0
    · subst e; simp
    · have : (k0 < n + 1) ↔ (k0 < n) := by omega
      simp [e, this]
theorem none_len {p : Nat → Bool} (h : ∀ k, p k = false) (n : Nat) : ((List.range n).filter p).length = 0 := by
  have : (List.range n).filter p = [] := List.filter_eq_nil_iff.2 fun k _ => by rw [h k]; decide
  rw [this]; rfl
theorem OkF.only_len {f : Fl} (h : OkF f) (ho : f.only = true) : ∀ n, n ≤ f.no → (dL f.qP f.nw n).length = cntM f.lst n
  | 0, _ => rfl
  | n + 1, hn => by
    rw [dL_succ, List.length_append, h.only_len ho n (by omega), cntM_succ]
    have e : (dR f.qP n f.nw).length = ((List.range f.nw).filter (f.qP n)).length := by unfold dR; rw [List.length_map]
    rw [e]
    rcases h.lst_or n with e1 | ⟨k, e1⟩
    · have hn : ∀ k, f.qP n k = false := fun k => by
        cases hq : f.qP n k
        · rfl
        · unfold Fl.qP at hq
          rw [Bool.and_eq_true] at hq
          have := h.only_poss ho hq.1 hq.2
          rw [e1] at this; omega
      rw [if_pos e1, none_len hn]; rfl
    · rw [if_neg (by rw [e1]; omega), one_len (k0 := k) (p := f.qP n), if_pos (Fl.g_in (h.lst_g e1)).2]
      intro k'
      cases hq : f.qP n k'
      · refine (decide_eq_false fun e2 => ?_).symm
        subst e2
        unfold Fl.qP at hq
        rw [h.lst_g e1, h.lst_poss e1] at hq; cases hq
      · unfold Fl.qP at hq
        rw [Bool.and_eq_true] at hq
        have := h.only_poss ho hq.1 hq.2
        rw [e1] at this
        exact (decide_eq_true (by omega)).symm
theorem OkF.only_lst {f : Fl} (h : OkF f) (ho : f.only = true) {i : Nat} (hi : i < f.no) : f.lst i = -1 ∨ ∃ k : Nat, f.lst i = k ∧ k < f.nw ∧ f.qS i k = true := by
  rcases h.lst_or i with e1 | ⟨k, e1⟩
  · exact .inl e1
  · refine .inr ⟨k, e1, (Fl.g_in (h.lst_g e1)).2, ?_⟩
    unfold Fl.only at ho
    have h2 := allB_all ho i hi
    rw [e1, Bool.or_eq_true, Int.toNat_natCast] at h2
    rcases h2 with h2 | h2
    · exact absurd (of_decide_eq_true h2) (by omega)
    · unfold Fl.qS; rw [h.lst_g e1, h2]; rfl
set_option maxRecDepth 100000 in
set_option maxHeartbeats 32000000 in
theorem linkOnly_thick (x : FV) (f : Fl) (w : World) (h : FlQ QR w x f) (ht : f.rdy = false) :
    Calls Tryz.prog 7 #[.agg #[.slice x.oa f.no x.oc, .slice x.na f.nw x.nc, .slice x.ma f.nm x.mc]] w fun e w' => e = .returned (.bool true) ∧ Below w.heap.size w w' := by
  obtain ⟨oa, oc, na, nc, ma, mc⟩ := x
  have HTH := Lib.hid (readyW ⟨oa, oc, na, nc, ma, mc⟩ f w h false ht)
  clear h ht
  dsimp only at HTH ⊢
  generalize f.no = no at *
  generalize f.nw = nw at *
  generalize f.nm = nm at *
  have HA := Lib.hid ((BF.base w).alloc #[.slice oa no oc, .slice na nw nc, .slice ma nm mc] 25)
  go_enter Tryz.func7, Tryz.ntmps7
  have c0 := HA.out.cell (.head _) 0
  have c1 := HA.out.cell (.head _) 1
  have c2 := HA.out.cell (.head _) 2
  go_wp2_with fail
  refine (HTH.out _ HA.out.fr).mono ?_
  rintro _ w1 ⟨rfl, hb⟩
  have HA' := Lib.hid (HA.out.below hb)
  clear HA
  have HA := HA'
  clear HA'
  clear hb c0 c1 c2
  go_wp2_with fail
  refine (awake5_any _).mono ?_
  rintro _ w2 ⟨rfl, hb⟩
  have HA' := Lib.hid (HA.out.below hb)
  clear HA
  have HA := HA'
  clear HA'
  clear hb
  go_wp2_with fail
  go_ret
  exact ⟨rfl, HA.out.fr⟩
set_option maxRecDepth 100000 in
set_option maxHeartbeats 32000000 in
theorem linkOnly_one (x : FV) (f : Fl) (w : World) (h : FlQ QR w x f) (hr : f.rdy = true) (hon : f.only = true) :
    Calls Tryz.prog 7 #[.agg #[.slice x.oa f.no x.oc, .slice x.na f.nw x.nc, .slice x.ma f.nm x.mc]] w fun e w' => e = .returned (.bool true) ∧ Below w.heap.size w w' := by
  obtain ⟨oa, oc, na, nc, ma, mc⟩ := x
  obtain ⟨ht, hf⟩ := Fl.rdy_yes hr
  have HTH := Lib.hid (readyW ⟨oa, oc, na, nc, ma, mc⟩ f w h true hr)
  have HFI := Lib.hid (fileW ⟨oa, oc, na, nc, ma, mc⟩ f w h ht)
  have OK := Lib.hid (Fl.ok hf)
  have hno := OK.out.no
  have hnw := OK.out.nw
  have HC1 : Hid (∀ (z : FV) X, FlQ QP X z f → Calls Tryz.prog 37 #[.agg #[.slice z.oa f.no z.oc, .slice z.na f.nw z.nc, .slice z.ma f.nm z.mc]] X (GivesP X (dL f.qS f.nw f.no))) := fun z X hq => by rw [← chL_S]; exact sureF_ok z f X hq hf
  have HC2 : Hid (∀ (z : FV) X, FlQ QP X z f → Calls Tryz.prog 35 #[.agg #[.slice z.oa f.no z.oc, .slice z.na f.nw z.nc, .slice z.ma f.nm z.mc]] X (GivesP X (dL f.qP f.nw f.no))) := fun z X hq => by rw [← chL_P]; exact possF_ok z f X hq hf
  have HC3 : Hid (∀ (z : FV) X, FlQ QP X z f → Calls Tryz.prog 38 #[.agg #[.slice z.oa f.no z.oc, .slice z.na f.nw z.nc, .slice z.ma f.nm z.mc]] X (GivesT X f.no f.lst)) := fun z X hq => (onlyF_ok z f X hq hf).mono fun e w2 h => h.elim (fun q => q.2) (fun q => absurd (hon.symm.trans q.1) (by decide))
  have HLL : Hid ((dL f.qS f.nw f.no).length = (dL f.qP f.nw f.no).length) := OK.out.only_iff.1 hon
  have HCN : Hid ((dL f.qP f.nw f.no).length = cntM f.lst f.no) := OK.out.only_len hon f.no (Nat.le_refl _)
  have HLS := Lib.hid (fun i hi => OK.out.only_lst hon (i := i) hi)
  unfold GivesT at HC3
  have HLG := Lib.hid (dL_len f.qS f.nw f.no)
  have HLP := Lib.hid (dL_len f.qP f.nw f.no)
  have hm8 : f.nw * f.no ≤ 8 * 8 := Nat.mul_le_mul hnw hno
  unfold GivesP at HC1 HC2
  clear h hr ht hf OK hon
  dsimp only at HTH HFI ⊢
  generalize f.qS = q1 at *
  generalize f.qP = q2 at *
  generalize f.lst = ls at *
  generalize f.no = no at *
  generalize f.nw = nw at *
  generalize f.nm = nm at *
  have HA := Lib.hid ((BF.base w).alloc #[.slice oa no oc, .slice na nw nc, .slice ma nm mc] 25)
  go_enter Tryz.func7, Tryz.ntmps7
  have c0 := HA.out.cell (.head _) 0
  have c1 := HA.out.cell (.head _) 1
  have c2 := HA.out.cell (.head _) 2
  go_wp2_with fail
  refine (HTH.out _ HA.out.fr).mono ?_
  rintro _ w1 ⟨rfl, hb⟩
  have HA' := Lib.hid (HA.out.below hb)
  clear HA
  have HA := HA'
  clear HA'
  clear hb c0 c1 c2
  have c0 := HA.out.cell (.head _) 0
  have c1 := HA.out.cell (.head _) 1
  have c2 := HA.out.cell (.head _) 2
  go_wp2_with fail
  refine (HFI.out _ HA.out.fr).mono ?_
  rintro _ w2 ⟨z, rfl, hq, hb⟩
  have HA' := Lib.hid (HA.out.below hb)
  clear HA
  have HA := HA'
  clear HA'
  have HQ := Lib.hid hq
  clear hq hb c0 c1 c2
  go_wp2_with fail
  refine (HC1.out z _ HQ.out).mono ?_
  rintro _ w3 ⟨sa, sc, rfl, hs, hb⟩
  have HA' := Lib.hid (HA.out.below hb)
  clear HA
  have HA := HA'
  clear HA'
  have HSU := Lib.hid hs
  clear hs
  clear hb
  clear HQ
  have c0 := HA.out.cell (.head _) 0
  have c1 := HA.out.cell (.head _) 1
  have c2 := HA.out.cell (.head _) 2
  go_wp2_with fail
  refine (HFI.out _ HA.out.fr).mono ?_
  rintro _ w4 ⟨z, rfl, hq, hb⟩
  have HA' := Lib.hid (HA.out.below hb)
  clear HA
  have HA := HA'
  clear HA'
  have HSU' := Lib.hid (HSU.out.below hb)
  clear HSU
  have HSU := HSU'
  clear HSU'
  have HQ := Lib.hid hq
  clear hq hb c0 c1 c2
  go_wp2_with fail
  refine (HC2.out z _ HQ.out).mono ?_
  rintro _ w5 ⟨pa, pc, rfl, hp, hb⟩
  have HA' := Lib.hid (HA.out.below hb)
  clear HA
  have HA := HA'
  clear HA'
  have HSU' := Lib.hid (HSU.out.below hb)
  clear HSU
  have HSU := HSU'
  clear HSU'
  have HP := Lib.hid hp
  clear hp
  clear hb
  clear HQ
  have c0 := HA.out.cell (.head _) 0
  have c1 := HA.out.cell (.head _) 1
  have c2 := HA.out.cell (.head _) 2
  go_wp2_with fail
  refine (HFI.out _ HA.out.fr).mono ?_
  rintro _ w6 ⟨z, rfl, hq, hb⟩
  have HA' := Lib.hid (HA.out.below hb)
  clear HA
  have HA := HA'
  clear HA'
  have HSU' := Lib.hid (HSU.out.below hb)
  clear HSU
  have HSU := HSU'
  clear HSU'
  have HP' := Lib.hid (HP.out.below hb)
  clear HP
  have HP := HP'
  clear HP'
  have HQ := Lib.hid hq
  clear hq hb c0 c1 c2
  go_wp2_with fail
  refine (HC3.out z _ HQ.out).mono ?_
  rintro _ w7 ⟨la, lc, rfl, hl, hb⟩
  have HA' := Lib.hid (HA.out.below hb)
  clear HA
  have HA := HA'
  clear HA'
  have HSU' := Lib.hid (HSU.out.below hb)
  clear HSU
  have HSU := HSU'
  clear HSU'
  have HP' := Lib.hid (HP.out.below hb)
  clear HP
  have HP := HP'
  clear HP'
  have HL := Lib.hid hl
  clear hl
  clear hb
  clear HQ
  rename World => wb
  have HBB := Lib.hid HA.out.fr
  have HFC : Hid (∀ X, Below wb.heap.size wb X → X.cell? ⟨w.heap.size, 0, none⟩ = some (.slice oa no oc) ∧ X.cell? ⟨w.heap.size, 1, none⟩ = some (.slice na nw nc) ∧ X.cell? ⟨w.heap.size, 2, none⟩ = some (.slice ma nm mc)) := fun X hX => ⟨(HA.out.below hX).cell (.head _) 0, (HA.out.below hX).cell (.head _) 1, (HA.out.below hX).cell (.head _) 2⟩
  have HSU' := Lib.hid (fun X (hX : Below wb.heap.size wb X) => HSU.out.below hX)
  clear HSU
  have HSU := HSU'
  clear HSU'
  have HP' := Lib.hid (fun X (hX : Below wb.heap.size wb X) => HP.out.below hX)
  clear HP
  have HP := HP'
  clear HP'
  have HL' := Lib.hid (fun X (hX : Below wb.heap.size wb X) => HL.out.below hX)
  clear HL
  have HL := HL'
  clear HL'
  clear HA
  clear HC1 HC2 HC3 HTH HFI
  have hlg := HLG.out
  have hlp := HLP.out
  have HSH := Lib.hid (fun o n X (hX : Below wb.heap.size wb X) => has_list (dL q1 nw no) sa sc o n X (HSU.out X hX) (by omega))
  have kg : ¬ (((dL q2 nw no).length : Int) < ((dL q1 nw no).length : Int)) := by have := HLL.out; omega
  have kg' : ¬ ((dL q2 nw no).length < (dL q1 nw no).length) := by have := HLL.out; omega
  go_wp2_with fail
  go_loopw [9, 10] (fun m v wr => ∃ i : Nat, v = .int .i64 (i : Int) ∧ i ≤ no ∧ m = .int .i64 (cntM ls i : Int) ∧ Below wb.heap.size wb wr) (fun _ v _ => no - (intOf v).toNat)
  case atStart => exact ⟨0, rfl, Nat.zero_le _, rfl, Below.refl _ _⟩
  case round =>
    obtain ⟨i, rfl, hi, rfl, hbl⟩ := hrel
    rename World => wx
    have HB := Lib.hid hbl
    clear hbl
    by_cases hlt : i < no
    · obtain ⟨lb, lo, rfl, hlb, hx⟩ := (HL.out _ HB.out).at hlt
      have HCS := Lib.hid (cntM_succ ls i)
      have hcl := cntM_le ls i
      obtain ⟨m2, hm2⟩ : ∃ m2, cntM ls (i + 1) = m2 := ⟨_, rfl⟩
      rw [hm2] at HCS
      have HM2 := Lib.hid hm2
      clear hm2
      generalize cntM ls i = m1 at *
      have ki : (0 : Int) ≤ (i : Int) := by omega
      have kj : (i : Int) < (no : Int) := by omega
      rcases HLS.out i hlt with e1 | ⟨k, e1, hk, hq⟩
      · rw [e1] at hx HCS
        have HE : Hid (m2 = m1) := by unfold Hid; rw [HCS.out, if_pos rfl]
        clear HCS e1
        go_wp2_with fail
        go_roundw
        case rel => exact ⟨i + 1, by go_num, by omega, by rw [HM2.out, HE.out], HB.out⟩
        case measure => simp [intOf]; omega
      · rw [e1] at hx HCS
        have HE : Hid (m2 = m1 + 1) := by unfold Hid; rw [HCS.out, if_neg (by omega)]
        have HHI := Lib.hid (HSH.out (i : Int) (k : Int) _ HB.out)
        rw [dL_has hlt hk, hq] at HHI
        have kw2 : IntKind.i64.wrap ((m1 : Int) + 1) = (m1 : Int) + 1 := IntWalk.i64_in _ (by omega)
        have kk : (0 : Int) ≤ (k : Int) := by omega
        clear HCS e1 hq
        go_wp2_with fail
        refine HHI.out.mono ?_
        rintro _ w9 ⟨rfl, hb⟩
        have HB2 := Lib.hid (HB.out.trans (hb.mono HB.out.size))
        clear hb hx HHI
        go_wp2_with fail
        go_roundw
        case rel => exact ⟨i + 1, by go_num, by omega, by rw [HM2.out, HE.out]; first | rfl | go_num, HB2.out⟩
        case measure => simp [intOf]; omega
    · obtain rfl : no = i := by omega
      have hcn := HCN.out
      rw [← hcn]
      obtain ⟨c0, c1, c2⟩ := HFC.out _ HB.out
      have kl1 : (((dL q1 nw no).length : Int) == ((dL q2 nw no).length : Int)) = true := by rw [HLL.out]; simp
      clear hcn
      generalize (dL q1 nw no).length = n1 at *
      generalize (dL q2 nw no).length = n2 at *
      go_wp2_with fail
      refine (awake5_any _).mono ?_
      rintro _ w33 ⟨rfl, hb⟩
      have HX5 := Lib.hid (HB.out.trans (hb.mono HB.out.size))
      clear hb
      go_wp2_with fail
      go_ret
      exact ⟨rfl, HBB.out.trans (HX5.out.mono HBB.out.size)⟩
set_option maxRecDepth 100000 in
set_option maxHeartbeats 32000000 in
theorem linkOnly_tie (x : FV) (f : Fl) (w : World) (h : FlQ QR w x f) (hr : f.rdy = true) (hon : f.only = false) :
    Calls Tryz.prog 7 #[.agg #[.slice x.oa f.no x.oc, .slice x.na f.nw x.nc, .slice x.ma f.nm x.mc]] w fun e w' => e = .returned (.bool true) ∧ Below w.heap.size w w' := by
  obtain ⟨oa, oc, na, nc, ma, mc⟩ := x
  obtain ⟨ht, hf⟩ := Fl.rdy_yes hr
  have HTH := Lib.hid (readyW ⟨oa, oc, na, nc, ma, mc⟩ f w h true hr)
  have HFI := Lib.hid (fileW ⟨oa, oc, na, nc, ma, mc⟩ f w h ht)
  have OK := Lib.hid (Fl.ok hf)
  have hno := OK.out.no
  have hnw := OK.out.nw
  have HC1 : Hid (∀ (z : FV) X, FlQ QP X z f → Calls Tryz.prog 37 #[.agg #[.slice z.oa f.no z.oc, .slice z.na f.nw z.nc, .slice z.ma f.nm z.mc]] X (GivesP X (dL f.qS f.nw f.no))) := fun z X hq => by rw [← chL_S]; exact sureF_ok z f X hq hf
  have HC2 : Hid (∀ (z : FV) X, FlQ QP X z f → Calls Tryz.prog 35 #[.agg #[.slice z.oa f.no z.oc, .slice z.na f.nw z.nc, .slice z.ma f.nm z.mc]] X (GivesP X (dL f.qP f.nw f.no))) := fun z X hq => by rw [← chL_P]; exact possF_ok z f X hq hf
  have HC3 : Hid (∀ (z : FV) X, FlQ QP X z f → Calls Tryz.prog 38 #[.agg #[.slice z.oa f.no z.oc, .slice z.na f.nw z.nc, .slice z.ma f.nm z.mc]] X fun e w' => e = .returned (.tuple #[.slice none 0 0, .int .i64 10]) ∧ Below X.heap.size X w') := fun z X hq => (onlyF_ok z f X hq hf).mono fun e w2 h => h.elim (fun q => absurd (q.1.symm.trans hon) (by decide)) (fun q => q.2)
  have HLL : Hid ((dL f.qS f.nw f.no).length < (dL f.qP f.nw f.no).length) := by
    have h1 := (dL_le (nw := f.nw) OK.out.qSP f.no).1
    have h2 : (dL f.qS f.nw f.no).length ≠ (dL f.qP f.nw f.no).length := fun e => by rw [OK.out.only_iff.2 e] at hon; cases hon
    unfold Hid; omega
  have HLG := Lib.hid (dL_len f.qS f.nw f.no)
  have HLP := Lib.hid (dL_len f.qP f.nw f.no)
  have hm8 : f.nw * f.no ≤ 8 * 8 := Nat.mul_le_mul hnw hno
  unfold GivesP at HC1 HC2
  clear h hr ht hf OK hon
  dsimp only at HTH HFI ⊢
  generalize f.qS = q1 at *
  generalize f.qP = q2 at *
  generalize f.lst = ls at *
  generalize f.no = no at *
  generalize f.nw = nw at *
  generalize f.nm = nm at *
  have HA := Lib.hid ((BF.base w).alloc #[.slice oa no oc, .slice na nw nc, .slice ma nm mc] 25)
  go_enter Tryz.func7, Tryz.ntmps7
  have c0 := HA.out.cell (.head _) 0
  have c1 := HA.out.cell (.head _) 1
  have c2 := HA.out.cell (.head _) 2
  go_wp2_with fail
  refine (HTH.out _ HA.out.fr).mono ?_
  rintro _ w1 ⟨rfl, hb⟩
  have HA' := Lib.hid (HA.out.below hb)
  clear HA
  have HA := HA'
  clear HA'
  clear hb c0 c1 c2
  have c0 := HA.out.cell (.head _) 0
  have c1 := HA.out.cell (.head _) 1
  have c2 := HA.out.cell (.head _) 2
  go_wp2_with fail
  refine (HFI.out _ HA.out.fr).mono ?_
  rintro _ w2 ⟨z, rfl, hq, hb⟩
  have HA' := Lib.hid (HA.out.below hb)
  clear HA
  have HA := HA'
  clear HA'
  have HQ := Lib.hid hq
  clear hq hb c0 c1 c2
  go_wp2_with fail
  refine (HC1.out z _ HQ.out).mono ?_
  rintro _ w3 ⟨sa, sc, rfl, hs, hb⟩
  have HA' := Lib.hid (HA.out.below hb)
  clear HA
  have HA := HA'
  clear HA'
  have HSU := Lib.hid hs
  clear hs
  clear hb
  clear HQ
  have c0 := HA.out.cell (.head _) 0
  have c1 := HA.out.cell (.head _) 1
  have c2 := HA.out.cell (.head _) 2
  go_wp2_with fail
  refine (HFI.out _ HA.out.fr).mono ?_
  rintro _ w4 ⟨z, rfl, hq, hb⟩
  have HA' := Lib.hid (HA.out.below hb)
  clear HA
  have HA := HA'
  clear HA'
  have HSU' := Lib.hid (HSU.out.below hb)
  clear HSU
  have HSU := HSU'
  clear HSU'
  have HQ := Lib.hid hq
  clear hq hb c0 c1 c2
  go_wp2_with fail
  refine (HC2.out z _ HQ.out).mono ?_
  rintro _ w5 ⟨pa, pc, rfl, hp, hb⟩
  have HA' := Lib.hid (HA.out.below hb)
  clear HA
  have HA := HA'
  clear HA'
  have HSU' := Lib.hid (HSU.out.below hb)
  clear HSU
  have HSU := HSU'
  clear HSU'
  have HP := Lib.hid hp
  clear hp
  clear hb
  clear HQ
  have c0 := HA.out.cell (.head _) 0
  have c1 := HA.out.cell (.head _) 1
  have c2 := HA.out.cell (.head _) 2
  go_wp2_with fail
  refine (HFI.out _ HA.out.fr).mono ?_
  rintro _ w6 ⟨z, rfl, hq, hb⟩
  have HA' := Lib.hid (HA.out.below hb)
  clear HA
  have HA := HA'
  clear HA'
  have HSU' := Lib.hid (HSU.out.below hb)
  clear HSU
  have HSU := HSU'
  clear HSU'
  have HP' := Lib.hid (HP.out.below hb)
  clear HP
  have HP := HP'
  clear HP'
  have HQ := Lib.hid hq
  clear hq hb c0 c1 c2
  go_wp2_with fail
  refine (HC3.out z _ HQ.out).mono ?_
  rintro _ w7 ⟨rfl, hb⟩
  have HA' := Lib.hid (HA.out.below hb)
  clear HA
  have HA := HA'
  clear HA'
  have HSU' := Lib.hid (HSU.out.below hb)
  clear HSU
  have HSU := HSU'
  clear HSU'
  have HP' := Lib.hid (HP.out.below hb)
  clear HP
  have HP := HP'
  clear HP'
  clear hb
  clear HQ
  have hll := HLL.out
  have kg : ¬ (((dL q2 nw no).length : Int) < ((dL q1 nw no).length : Int)) := by omega
  have kl : ((dL q1 nw no).length : Int) < ((dL q2 nw no).length : Int) := by omega
  generalize (dL q1 nw no).length = n1 at *
  generalize (dL q2 nw no).length = n2 at *
  go_wp2_with fail
  refine (awake5_any _).mono ?_
  rintro _ w8 ⟨rfl, hb⟩
  have HA' := Lib.hid (HA.out.below hb)
  clear HA
  have HA := HA'
  clear HA'
  have HSU' := Lib.hid (HSU.out.below hb)
  clear HSU
  have HSU := HSU'
  clear HSU'
  have HP' := Lib.hid (HP.out.below hb)
  clear HP
  have HP := HP'
  clear HP'
  clear hb
  go_wp2_with fail
  go_ret
  exact ⟨rfl, HA.out.fr⟩
theorem linkOnly_walk (x : FV) (f : Fl) (w : World) (h : FlLaw w x f) : Calls Tryz.prog 7 #[.agg #[.slice x.oa f.no x.oc, .slice x.na f.nw x.nc, .slice x.ma f.nm x.mc]] w fun e w' => e = .returned (.bool true) ∧ Below w.heap.size w w' := by
  cases hr : f.rdy
  · exact linkOnly_thick x f w h.l hr
  · cases ho : f.only
    · exact linkOnly_tie x f w h.l hr ho
    · exact linkOnly_one x f w h.l hr ho
end Go.Proofs.YtgbdbikjckfgmaaGreat
