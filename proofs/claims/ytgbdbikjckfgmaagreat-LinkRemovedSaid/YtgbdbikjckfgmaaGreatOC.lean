/- Link: LinkAlways' walk. Printed by gen_oc.py. -/
import Derived.Test.YtgbdbikjckfgmaaGreatNW
import Derived.Test.YtgbdbikjckfgmaaGreatOB
namespace Go.Proofs.YtgbdbikjckfgmaaGreat
open Go.RowKit Go.Shelf

theorem OkF.rMost {f : Fl} (h : OkF f) : mostR f.g = f.most := best_of_mx h.g8 h.mx0
theorem OkF.mostS {f : Fl} (h : OkF f) (S : List (Int × Int)) : mostR (offG f.g (SK S)) = (f.m S).2 := best_of_mx (offG_8 h.g8) (h.mx S)
theorem OkF.rSure {f : Fl} (h : OkF f) (i k : Nat) : (f.g i k && decide (mostR (offG f.g (oneS i k)) < mostR f.g)) = (f.g i k && f.sure i k) := by
  rw [← SK_one, h.mostS, h.rMost]; unfold Fl.sure; congr 1; apply decide_eq_decide.2; omega
theorem OkF.rPoss {f : Fl} (h : OkF f) (i k : Nat) : (f.g i k && decide (1 + mostR (offG f.g (twoS i k)) = mostR f.g)) = (f.g i k && f.poss i k) := by
  rw [← SK_two, h.mostS, h.rMost]; unfold Fl.poss Fl.cost; congr 1; apply decide_eq_decide.2; omega
theorem OkF.rCost {f : Fl} (h : OkF f) (i k : Nat) : mostR f.g - 1 - mostR (offG f.g (twoS i k)) = f.cost i k := by
  rw [← SK_two, h.mostS, h.rMost]; rfl
theorem OkF.rAlO {f : Fl} (h : OkF f) (i : Nat) : decide (mostR (offG f.g (rowS i)) < mostR f.g) = f.alO i := by
  rw [← SK_row, h.mostS, h.rMost]; unfold Fl.alO; apply decide_eq_decide.2; omega
theorem OkF.rAlN {f : Fl} (h : OkF f) (k : Nat) : decide (mostR (offG f.g (colS k)) < mostR f.g) = f.alN k := by
  rw [← SK_col, h.mostS, h.rMost]; unfold Fl.alN; apply decide_eq_decide.2; omega
theorem ints_own {W : World} {base : Nat} {T : TypeId} {a : Option Addr} {n c : Nat} {l : List Nat} (h : W.ownsRow base T 1 (.slice a l.length c) l.length (flN l)) (_ : n = l.length) : IntsIn W (.slice a l.length c) l.length (nz l) := IntsIn.own h

set_option maxRecDepth 100000 in
set_option maxHeartbeats 32000000 in
theorem linkAlways_thick (x : FV) (f : Fl) (w : World) (h : FlQ QR w x f) (ht : f.thin = false) :
    Calls Tryz.prog 4 #[.agg #[.slice x.oa f.no x.oc, .slice x.na f.nw x.nc, .slice x.ma f.nm x.mc]] w fun e w' => e = .returned (.bool true) ∧ Below w.heap.size w w' := by
  obtain ⟨oa, oc, na, nc, ma, mc⟩ := x
  have HTH := Lib.hid (thinW ⟨oa, oc, na, nc, ma, mc⟩ f w h false ht)
  clear h ht
  dsimp only at HTH ⊢
  generalize f.no = no at *
  generalize f.nw = nw at *
  generalize f.nm = nm at *
  have HA := Lib.hid ((BF.base w).alloc #[.slice oa no oc, .slice na nw nc, .slice ma nm mc] 25)
  go_enter Tryz.func4, Tryz.ntmps4
  have c0 := HA.out.cell (.head _) 0
  have c1 := HA.out.cell (.head _) 1
  have c2 := HA.out.cell (.head _) 2
  go_wp2_with fail
  refine (HTH.out _ HA.out.fr).mono ?_
  rintro _ w1 ⟨rfl, hb⟩
  have HA' := Lib.hid (HA.out.below hb)
  clear HA
  have HA := HA'
  clear HA'
  clear hb c0 c1 c2
  go_wp2_with fail
  refine (awake5_any _).mono ?_
  rintro _ w2 ⟨rfl, hb⟩
  have HA' := Lib.hid (HA.out.below hb)
  clear HA
  have HA := HA'
  clear HA'
  clear hb
  go_wp2_with fail
  go_ret
  exact ⟨rfl, HA.out.fr⟩
set_option maxRecDepth 100000 in
set_option maxHeartbeats 32000000 in
theorem linkAlways_bad (x : FV) (f : Fl) (w : World) (h : FlQ QR w x f) (ht : f.thin = true) (hf : f.fault ≠ 0) :
    Calls Tryz.prog 4 #[.agg #[.slice x.oa f.no x.oc, .slice x.na f.nw x.nc, .slice x.ma f.nm x.mc]] w fun e w' => e = .returned (.bool true) ∧ Below w.heap.size w w' := by
  obtain ⟨oa, oc, na, nc, ma, mc⟩ := x
  have HTH := Lib.hid (thinW ⟨oa, oc, na, nc, ma, mc⟩ f w h true ht)
  have HFI := Lib.hid (fileW ⟨oa, oc, na, nc, ma, mc⟩ f w h ht)
  have HPA : Hid (∀ (z : FV) X, FlQ QP X z f → Calls Tryz.prog 27 #[.agg #[.slice z.oa f.no z.oc, .slice z.na f.nw z.nc, .slice z.ma f.nm z.mc]] X fun e w' => e = .returned (.tuple #[.slice none 0 0, .slice none 0 0, .int .i64 f.fault]) ∧ Below X.heap.size X w') := fun z X hq => alwaysF_bad z f X hq (by have := (thin_bd ht).1; omega) (by have := (thin_bd ht).2.1; omega) (by have := (thin_bd ht).2.2.1; omega) hf
  have HFA := Lib.hid (faultW ⟨oa, oc, na, nc, ma, mc⟩ f w h f.fault rfl)
  have kf : (f.fault != 0) = true := by simp [hf]
  clear h ht hf
  dsimp only at HTH HFI HFA ⊢
  generalize f.fault = ft at *
  generalize f.no = no at *
  generalize f.nw = nw at *
  generalize f.nm = nm at *
  have HA := Lib.hid ((BF.base w).alloc #[.slice oa no oc, .slice na nw nc, .slice ma nm mc] 25)
  go_enter Tryz.func4, Tryz.ntmps4
  have c0 := HA.out.cell (.head _) 0
  have c1 := HA.out.cell (.head _) 1
  have c2 := HA.out.cell (.head _) 2
  go_wp2_with fail
  refine (HTH.out _ HA.out.fr).mono ?_
  rintro _ w1 ⟨rfl, hb⟩
  have HA' := Lib.hid (HA.out.below hb)
  clear HA
  have HA := HA'
  clear HA'
  clear hb c0 c1 c2
  have c0 := HA.out.cell (.head _) 0
  have c1 := HA.out.cell (.head _) 1
  have c2 := HA.out.cell (.head _) 2
  go_wp2_with fail
  refine (HFI.out _ HA.out.fr).mono ?_
  rintro _ w2 ⟨z, rfl, hq, hb⟩
  have HA' := Lib.hid (HA.out.below hb)
  clear HA
  have HA := HA'
  clear HA'
  have HQ := Lib.hid hq
  clear hq hb c0 c1 c2
  go_wp2_with fail
  refine (HPA.out z _ HQ.out).mono ?_
  rintro _ w3 ⟨rfl, hb⟩
  have HA' := Lib.hid (HA.out.below hb)
  clear HA
  have HA := HA'
  clear HA'
  clear hb
  clear HQ
  have c0 := HA.out.cell (.head _) 0
  have c1 := HA.out.cell (.head _) 1
  have c2 := HA.out.cell (.head _) 2
  go_wp2_with fail
  refine (HFA.out _ HA.out.fr).mono ?_
  rintro _ w4 ⟨rfl, hb⟩
  have HA' := Lib.hid (HA.out.below hb)
  clear HA
  have HA := HA'
  clear HA'
  clear hb c0 c1 c2
  go_wp2_with fail
  refine (awake5_any _).mono ?_
  rintro _ w5 ⟨rfl, hb⟩
  have HA' := Lib.hid (HA.out.below hb)
  clear HA
  have HA := HA'
  clear HA'
  clear hb
  go_wp2_with fail
  go_ret
  exact ⟨rfl, HA.out.fr⟩
set_option maxRecDepth 100000 in
set_option maxHeartbeats 32000000 in
theorem linkAlways_ok (x : FV) (f : Fl) (w : World) (h : FlQ QR w x f) (ht : f.thin = true) (hf : f.fault = 0) :
    Calls Tryz.prog 4 #[.agg #[.slice x.oa f.no x.oc, .slice x.na f.nw x.nc, .slice x.ma f.nm x.mc]] w fun e w' => e = .returned (.bool true) ∧ Below w.heap.size w w' := by
  obtain ⟨oa, oc, na, nc, ma, mc⟩ := x
  have OK := Lib.hid (Fl.ok hf)
  have hno := OK.out.no
  have hnw := OK.out.nw
  obtain ⟨i0, hi0, hz0, hz1, hz2⟩ := info_parts Tryz.infoInt0
  have HTH := Lib.hid (thinW ⟨oa, oc, na, nc, ma, mc⟩ f w h true ht)
  have HFI := Lib.hid (fileW ⟨oa, oc, na, nc, ma, mc⟩ f w h ht)
  have HPA : Hid (∀ (z : FV) X, FlQ QP X z f → Calls Tryz.prog 27 #[.agg #[.slice z.oa f.no z.oc, .slice z.na f.nw z.nc, .slice z.ma f.nm z.mc]] X (GivesA X (pickN f.alO f.no) (pickN f.alN f.nw))) := fun z X hq => alwaysF_ok z f X hq hf
  have HFA := Lib.hid (faultW ⟨oa, oc, na, nc, ma, mc⟩ f w h 0 hf)
  have HGR := Lib.hid (graphedW ⟨oa, oc, na, nc, ma, mc⟩ f w h hf)
  have HMG := Lib.hid (fun X => mostR_any f.g X)
  have HAO := Lib.hid (fun i X hi => away_row f.g i X hi)
  have HAN := Lib.hid (fun i X hi => away_col f.g i X hi)
  have HMO := Lib.hid (fun i X => mostR_any (offG f.g (rowS i)) X)
  have HMN := Lib.hid (fun i X => mostR_any (offG f.g (colS i)) X)
  have HEO := Lib.hid (fun i => OK.out.rAlO i)
  have HEN := Lib.hid (fun i => OK.out.rAlN i)
  unfold GivesA at HPA
  clear h ht hf OK
  dsimp only at HTH HFI HFA HGR ⊢
  generalize mostR f.g = n at *
  generalize f.alO = pO at *
  generalize f.alN = pN at *
  generalize f.g = g at *
  generalize f.no = no at *
  generalize f.nw = nw at *
  generalize f.nm = nm at *
  have HA := Lib.hid ((BF.base w).alloc #[.slice oa no oc, .slice na nw nc, .slice ma nm mc] 25)
  go_enter Tryz.func4, Tryz.ntmps4
  have c0 := HA.out.cell (.head _) 0
  have c1 := HA.out.cell (.head _) 1
  have c2 := HA.out.cell (.head _) 2
  go_wp2_with fail
  refine (HTH.out _ HA.out.fr).mono ?_
  rintro _ w1 ⟨rfl, hb⟩
  have HA' := Lib.hid (HA.out.below hb)
  clear HA
  have HA := HA'
  clear HA'
  clear hb c0 c1 c2
  have c0 := HA.out.cell (.head _) 0
  have c1 := HA.out.cell (.head _) 1
  have c2 := HA.out.cell (.head _) 2
  go_wp2_with fail
  refine (HFI.out _ HA.out.fr).mono ?_
  rintro _ w2 ⟨z, rfl, hq, hb⟩
  have HA' := Lib.hid (HA.out.below hb)
  clear HA
  have HA := HA'
  clear HA'
  have HQ := Lib.hid hq
  clear hq hb c0 c1 c2
  go_wp2_with fail
  refine (HPA.out z _ HQ.out).mono ?_
  rintro _ w3 ⟨pa, pc, pb, pd, rfl, hpo, hpn, hb⟩
  have HA' := Lib.hid (HA.out.below hb)
  clear HA
  have HA := HA'
  clear HA'
  have HPO := Lib.hid hpo
  clear hpo
  have HPN := Lib.hid hpn
  clear hpn
  clear hb
  clear HQ
  have c0 := HA.out.cell (.head _) 0
  have c1 := HA.out.cell (.head _) 1
  have c2 := HA.out.cell (.head _) 2
  go_wp2_with fail
  refine (HFA.out _ HA.out.fr).mono ?_
  rintro _ w4 ⟨rfl, hb⟩
  have HA' := Lib.hid (HA.out.below hb)
  clear HA
  have HA := HA'
  clear HA'
  have HPO' := Lib.hid (HPO.out.below hb)
  clear HPO
  have HPO := HPO'
  clear HPO'
  have HPN' := Lib.hid (HPN.out.below hb)
  clear HPN
  have HPN := HPN'
  clear HPN'
  clear hb c0 c1 c2
  have c0 := HA.out.cell (.head _) 0
  have c1 := HA.out.cell (.head _) 1
  have c2 := HA.out.cell (.head _) 2
  go_wp2_with fail
  refine (HGR.out _ HA.out.fr).mono ?_
  rintro _ w5 ⟨rfl, hb⟩
  have HA' := Lib.hid (HA.out.below hb)
  clear HA
  have HA := HA'
  clear HA'
  have HPO' := Lib.hid (HPO.out.below hb)
  clear HPO
  have HPO := HPO'
  clear HPO'
  have HPN' := Lib.hid (HPN.out.below hb)
  clear HPN
  have HPN := HPN'
  clear HPN'
  clear hb c0 c1 c2
  have HS := Lib.hid (HA.out.alloc (a8 fun _ => 0) 40)
  have HGH := Lib.hid (HS.out.bk _ _ _ (.head _)).2
  have HGS := Lib.hid (graph_info (gI g))
  have HGZ : Hid ((a8 fun _ => (0 : Int)).size = (a8 (gI g)).size) := by unfold Hid; rw [a8_size, a8_size]
  have hb := below_setw (Below.refl w5.heap.size w5) #[.int .i64 0, .int .i64 0, .int .i64 0, .int .i64 0, .int .i64 0, .int .i64 0, .int .i64 0, .int .i64 0] (a8 (gI g)) 40
  have HA' : Hid (BF w ((w5.alloc (.cells #[.int .i64 0, .int .i64 0, .int .i64 0, .int .i64 0, .int .i64 0, .int .i64 0, .int .i64 0, .int .i64 0] 40)).setRow w5.heap.size (a8 (gI g))) [(w5.heap.size, a8 (gI g), 40), (w.heap.size, #[.slice oa no oc, .slice na nw nc, .slice ma nm mc], 25)]) := HA.out.setw _ _
  have HPO' := Lib.hid (HPO.out.below hb)
  clear HPO
  have HPO := HPO'
  clear HPO'
  have HPN' := Lib.hid (HPN.out.below hb)
  clear HPN
  have HPN := HPN'
  clear HPN'
  clear HA hb
  have HA := HA'
  clear HA'
  go_upto_region 8 with (first | (refine wpList_store_row (o := ⟨none, .store 40 (.tmp 7) (.tmp 43), _, _, _, _⟩) rfl 40 (.tmp 7) (.tmp 43) rfl w5.heap.size (a8 (gI g)) rfl rfl 40 (a8 fun _ => 0) HGH.out HGS.out HGZ.out (a8_one _) ?_) | (refine step_store_row (o := ⟨none, .store 40 (.tmp 7) (.tmp 43), _, _, _, _⟩) rfl 40 (.tmp 7) (.tmp 43) rfl w5.heap.size (a8 (gI g)) rfl rfl 40 (a8 fun _ => 0) HGH.out HGS.out HGZ.out (a8_one _) ?_))
  generalize ((w5.alloc (.cells #[.int .i64 0, .int .i64 0, .int .i64 0, .int .i64 0, .int .i64 0, .int .i64 0, .int .i64 0, .int .i64 0] 40)).setRow w5.heap.size (a8 (gI g))) = wg at *
  generalize w5.heap.size = GB at *
  clear HS HGH HGZ HTH HFI HPA HFA HGR
  have HGH := Lib.hid (HA.out.bk _ _ _ (.head _)).2
  go_wp2_with (refine wpList_load_row (o := ⟨some 44, .load 40 (.tmp 7), _, _, _, _⟩) rfl 40 (.tmp 7) rfl GB rfl 40 (a8 (gI g)) (0, 0) _ HGH.out Tryz.underlying40 rfl HGS.out ?_)
  refine (HMG.out _).mono ?_
  rintro _ wm ⟨rfl, hb⟩
  have HA' := Lib.hid (HA.out.below hb)
  clear HA
  have HA := HA'
  clear HA'
  have HPO' := Lib.hid (HPO.out.below hb)
  clear HPO
  have HPO := HPO'
  clear HPO'
  have HPN' := Lib.hid (HPN.out.below hb)
  clear HPN
  have HPN := HPN'
  clear HPN'
  clear hb HGH HMG
  go_wp2_with fail
  go_loopw [9, 11] (fun v i wr => ∃ k : Nat, i = .int .i64 (k : Int) ∧ k ≤ no ∧ wr.ownsRow wm.heap.size 3 1 v (pickN pO k).length (flN (pickN pO k)) ∧ Below wm.heap.size wm wr) (fun _ i _ => no - (intOf i).toNat)
  case atStart => exact ⟨0, rfl, Nat.zero_le _, World.ownsRow_nil _ _ _ _, Below.refl _ _⟩
  case round =>
    obtain ⟨i, rfl, hi, hown, hbl⟩ := hrel
    rename World => wx
    obtain ⟨va, vc, rfl⟩ := own_slice' hown
    have HO := Lib.hid hown
    have HB := Lib.hid hbl
    have HX := Lib.hid (HA.out.below hbl)
    clear hown hbl
    have c0 := HX.out.cell (.tail _ (.head _)) 0
    by_cases hlt : i < no
    · have h8 : i < 8 := by omega
      have hli := pickN_len pO i
      have HCA := Lib.hid (fun X => HAO.out i X h8)
      have HMO := Lib.hid (fun X => HMO.out i X)
      have HEQ := Lib.hid (HEO.out i)
      have HYI : Hid (pO i = true → pickN pO (i + 1) = pickN pO i ++ [i]) := fun h => pickN_yes h
      have HNI : Hid (pO i = false → pickN pO (i + 1) = pickN pO i) := fun h => pickN_no h
      rw [← HEQ.out] at HYI HNI
      clear HEQ
      generalize gI (offG g (rowS i)) = gr at *
      generalize mostR (offG g (rowS i)) = mi at *
      generalize hc1 : pickN pO (i + 1) = cl1 at *
      have HC1 := Lib.hid hc1
      clear hc1
      generalize pickN pO i = cl at *
      have ki : (0 : Int) ≤ (i : Int) := by omega
      have kj : (i : Int) < (no : Int) := by omega
      have HGH := Lib.hid (HX.out.bk _ _ _ (.head _)).2
      go_wp2_with (first | (refine wpList_load_row (o := ⟨some 53, .load 40 (.tmp 7), _, _, _, _⟩) rfl 40 (.tmp 7) rfl GB rfl 40 (a8 (gI g)) (0, 0) _ HGH.out Tryz.underlying40 rfl HGS.out ?_))
      refine (HCA.out _).mono ?_
      rintro _ w20 ⟨rfl, hb⟩
      have HO1 := Lib.hid (own_below HO.out hb)
      have HB1 := Lib.hid (HB.out.trans (hb.mono HB.out.size))
      clear hb HO HB c0 HGH HX HCA
      go_wp2_with fail
      refine (HMO.out _).mono ?_
      rintro _ w22 ⟨rfl, hb⟩
      have HO2 := Lib.hid (own_below HO1.out hb)
      have HB2 := Lib.hid (HB1.out.trans (hb.mono HB1.out.size))
      clear hb HO1 HB1 HMO
      by_cases hmn : mi < n
      · have HC2 := Lib.hid (HYI.out (decide_eq_true hmn))
        have hsz := HB2.out.size
        have HN := Lib.hid (World.news_of_block (heap_alloc_new w22 (.cells #[.int .i64 (i : Int)] 3)))
        have HOA := Lib.hid (World.ownsRow.alloc HO2.out (.cells #[.int .i64 (i : Int)] 3))
        have HBA := Lib.hid (HB2.out.trans ((below_alloc w22 (.cells #[.int .i64 (i : Int)] 3)).mono hsz))
        clear HO2 HB2
        go_wp2_with (at_builtin; refine wpList_append_src _ rfl (.tmp 59) (.tmp 61) 47 rfl wm.heap.size 3 i0 (.int .i64 0) 1 8 Tryz.underlying47 hi0 hz0 hz1 hz2 rfl (by decide) (.slice va cl.length vc) cl.length (flN cl) rfl HOA.out (some ⟨w22.heap.size, 0, none⟩) 1 1 [.int .i64 (i : Int)] rfl ⟨rfl, fun q u hu => ⟨_, rfl, HN.out q u hu⟩⟩ ?c0 ?c1 ?c2 ?c3 ?_)
        case c0 => simp [Value.oneCell']
        case c1 => unfold maxLen; omega
        case c2 => omega
        case c3 => simp; omega
        intro v' w23 hown hgr _
        have HO5 : Hid (w23.ownsRow wm.heap.size 3 1 v' cl1.length (flN cl1)) := by unfold Hid; rw [HC2.out, flN_append, List.length_append]; exact hown
        have HB5 := Lib.hid (HBA.out.trans ((Fr.grown hgr).low HBA.out.size (fun q hq e => by have := own_low HOA.out e; omega)))
        clear hown hgr
        go_wp2_with fail
        go_roundw
        case rel => exact ⟨i + 1, by go_num, by omega, by rw [HC1.out]; exact HO5.out, HB5.out⟩
        case measure => simp [intOf]; omega
      · have HC2 := Lib.hid (HNI.out (decide_eq_false hmn))
        go_wp2_with fail
        go_roundw
        case rel => exact ⟨i + 1, by go_num, by omega, by rw [HC1.out, HC2.out]; exact HO2.out, HB2.out⟩
        case measure => simp [intOf]; omega
    · obtain rfl : no = i := by omega
      have HIO := Lib.hid (IntsIn.own HO.out)
      have HPO' := Lib.hid (HPO.out.below HB.out)
      have HPN' := Lib.hid (HPN.out.below HB.out)
      clear HPO HPN HO HB HA
      have HPO := HPO'
      have HPN := HPN'
      clear HPO' HPN'
      have HX1 := Lib.hid HX.out
      clear HX
      rename World => wl
      go_wp2_with fail
      clear c0
      go_loopw [10, 12] (fun v i wr => ∃ k : Nat, i = .int .i64 (k : Int) ∧ k ≤ nw ∧ wr.ownsRow wl.heap.size 3 1 v (pickN pN k).length (flN (pickN pN k)) ∧ Below wl.heap.size wl wr) (fun _ i _ => nw - (intOf i).toNat)
      case atStart => exact ⟨0, rfl, Nat.zero_le _, World.ownsRow_nil _ _ _ _, Below.refl _ _⟩
      case round =>
        obtain ⟨i, rfl, hi, hown, hbl⟩ := hrel
        rename World => wx
        obtain ⟨va, vc, rfl⟩ := own_slice' hown
        have HO := Lib.hid hown
        have HB := Lib.hid hbl
        have HX := Lib.hid (HX1.out.below hbl)
        clear hown hbl
        have c0 := HX.out.cell (.tail _ (.head _)) 1
        by_cases hlt : i < nw
        · have h8 : i < 8 := by omega
          have hli := pickN_len pN i
          have HCA := Lib.hid (fun X => HAN.out i X h8)
          have HMO := Lib.hid (fun X => HMN.out i X)
          have HEQ := Lib.hid (HEN.out i)
          have HYI : Hid (pN i = true → pickN pN (i + 1) = pickN pN i ++ [i]) := fun h => pickN_yes h
          have HNI : Hid (pN i = false → pickN pN (i + 1) = pickN pN i) := fun h => pickN_no h
          rw [← HEQ.out] at HYI HNI
          clear HEQ
          generalize gI (offG g (colS i)) = gr at *
          generalize mostR (offG g (colS i)) = mi at *
          generalize hc1 : pickN pN (i + 1) = cl1 at *
          have HC1 := Lib.hid hc1
          clear hc1
          generalize pickN pN i = cl at *
          have ki : (0 : Int) ≤ (i : Int) := by omega
          have kj : (i : Int) < (nw : Int) := by omega
          have HGH := Lib.hid (HX.out.bk _ _ _ (.head _)).2
          go_wp2_with (first | (refine wpList_load_row (o := ⟨some 70, .load 40 (.tmp 7), _, _, _, _⟩) rfl 40 (.tmp 7) rfl GB rfl 40 (a8 (gI g)) (0, 0) _ HGH.out Tryz.underlying40 rfl HGS.out ?_))
          refine (HCA.out _).mono ?_
          rintro _ w20 ⟨rfl, hb⟩
          have HO1 := Lib.hid (own_below HO.out hb)
          have HB1 := Lib.hid (HB.out.trans (hb.mono HB.out.size))
          clear hb HO HB c0 HGH HX HCA
          go_wp2_with fail
          refine (HMO.out _).mono ?_
          rintro _ w22 ⟨rfl, hb⟩
          have HO2 := Lib.hid (own_below HO1.out hb)
          have HB2 := Lib.hid (HB1.out.trans (hb.mono HB1.out.size))
          clear hb HO1 HB1 HMO
          by_cases hmn : mi < n
          · have HC2 := Lib.hid (HYI.out (decide_eq_true hmn))
            have hsz := HB2.out.size
            have HN := Lib.hid (World.news_of_block (heap_alloc_new w22 (.cells #[.int .i64 (i : Int)] 3)))
            have HOA := Lib.hid (World.ownsRow.alloc HO2.out (.cells #[.int .i64 (i : Int)] 3))
            have HBA := Lib.hid (HB2.out.trans ((below_alloc w22 (.cells #[.int .i64 (i : Int)] 3)).mono hsz))
            clear HO2 HB2
            go_wp2_with (at_builtin; refine wpList_append_src _ rfl (.tmp 76) (.tmp 78) 47 rfl wl.heap.size 3 i0 (.int .i64 0) 1 8 Tryz.underlying47 hi0 hz0 hz1 hz2 rfl (by decide) (.slice va cl.length vc) cl.length (flN cl) rfl HOA.out (some ⟨w22.heap.size, 0, none⟩) 1 1 [.int .i64 (i : Int)] rfl ⟨rfl, fun q u hu => ⟨_, rfl, HN.out q u hu⟩⟩ ?c0 ?c1 ?c2 ?c3 ?_)
            case c0 => simp [Value.oneCell']
            case c1 => unfold maxLen; omega
            case c2 => omega
            case c3 => simp; omega
            intro v' w23 hown hgr _
            have HO5 : Hid (w23.ownsRow wl.heap.size 3 1 v' cl1.length (flN cl1)) := by unfold Hid; rw [HC2.out, flN_append, List.length_append]; exact hown
            have HB5 := Lib.hid (HBA.out.trans ((Fr.grown hgr).low HBA.out.size (fun q hq e => by have := own_low HOA.out e; omega)))
            clear hown hgr
            go_wp2_with fail
            go_roundw
            case rel => exact ⟨i + 1, by go_num, by omega, by rw [HC1.out]; exact HO5.out, HB5.out⟩
            case measure => simp [intOf]; omega
          · have HC2 := Lib.hid (HNI.out (decide_eq_false hmn))
            go_wp2_with fail
            go_roundw
            case rel => exact ⟨i + 1, by go_num, by omega, by rw [HC1.out, HC2.out]; exact HO2.out, HB2.out⟩
            case measure => simp [intOf]; omega
        · obtain rfl : nw = i := by omega
          have HI2 := Lib.hid (IntsIn.own HO.out)
          have HPO2 := Lib.hid (HPO.out.below HB.out)
          have HPN2 := Lib.hid (HPN.out.below HB.out)
          have HIO2 := Lib.hid (HIO.out.below HB.out)
          have hl1 := pickN_len pO no
          have hl2 := pickN_len pN nw
          have hm1 : (pickN pO no).length ≤ 100000 := by omega
          have hm2 : (pickN pN nw).length ≤ 100000 := by omega
          clear HPO HPN HIO hl1 hl2 HO HB
          generalize pickN pO no = L1 at *
          generalize pickN pN nw = L2 at *
          go_wp2_with fail
          refine (ints_lit (nz L1) L1.length _ _ _ _ _ hm1 HPO2.out HIO2.out).mono ?_
          rintro _ w30 ⟨rfl, hb⟩
          have HX2 := Lib.hid (HX.out.below hb)
          have HPN3 := Lib.hid (HPN2.out.below hb)
          have HI3 := Lib.hid (HI2.out.below hb)
          clear hb HX
          go_wp2_with fail
          refine (ints_lit (nz L2) L2.length _ _ _ _ _ hm2 HPN3.out HI3.out).mono ?_
          rintro _ w31 ⟨rfl, hb⟩
          have HX3 := Lib.hid (HX2.out.below hb)
          clear hb HX2
          go_wp2_with fail
          refine (awake5_any _).mono ?_
          rintro _ w32 ⟨rfl, hb⟩
          have HX4 := Lib.hid (HX3.out.below hb)
          clear hb
          go_wp2_with fail
          go_ret
          exact ⟨rfl, HX4.out.fr⟩
theorem linkAlways_walk (x : FV) (f : Fl) (w : World) (h : FlLaw w x f) : Calls Tryz.prog 4 #[.agg #[.slice x.oa f.no x.oc, .slice x.na f.nw x.nc, .slice x.ma f.nm x.mc]] w fun e w' => e = .returned (.bool true) ∧ Below w.heap.size w w' := by
  cases ht : f.thin
  · exact linkAlways_thick x f w h.l ht
  · by_cases hf : f.fault = 0
    · exact linkAlways_ok x f w h.l ht hf
    · exact linkAlways_bad x f w h.l ht hf
end Go.Proofs.YtgbdbikjckfgmaaGreat
