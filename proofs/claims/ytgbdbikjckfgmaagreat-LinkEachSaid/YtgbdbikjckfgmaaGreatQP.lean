/- Link: LinkEach's walk. Printed by gen_qp.py. -/
import Derived.Test.YtgbdbikjckfgmaaGreatRB
import Derived.Test.YtgbdbikjckfgmaaGreatQB
namespace Go.Proofs.YtgbdbikjckfgmaaGreat
open Go.RowKit Go.Shelf

set_option maxRecDepth 100000 in
set_option maxHeartbeats 32000000 in
theorem linkEach_thick (x : FV) (f : Fl) (a1 : Option Addr) (n1 d1 : Nat) (w : World) (h : FlQ QR w x f) (ht : f.rdy = false) :
    Calls Tryz.prog 14 #[.agg #[.slice x.oa f.no x.oc, .slice x.na f.nw x.nc, .slice x.ma f.nm x.mc], .slice a1 n1 d1] w fun e w' => e = .returned (.bool true) ∧ Below w.heap.size w w' := by
  obtain ⟨oa, oc, na, nc, ma, mc⟩ := x
  have HTH := Lib.hid (readyW ⟨oa, oc, na, nc, ma, mc⟩ f w h false ht)
  clear h ht
  dsimp only at HTH ⊢
  generalize f.no = no at *
  generalize f.nw = nw at *
  generalize f.nm = nm at *
  have HA := Lib.hid ((BF.base w).alloc #[.slice oa no oc, .slice na nw nc, .slice ma nm mc] 25)
  go_enter Tryz.func14, Tryz.ntmps14
  have c0 := HA.out.cell (.head _) 0
  have c1 := HA.out.cell (.head _) 1
  have c2 := HA.out.cell (.head _) 2
  go_wp2_with fail
  refine (HTH.out _ HA.out.fr).mono ?_
  rintro _ w1 ⟨rfl, hb⟩
  have HA' := Lib.hid (HA.out.below hb)
  clear HA
  have HA := HA'
  clear HA'
  clear hb c0 c1 c2
  go_wp2_with fail
  refine (awake5_any _).mono ?_
  rintro _ w2 ⟨rfl, hb⟩
  have HA' := Lib.hid (HA.out.below hb)
  clear HA
  have HA := HA'
  clear HA'
  clear hb
  go_wp2_with fail
  go_ret
  exact ⟨rfl, HA.out.fr⟩
set_option maxRecDepth 100000 in
set_option maxHeartbeats 32000000 in
theorem linkEach_long (x : FV) (f : Fl) (a1 : Option Addr) (n1 d1 : Nat) (w : World) (h : FlQ QR w x f) (hr : f.rdy = true) (hl : 11 < n1) :
    Calls Tryz.prog 14 #[.agg #[.slice x.oa f.no x.oc, .slice x.na f.nw x.nc, .slice x.ma f.nm x.mc], .slice a1 n1 d1] w fun e w' => e = .returned (.bool true) ∧ Below w.heap.size w w' := by
  obtain ⟨oa, oc, na, nc, ma, mc⟩ := x
  have HTH := Lib.hid (readyW ⟨oa, oc, na, nc, ma, mc⟩ f w h true hr)
  clear h hr
  dsimp only at HTH ⊢
  generalize f.no = no at *
  generalize f.nw = nw at *
  generalize f.nm = nm at *
  have HA := Lib.hid ((BF.base w).alloc #[.slice oa no oc, .slice na nw nc, .slice ma nm mc] 25)
  go_enter Tryz.func14, Tryz.ntmps14
  have c0 := HA.out.cell (.head _) 0
  have c1 := HA.out.cell (.head _) 1
  have c2 := HA.out.cell (.head _) 2
  go_wp2_with fail
  refine (HTH.out _ HA.out.fr).mono ?_
  rintro _ w1 ⟨rfl, hb⟩
  have HA' := Lib.hid (HA.out.below hb)
  clear HA
  have HA := HA'
  clear HA'
  clear hb c0 c1 c2
  have q0 : 11 < n1 := by omega
  have p0 : (11 : Int) < (n1 : Int) := by omega
  clear hl
  go_wp2_with fail
  refine (awake5_any _).mono ?_
  rintro _ w2 ⟨rfl, hb⟩
  have HA' := Lib.hid (HA.out.below hb)
  clear HA
  have HA := HA'
  clear HA'
  clear hb
  go_wp2_with fail
  go_ret
  exact ⟨rfl, HA.out.fr⟩
set_option maxRecDepth 100000 in
set_option maxHeartbeats 32000000 in
theorem linkEach_ok (x : FV) (f : Fl) (a1 : Option Addr) (n1 d1 : Nat) (z1 : Nat → Int) (w : World) (h : FlQ QR w x f) (hr : f.rdy = true) (hi1 : IntsIn w (.slice a1 n1 d1) n1 z1) (hr1 : ∀ j, j < n1 → rng64 (z1 j)) (hn1 : n1 ≤ 11) :
    Calls Tryz.prog 14 #[.agg #[.slice x.oa f.no x.oc, .slice x.na f.nw x.nc, .slice x.ma f.nm x.mc], .slice a1 n1 d1] w fun e w' => e = .returned (.bool true) ∧ Below w.heap.size w w' := by
  obtain ⟨oa, oc, na, nc, ma, mc⟩ := x
  obtain ⟨ht, hf⟩ := Fl.rdy_yes hr
  have HTH := Lib.hid (readyW ⟨oa, oc, na, nc, ma, mc⟩ f w h true hr)
  have HFI := Lib.hid (fileW ⟨oa, oc, na, nc, ma, mc⟩ f w h ht)
  have OK := Lib.hid (Fl.ok hf)
  have hno := OK.out.no
  have hnw := OK.out.nw
  have hms : f.most ≤ 8 := OK.out.most8
  have HC1 : Hid (∀ (z : FV) X, FlQ QP X z f → Calls Tryz.prog 42 #[.agg #[.slice z.oa f.no z.oc, .slice z.na f.nw z.nc, .slice z.ma f.nm z.mc]] X fun e w' => e = .returned (.tuple #[.int .i64 (f.most : Int), .int .i64 0]) ∧ Below X.heap.size X w') := fun z X hq => mostF_ok z f X hq hf
  have HC2 : Hid (∀ (z : FV) X, FlQ QP X z f → Calls Tryz.prog 43 #[.agg #[.slice z.oa f.no z.oc, .slice z.na f.nw z.nc, .slice z.ma f.nm z.mc]] X (GivesT X f.no f.lst)) := fun z X hq => matchF_ok z f X hq hf
  have HC3 : Hid (∀ (z : FV) X, FlQ QP X z f → Calls Tryz.prog 37 #[.agg #[.slice z.oa f.no z.oc, .slice z.na f.nw z.nc, .slice z.ma f.nm z.mc]] X (GivesP X (dL f.qS f.nw f.no))) := fun z X hq => by rw [← chL_S]; exact sureF_ok z f X hq hf
  have HC4 : Hid (∀ (z : FV) X, FlQ QP X z f → Calls Tryz.prog 35 #[.agg #[.slice z.oa f.no z.oc, .slice z.na f.nw z.nc, .slice z.ma f.nm z.mc]] X (GivesP X (dL f.qP f.nw f.no))) := fun z X hq => by rw [← chL_P]; exact possF_ok z f X hq hf
  have HLR : Hid (∀ j, j < f.no → rng64 (f.lst j)) := fun j _ => by
    rcases OK.out.lst_or j with e | ⟨k, e⟩
    · rw [e]; exact rng64_small (by decide) (by decide)
    · have := (Fl.g_in (OK.out.lst_g e)).2
      rw [e]; exact rng64_small (by omega) (by omega)
  have HP1 : Hid (∀ (z : FV) X a c, FlQ QP X z f → IntsIn X (.slice a f.no c) f.no f.lst → Calls Tryz.prog 48 #[.agg #[.slice z.oa f.no z.oc, .slice z.na f.nw z.nc, .slice z.ma f.nm z.mc], .slice a f.no c, .int .i64 (f.most : Int)] X fun e w' => e = .returned (.bool true) ∧ Below X.heap.size X w') := fun z X a c hq hl => by
    have h := provM_ok z f a f.no c f.lst (f.most : Int) X hq hf hl HLR.out (by omega)
    rw [OK.out.lst_isM, OK.out.lst_mt.2] at h
    simpa using h
  obtain ⟨b1, hb1⟩ : ∃ b1, (f.isM n1 z1 && decide ((f.most : Int) ≤ (cntM z1 n1 : Int))) = b1 := ⟨_, rfl⟩
  have HP2 : Hid (∀ (z : FV) X a c, FlQ QP X z f → IntsIn X (.slice a n1 c) n1 z1 → Calls Tryz.prog 48 #[.agg #[.slice z.oa f.no z.oc, .slice z.na f.nw z.nc, .slice z.ma f.nm z.mc], .slice a n1 c, .int .i64 (f.most : Int)] X fun e w' => e = .returned (.bool b1) ∧ Below X.heap.size X w') := fun z X a c hq hl => by
    have h := provM_ok z f a n1 c z1 (f.most : Int) X hq hf hl hr1 (by omega)
    rw [hb1] at h
    exact h
  have HE1 : Hid (f.no = f.no ∧ (∀ k : Nat, k < f.no → 0 ≤ f.lst k → f.qP k (f.lst k).toNat = true ∧ (f.lst k).toNat < f.nw) ∧ ∀ i k : Nat, f.qS i k = true → f.lst i = (k : Int)) := OK.out.each OK.out.lst_isM (by rw [OK.out.lst_mt.2]; exact Int.le_refl _)
  have HE2 : Hid (b1 = true → n1 = f.no ∧ (∀ k : Nat, k < n1 → 0 ≤ z1 k → f.qP k (z1 k).toNat = true ∧ (z1 k).toNat < f.nw) ∧ ∀ i k : Nat, f.qS i k = true → z1 i = (k : Int)) := fun e => by
    rw [← hb1, Bool.and_eq_true, decide_eq_true_eq] at e
    exact OK.out.each e.1 e.2
  have HW1 := Lib.hid (fun X (hX : Below w.heap.size w X) => hi1.below hX)
  have HQS : Hid (∀ i k, f.qS i k = true → f.qP i k = true) := fun i k e => OK.out.qSP i k e
  have HLG := Lib.hid (dL_len f.qS f.nw f.no)
  have HLP := Lib.hid (dL_len f.qP f.nw f.no)
  have hm8 : f.nw * f.no ≤ 8 * 8 := Nat.mul_le_mul hnw hno
  unfold GivesT at HC2
  unfold GivesP at HC3 HC4
  clear h hr ht hf OK hi1 hr1 HLR hb1
  dsimp only at HTH HFI ⊢
  generalize f.lst = ls at *
  generalize f.most = mst at *
  generalize f.qP = q2 at *
  generalize f.qS = q1 at *
  have p1 : ¬ (11 : Int) < (n1 : Int) := by omega
  generalize f.no = no at *
  generalize f.nw = nw at *
  generalize f.nm = nm at *
  have HA := Lib.hid ((BF.base w).alloc #[.slice oa no oc, .slice na nw nc, .slice ma nm mc] 25)
  go_enter Tryz.func14, Tryz.ntmps14
  have c0 := HA.out.cell (.head _) 0
  have c1 := HA.out.cell (.head _) 1
  have c2 := HA.out.cell (.head _) 2
  go_wp2_with fail
  refine (HTH.out _ HA.out.fr).mono ?_
  rintro _ w1 ⟨rfl, hb⟩
  have HA' := Lib.hid (HA.out.below hb)
  clear HA
  have HA := HA'
  clear HA'
  clear hb c0 c1 c2
  have c0 := HA.out.cell (.head _) 0
  have c1 := HA.out.cell (.head _) 1
  have c2 := HA.out.cell (.head _) 2
  go_wp2_with fail
  refine (HFI.out _ HA.out.fr).mono ?_
  rintro _ w2 ⟨z, rfl, hq, hb⟩
  have HA' := Lib.hid (HA.out.below hb)
  clear HA
  have HA := HA'
  clear HA'
  have HQ := Lib.hid hq
  clear hq hb c0 c1 c2
  go_wp2_with fail
  refine (HC1.out z _ HQ.out).mono ?_
  rintro _ w3 ⟨rfl, hb⟩
  have HA' := Lib.hid (HA.out.below hb)
  clear HA
  have HA := HA'
  clear HA'
  clear hb
  clear HQ
  have c0 := HA.out.cell (.head _) 0
  have c1 := HA.out.cell (.head _) 1
  have c2 := HA.out.cell (.head _) 2
  go_wp2_with fail
  refine (HFI.out _ HA.out.fr).mono ?_
  rintro _ w4 ⟨z, rfl, hq, hb⟩
  have HA' := Lib.hid (HA.out.below hb)
  clear HA
  have HA := HA'
  clear HA'
  have HQ := Lib.hid hq
  clear hq hb c0 c1 c2
  go_wp2_with fail
  refine (HC2.out z _ HQ.out).mono ?_
  rintro _ w5 ⟨ma2, mc2, rfl, hl, hb⟩
  have HA' := Lib.hid (HA.out.below hb)
  clear HA
  have HA := HA'
  clear HA'
  have HLS := Lib.hid hl
  clear hl
  clear hb
  clear HQ
  have c0 := HA.out.cell (.head _) 0
  have c1 := HA.out.cell (.head _) 1
  have c2 := HA.out.cell (.head _) 2
  go_wp2_with fail
  refine (HFI.out _ HA.out.fr).mono ?_
  rintro _ w6 ⟨z, rfl, hq, hb⟩
  have HA' := Lib.hid (HA.out.below hb)
  clear HA
  have HA := HA'
  clear HA'
  have HLS' := Lib.hid (HLS.out.below hb)
  clear HLS
  have HLS := HLS'
  clear HLS'
  have HQ := Lib.hid hq
  clear hq hb c0 c1 c2
  go_wp2_with fail
  refine (HC3.out z _ HQ.out).mono ?_
  rintro _ w7 ⟨sa, sc, rfl, hs, hb⟩
  have HA' := Lib.hid (HA.out.below hb)
  clear HA
  have HA := HA'
  clear HA'
  have HLS' := Lib.hid (HLS.out.below hb)
  clear HLS
  have HLS := HLS'
  clear HLS'
  have HS := Lib.hid hs
  clear hs
  clear hb
  clear HQ
  have c0 := HA.out.cell (.head _) 0
  have c1 := HA.out.cell (.head _) 1
  have c2 := HA.out.cell (.head _) 2
  go_wp2_with fail
  refine (HFI.out _ HA.out.fr).mono ?_
  rintro _ w8 ⟨z, rfl, hq, hb⟩
  have HA' := Lib.hid (HA.out.below hb)
  clear HA
  have HA := HA'
  clear HA'
  have HLS' := Lib.hid (HLS.out.below hb)
  clear HLS
  have HLS := HLS'
  clear HLS'
  have HS' := Lib.hid (HS.out.below hb)
  clear HS
  have HS := HS'
  clear HS'
  have HQ := Lib.hid hq
  clear hq hb c0 c1 c2
  go_wp2_with fail
  refine (HC4.out z _ HQ.out).mono ?_
  rintro _ w9 ⟨pa, pc, rfl, hp, hb⟩
  have HA' := Lib.hid (HA.out.below hb)
  clear HA
  have HA := HA'
  clear HA'
  have HLS' := Lib.hid (HLS.out.below hb)
  clear HLS
  have HLS := HLS'
  clear HLS'
  have HS' := Lib.hid (HS.out.below hb)
  clear HS
  have HS := HS'
  clear HS'
  have HP := Lib.hid hp
  clear hp
  clear hb
  clear HQ
  go_upto_region 10 with fail
  have HA' := Lib.hid (HA.out.alloc #[.slice ma2 no mc2, .slice a1 n1 d1] 47)
  have hb := below_alloc w9 (.cells #[.slice ma2 no mc2, .slice a1 n1 d1] 47)
  have HLS' := Lib.hid (HLS.out.below hb)
  clear HLS
  have HLS := HLS'
  clear HLS'
  have HS' := Lib.hid (HS.out.below hb)
  clear HS
  have HS := HS'
  clear HS'
  have HP' := Lib.hid (HP.out.below hb)
  clear HP
  have HP := HP'
  clear HP'
  clear hb HA
  generalize w9.alloc (.cells #[.slice ma2 no mc2, .slice a1 n1 d1] 47) = wb at *
  generalize w9.heap.size = TB at *
  have HBB := Lib.hid HA'.out.fr
  have HFI' := Lib.hid (fun X (hX : Below wb.heap.size wb X) => HFI.out X (HBB.out.trans (hX.mono HBB.out.size)))
  clear HFI
  have HFI := HFI'
  clear HFI'
  have HFC : Hid (∀ X, Below wb.heap.size wb X → X.cell? ⟨w.heap.size, 0, none⟩ = some (.slice oa no oc) ∧ X.cell? ⟨w.heap.size, 1, none⟩ = some (.slice na nw nc) ∧ X.cell? ⟨w.heap.size, 2, none⟩ = some (.slice ma nm mc)) := fun X hX => ⟨(HA'.out.below hX).cell (.tail _ (.head _)) 0, (HA'.out.below hX).cell (.tail _ (.head _)) 1, (HA'.out.below hX).cell (.tail _ (.head _)) 2⟩
  have HXX : Hid (∀ t, t < 2 → ∃ (xa : Option Addr) (xn xc : Nat) (xz : Nat → Int) (bx : Bool), (∀ X, Below wb.heap.size wb X → X.cell? ⟨TB, t, none⟩ = some (.slice xa xn xc)) ∧ xn ≤ 11 ∧ (∀ X, Below wb.heap.size wb X → IntsIn X (.slice xa xn xc) xn xz) ∧
      (∀ (z : FV) X a c, FlQ QP X z f → IntsIn X (.slice a xn c) xn xz → Calls Tryz.prog 48 #[.agg #[.slice z.oa no z.oc, .slice z.na nw z.nc, .slice z.ma nm z.mc], .slice a xn c, .int .i64 (mst : Int)] X fun e w' => e = .returned (.bool bx) ∧ Below X.heap.size X w') ∧ (t = 0 → bx = true) ∧
      (bx = true → xn = no ∧ (∀ k : Nat, k < xn → 0 ≤ xz k → q2 k (xz k).toNat = true ∧ (xz k).toNat < nw) ∧ ∀ i k : Nat, q1 i k = true → xz i = (k : Int))) := fun t ht => by
    rcases Nat.eq_zero_or_pos t with rfl | h
    · exact ⟨ma2, no, mc2, ls, true, fun X hX => (HA'.out.below hX).cell (.head _) 0, by omega, fun X hX => HLS.out.below hX, HP1.out, fun _ => rfl, fun _ => ⟨rfl, HE1.out.2⟩⟩
    · obtain rfl : t = 1 := by omega
      exact ⟨a1, n1, d1, z1, b1, fun X hX => (HA'.out.below hX).cell (.head _) 1, by omega, fun X hX => HW1.out X (HBB.out.trans (hX.mono HBB.out.size)), HP2.out, fun e => by omega, HE2.out⟩
  have HS' := Lib.hid (fun X (hX : Below wb.heap.size wb X) => HS.out.below hX)
  clear HS
  have HS := HS'
  clear HS'
  have hlg := HLG.out
  have hlp := HLP.out
  have HPH := Lib.hid (fun o n X (hX : Below wb.heap.size wb X) => has_list (dL q2 nw no) pa pc o n X (HP.out.below hX) (by omega))
  clear HA' HTH HC1 HC2 HC3 HC4 HP1 HP2 HE1 HE2 HLS HW1 HP
  go_wp2_with fail
  go_loopw [14] (fun v wr => ∃ t : Nat, v = .int .i64 (t : Int) ∧ t ≤ 2 ∧ Below wb.heap.size wb wr) (fun v _ => 2 - (intOf v).toNat)
  case atStart => exact ⟨0, rfl, by omega, Below.refl _ _⟩
  case round =>
    obtain ⟨t, rfl, ht2, hbl⟩ := hrel
    rename World => wx
    have HAB : Hid (BF wb wx []) := (BF.base wb).below hbl
    clear hbl
    by_cases hlt : t < 2
    · obtain ⟨xa, xn, xc, xz, bx, hcell, hxn, hxi, hpm, h0, hx⟩ := HXX.out t hlt
      have HXI := Lib.hid hxi
      have HPM := Lib.hid hpm
      have H0 := Lib.hid h0
      have HX := Lib.hid hx
      have HLX := Lib.hid (listW xa xn xc xz wb (by omega) (hxi _ (Below.refl _ _)))
      have y0 := hcell _ HAB.out.fr
      have ⟨c0, c1, c2⟩ := HFC.out _ HAB.out.fr
      clear hcell hxi hpm h0 hx HXX
      have ti : (0 : Int) ≤ (t : Int) := by omega
      have tj : (t : Int) < 2 := by omega
      go_wp2_with fail
      refine (HFI.out _ HAB.out.fr).mono ?_
      rintro _ wy1 ⟨z, rfl, hq, hb⟩
      have HQ := Lib.hid hq
      have HAB1 := Lib.hid (HAB.out.below hb)
      clear hq hb HAB y0 c0 c1 c2
      go_wp2_with fail
      refine (HLX.out _ HAB1.out.fr).mono ?_
      rintro _ wy2 ⟨lb2, ld2, rfl, hl2, hb⟩
      have HQ2 := Lib.hid (HQ.out.below QP.k hb)
      have HL2 := Lib.hid hl2
      have HAB2 := Lib.hid (HAB1.out.below hb)
      clear hl2 hb HAB1 HQ HLX
      go_wp2_with fail
      refine (HPM.out z _ _ _ HQ2.out HL2.out).mono ?_
      rintro _ wy3 ⟨rfl, hb⟩
      have HAB3 := Lib.hid (HAB2.out.below hb)
      clear hb HAB2 HQ2 HL2 HPM
      cases bx
      · have ht0 : t ≠ 0 := fun e => by have := H0.out e; cases this
        have kt : ((t : Int) == 0) = false := by simp; omega
        clear ht0
        go_wp2_with fail
        go_roundw
        case rel => exact ⟨t + 1, by go_num, by omega, HAB3.out.fr⟩
        case measure => simp [intOf]; omega
      · obtain ⟨hxe, hxP, hxS⟩ := HX.out rfl
        have HXE := Lib.hid hxe
        have HXP := Lib.hid hxP
        have HXS := Lib.hid hxS
        clear hxe hxP hxS HX H0
        go_wp2_with fail
        go_loopw [16] (fun v wr => ∃ k : Nat, v = .int .i64 (k : Int) ∧ k ≤ xn ∧ Below wb.heap.size wb wr) (fun v _ => xn - (intOf v).toNat)
        case atStart => exact ⟨0, rfl, Nat.zero_le _, HAB3.out.fr⟩
        case round =>
          clear HAB3
          obtain ⟨k, rfl, hk, hbl⟩ := hrel
          rename World => wv
          have HAV : Hid (BF wb wv []) := (BF.base wb).below hbl
          clear hbl
          by_cases hkl : k < xn
          · obtain ⟨eb, eo, rfl, heb, y1⟩ := (HXI.out _ HAV.out.fr).at hkl
            have ki : (0 : Int) ≤ (k : Int) := by omega
            have kj : (k : Int) < (xn : Int) := by omega
            by_cases hz0 : 0 ≤ xz k
            · have HHK := Lib.hid (HPH.out (k : Int) (xz k) _ HAV.out.fr)
              have hm := HXP.out k hkl hz0
              have hd := dL_has (q := q2) (i := k) (k := (xz k).toNat) (nw := nw) (n := no) (by have := HXE.out; omega) hm.2
              rw [Int.toNat_of_nonneg hz0] at hd
              rw [hd, hm.1] at HHK
              clear hm hd
              obtain ⟨zv, hzv⟩ : ∃ zv, xz k = zv := ⟨_, rfl⟩
              rw [hzv] at y1 hz0 HHK
              clear hzv
              go_wp2_with fail
              refine HHK.out.mono ?_
              rintro _ wv2 ⟨rfl, hb⟩
              have HAV2 := Lib.hid (HAV.out.below hb)
              clear hb HAV HHK y1
              go_wp2_with fail
              go_roundw
              case rel => exact ⟨k + 1, by go_num, by omega, HAV2.out.fr⟩
              case measure => simp [intOf]; omega
            · obtain ⟨zv, hzv⟩ : ∃ zv, xz k = zv := ⟨_, rfl⟩
              rw [hzv] at y1 hz0
              clear hzv
              go_wp2_with fail
              go_roundw
              case rel => exact ⟨k + 1, by go_num, by omega, HAV.out.fr⟩
              case measure => simp [intOf]; omega
          · go_wp2_with fail
            go_loopw [17] (fun v wr => ∃ j : Nat, v = .int .i64 (j : Int) ∧ j ≤ (dL q1 nw no).length ∧ Below wb.heap.size wb wr) (fun v _ => (dL q1 nw no).length - (intOf v).toNat)
            case atStart => exact ⟨0, rfl, Nat.zero_le _, HAV.out.fr⟩
            case round =>
              clear HAV
              obtain ⟨j, rfl, hj, hbl⟩ := hrel
              rename World => wu
              have HAB : Hid (BF wb wu []) := (BF.base wb).below hbl
              clear hbl
              by_cases hjl : j < (dL q1 nw no).length
              · obtain ⟨i, kk, hik, hi, hk2, hqq⟩ := dL_at hjl
                obtain ⟨lb, lo, rfl, hlb, hx0, hx1⟩ := (HS.out _ (Below.refl _ _)).at hjl
                rw [hik] at hx0 hx1
                have hix : i < xn := by have := HXE.out; omega
                obtain ⟨eb, eo, rfl, heb, hy1⟩ := (HXI.out _ (Below.refl _ _)).at hix
                rw [HXS.out i kk hqq] at hy1
                have HLC : Hid (∀ X, Below wb.heap.size wb X → X.cell? ⟨lb, lo + j * 2, none⟩ = some (.int .i64 (i : Int)) ∧ X.cell? ⟨lb, lo + j * 2 + 1, none⟩ = some (.int .i64 (kk : Int)) ∧ X.cell? ⟨eb, eo + i, none⟩ = some (.int .i64 (kk : Int))) := fun X hX => ⟨kept hX hlb hx0, kept hX hlb hx1, kept hX heb hy1⟩
                clear hik hx0 hx1 hy1 hqq
                have ki : (0 : Int) ≤ (j : Int) := by omega
                have kj : (j : Int) < ((dL q1 nw no).length : Int) := by omega
                have ii : (0 : Int) ≤ (i : Int) := by omega
                have ij : (i : Int) < (xn : Int) := by omega
                go_upto_region 25 with fail
                have HAX : Hid (BF wb wu.drew []) := HAB.out.below (Below.refl _ _).drew
                clear HAB
                refine wp_region_Z (S := fun X => X.cell? ⟨lb, lo + j * 2, none⟩ = some (.int .i64 (i : Int)) ∧ X.cell? ⟨lb, lo + j * 2 + 1, none⟩ = some (.int .i64 (kk : Int)) ∧ X.cell? ⟨eb, eo + i, none⟩ = some (.int .i64 (kk : Int))) (by kernel_rfl) (⟨(HLC.out _ HAX.out.fr).1, (HLC.out _ HAX.out.fr).2.1, (HLC.out _ HAX.out.fr).2.2⟩) (fun hS => ?_)
                generalize wu.drew = X at *
                refine wpAnyZ_take (i := 0) (oi := ⟨some 113, _, _, _, _, _⟩) (v := ?_) rfl (by kernel_rfl) (by kernel_rfl) (by kernel_rfl) (fun _ _ _ h => h) (Or.inl ⟨by rfl, ?_⟩) hS ?_
                rotate_left
                · rintro W' ⟨z0, z1, z2⟩; go_simp; try with_reducible rfl
                try simp only [Act.put, putA, putZ, putS]
                refine wpAnyZ_take (i := 1) (oi := ⟨some 114, _, _, _, _, _⟩) (v := ?_) rfl (by kernel_rfl) (by kernel_rfl) (by kernel_rfl) (fun _ _ _ h => h) (Or.inl ⟨by rfl, ?_⟩) hS ?_
                rotate_left
                · rintro W' ⟨z0, z1, z2⟩; go_simp; try with_reducible rfl
                try simp only [Act.put, putA, putZ, putS]
                refine wpAnyZ_take (i := 2) (oi := ⟨some 115, _, _, _, _, _⟩) (v := ?_) rfl (by kernel_rfl) (by kernel_rfl) (by kernel_rfl) (fun _ _ _ h => h) (Or.inl ⟨by rfl, ?_⟩) hS ?_
                rotate_left
                · rintro W' ⟨z0, z1, z2⟩; go_simp; try with_reducible rfl
                try simp only [Act.put, putA, putZ, putS]
                refine wpAnyZ_take (i := 3) (oi := ⟨some 116, _, _, _, _, _⟩) (v := ?_) rfl (by kernel_rfl) (by kernel_rfl) (by kernel_rfl) (fun _ _ _ h => h) (Or.inl ⟨by rfl, ?_⟩) hS ?_
                rotate_left
                · rintro W' ⟨z0, z1, z2⟩; go_simp; try with_reducible rfl
                try simp only [Act.put, putA, putZ, putS]
                refine wpAnyZ_take (i := 4) (oi := ⟨some 117, _, _, _, _, _⟩) (v := ?_) rfl (by kernel_rfl) (by kernel_rfl) (by kernel_rfl) (fun _ _ _ h => h) (Or.inl ⟨by rfl, ?_⟩) hS ?_
                rotate_left
                · rintro W' ⟨z0, z1, z2⟩; go_simp; try with_reducible rfl
                try simp only [Act.put, putA, putZ, putS]
                refine wpAnyZ_take (i := 5) (oi := ⟨some 118, _, _, _, _, _⟩) (v := ?_) rfl (by kernel_rfl) (by kernel_rfl) (by kernel_rfl) (fun _ _ _ h => h) (Or.inl ⟨by rfl, ?_⟩) hS ?_
                rotate_left
                · rintro W' ⟨z0, z1, z2⟩; go_simp; try with_reducible rfl
                try simp only [Act.put, putA, putZ, putS]
                refine wpAnyZ_take (i := 6) (oi := ⟨some 119, _, _, _, _, _⟩) (v := ?_) rfl (by kernel_rfl) (by kernel_rfl) (by kernel_rfl) (fun _ _ _ h => h) (Or.inl ⟨by rfl, ?_⟩) hS ?_
                rotate_left
                · rintro W' ⟨z0, z1, z2⟩; go_simp; try with_reducible rfl
                try simp only [Act.put, putA, putZ, putS]
                refine wpAnyZ_take (i := 7) (oi := ⟨some 120, _, _, _, _, _⟩) (v := ?_) rfl (by kernel_rfl) (by kernel_rfl) (by kernel_rfl) (fun _ _ _ h => h) (Or.inl ⟨by rfl, ?_⟩) hS ?_
                rotate_left
                · rintro W' ⟨z0, z1, z2⟩; go_simp; try with_reducible rfl
                try simp only [Act.put, putA, putZ, putS]
                refine wpAnyZ_take (i := 8) (oi := ⟨some 121, _, _, _, _, _⟩) (v := ?_) rfl (by kernel_rfl) (by kernel_rfl) (by kernel_rfl) (fun _ _ _ h => h) (Or.inl ⟨by rfl, ?_⟩) hS ?_
                rotate_left
                · rintro W' ⟨z0, z1, z2⟩; go_simp; try with_reducible rfl
                try simp only [Act.put, putA, putZ, putS]
                refine wpAnyZ_take (i := 9) (oi := ⟨some 122, _, _, _, _, _⟩) (v := ?_) rfl (by kernel_rfl) (by kernel_rfl) (by kernel_rfl) (fun _ _ _ h => h) (Or.inl ⟨by rfl, ?_⟩) hS ?_
                rotate_left
                · rintro W' ⟨z0, z1, z2⟩; go_simp; try with_reducible rfl
                try simp only [Act.put, putA, putZ, putS]
                refine wpAnyZ_take (i := 10) (oi := ⟨some 123, _, _, _, _, _⟩) (v := ?_) rfl (by kernel_rfl) (by kernel_rfl) (by kernel_rfl) (fun _ _ _ h => h) (Or.inl ⟨by rfl, ?_⟩) hS ?_
                rotate_left
                · rintro W' ⟨z0, z1, z2⟩; go_simp; try with_reducible rfl
                try simp only [Act.put, putA, putZ, putS]
                refine wpAnyZ_take (i := 11) (oi := ⟨some 124, _, _, _, _, _⟩) (v := ?_) rfl (by kernel_rfl) (by kernel_rfl) (by kernel_rfl) (fun _ _ _ h => h) (Or.inl ⟨by rfl, ?_⟩) hS ?_
                rotate_left
                · rintro W' ⟨z0, z1, z2⟩; go_simp; try with_reducible rfl
                try simp only [Act.put, putA, putZ, putS]
                refine wpAnyZ_take (i := 12) (oi := ⟨some 125, _, _, _, _, _⟩) (v := ?_) rfl (by kernel_rfl) (by kernel_rfl) (by kernel_rfl) (fun _ _ _ h => h) (Or.inl ⟨by rfl, ?_⟩) hS ?_
                rotate_left
                · rintro W' ⟨z0, z1, z2⟩; go_simp; try with_reducible rfl
                try simp only [Act.put, putA, putZ, putS]
                refine wpAnyZ_take (i := 13) (oi := ⟨some 126, _, _, _, _, _⟩) (v := ?_) rfl (by kernel_rfl) (by kernel_rfl) (by kernel_rfl) (fun _ _ _ h => h) (Or.inl ⟨by rfl, ?_⟩) hS ?_
                rotate_left
                · rintro W' ⟨z0, z1, z2⟩; go_simp; try with_reducible rfl
                try simp only [Act.put, putA, putZ, putS]
                refine wpAnyZ_done (by kernel_rfl) ?_ _
                have HX2 := Lib.hid (HAX.out)
                go_wp2_with fail
                go_roundw
                case rel => exact ⟨j + 1, by go_num, by omega, HX2.out.fr⟩
                case measure => simp [intOf]; omega
              · go_wp2_with fail
                go_roundw
                case rel => exact ⟨t + 1, by go_num, by omega, HAB.out.fr⟩
                case measure => simp [intOf]; omega
    · go_wp2_with fail
      go_loopw [18] (fun v wr => ∃ j : Nat, v = .int .i64 (j : Int) ∧ j ≤ (dL q1 nw no).length ∧ Below wb.heap.size wb wr) (fun v _ => (dL q1 nw no).length - (intOf v).toNat)
      case atStart => exact ⟨0, rfl, Nat.zero_le _, HAB.out.fr⟩
      case round =>
        clear HAB
        obtain ⟨j, rfl, hj, hbl⟩ := hrel
        rename World => wu
        have HAB : Hid (BF wb wu []) := (BF.base wb).below hbl
        clear hbl
        by_cases hjl : j < (dL q1 nw no).length
        · obtain ⟨i, kk, hik, hi, hk2, hqq⟩ := dL_at hjl
          obtain ⟨lb, lo, rfl, hlb, hx0, hx1⟩ := (HS.out _ (Below.refl _ _)).at hjl
          rw [hik] at hx0 hx1
          have HHAS := Lib.hid (fun X (hX : Below wb.heap.size wb X) => HPH.out (i : Int) (kk : Int) X hX)
          rw [dL_has hi hk2, HQS.out i kk hqq] at HHAS
          have HLC : Hid (∀ X, Below wb.heap.size wb X → X.cell? ⟨lb, lo + j * 2, none⟩ = some (.int .i64 (i : Int)) ∧ X.cell? ⟨lb, lo + j * 2 + 1, none⟩ = some (.int .i64 (kk : Int))) := fun X hX => ⟨kept hX hlb hx0, kept hX hlb hx1⟩
          clear hik hx0 hx1 hqq
          have ki : (0 : Int) ≤ (j : Int) := by omega
          have kj : (j : Int) < ((dL q1 nw no).length : Int) := by omega
          go_upto_region 30 with fail
          have HAX : Hid (BF wb wu.drew []) := HAB.out.below (Below.refl _ _).drew
          clear HAB
          refine wp_region_Z (S := fun X => X.cell? ⟨lb, lo + j * 2, none⟩ = some (.int .i64 (i : Int)) ∧ X.cell? ⟨lb, lo + j * 2 + 1, none⟩ = some (.int .i64 (kk : Int))) (by kernel_rfl) (⟨(HLC.out _ HAX.out.fr).1, (HLC.out _ HAX.out.fr).2⟩) (fun hS => ?_)
          generalize wu.drew = X at *
          refine wpAnyZ_take (i := 0) (oi := ⟨some 133, _, _, _, _, _⟩) (v := ?_) rfl (by kernel_rfl) (by kernel_rfl) (by kernel_rfl) (fun _ _ _ h => h) (Or.inl ⟨by rfl, ?_⟩) hS ?_
          rotate_left
          · rintro W' ⟨z0, z1⟩; go_simp; try with_reducible rfl
          try simp only [Act.put, putA, putZ, putS]
          refine wpAnyZ_take (i := 1) (oi := ⟨some 134, _, _, _, _, _⟩) (v := ?_) rfl (by kernel_rfl) (by kernel_rfl) (by kernel_rfl) (fun _ _ _ h => h) (Or.inl ⟨by rfl, ?_⟩) hS ?_
          rotate_left
          · rintro W' ⟨z0, z1⟩; go_simp; try with_reducible rfl
          try simp only [Act.put, putA, putZ, putS]
          refine wpAnyZ_take (i := 2) (oi := ⟨some 135, _, _, _, _, _⟩) (v := ?_) rfl (by kernel_rfl) (by kernel_rfl) (by kernel_rfl) (fun _ _ _ h => h) (Or.inl ⟨by rfl, ?_⟩) hS ?_
          rotate_left
          · rintro W' ⟨z0, z1⟩; go_simp; try with_reducible rfl
          try simp only [Act.put, putA, putZ, putS]
          refine wpAnyZ_take (i := 3) (oi := ⟨some 136, _, _, _, _, _⟩) (v := ?_) rfl (by kernel_rfl) (by kernel_rfl) (by kernel_rfl) (fun _ _ _ h => h) (Or.inl ⟨by rfl, ?_⟩) hS ?_
          rotate_left
          · rintro W' ⟨z0, z1⟩; go_simp; try with_reducible rfl
          try simp only [Act.put, putA, putZ, putS]
          refine wpAnyZ_take (i := 4) (oi := ⟨some 137, _, _, _, _, _⟩) (v := ?_) rfl (by kernel_rfl) (by kernel_rfl) (by kernel_rfl) (fun _ _ _ h => h) (Or.inl ⟨by rfl, ?_⟩) hS ?_
          rotate_left
          · rintro W' ⟨z0, z1⟩; go_simp; try with_reducible rfl
          try simp only [Act.put, putA, putZ, putS]
          refine wpAnyZ_take (i := 5) (oi := ⟨some 138, _, _, _, _, _⟩) (v := ?_) rfl (by kernel_rfl) (by kernel_rfl) (by kernel_rfl) (fun _ _ _ h => h) (Or.inl ⟨by rfl, ?_⟩) hS ?_
          rotate_left
          · rintro W' ⟨z0, z1⟩; go_simp; try with_reducible rfl
          try simp only [Act.put, putA, putZ, putS]
          refine wpAnyZ_take (i := 6) (oi := ⟨some 139, _, _, _, _, _⟩) (v := ?_) rfl (by kernel_rfl) (by kernel_rfl) (by kernel_rfl) (fun _ _ _ h => h) (Or.inl ⟨by rfl, ?_⟩) hS ?_
          rotate_left
          · rintro W' ⟨z0, z1⟩; go_simp; try with_reducible rfl
          try simp only [Act.put, putA, putZ, putS]
          refine wpAnyZ_take (i := 7) (oi := ⟨some 140, _, _, _, _, _⟩) (v := ?_) rfl (by kernel_rfl) (by kernel_rfl) (by kernel_rfl) (fun _ _ _ h => h) (Or.inl ⟨by rfl, ?_⟩) hS ?_
          rotate_left
          · rintro W' ⟨z0, z1⟩; go_simp; try with_reducible rfl
          try simp only [Act.put, putA, putZ, putS]
          refine wpAnyZ_take (i := 8) (oi := ⟨some 141, _, _, _, _, _⟩) (v := ?_) rfl (by kernel_rfl) (by kernel_rfl) (by kernel_rfl) (fun _ _ _ h => h) (Or.inl ⟨by rfl, ?_⟩) hS ?_
          rotate_left
          · rintro W' ⟨z0, z1⟩; go_simp; try with_reducible rfl
          try simp only [Act.put, putA, putZ, putS]
          refine wpAnyZ_take (i := 9) (oi := ⟨some 142, _, _, _, _, _⟩) (v := ?_) rfl (by kernel_rfl) (by kernel_rfl) (by kernel_rfl) (fun _ _ _ h => h) (Or.inl ⟨by rfl, ?_⟩) hS ?_
          rotate_left
          · rintro W' ⟨z0, z1⟩; go_simp; try with_reducible rfl
          try simp only [Act.put, putA, putZ, putS]
          refine wpAnyZ_take (i := 10) (oi := ⟨some 143, _, _, _, _, _⟩) (v := ?_) rfl (by kernel_rfl) (by kernel_rfl) (by kernel_rfl) (fun _ _ _ h => h) (Or.inl ⟨by rfl, ?_⟩) hS ?_
          rotate_left
          · rintro W' ⟨z0, z1⟩; go_simp; try with_reducible rfl
          try simp only [Act.put, putA, putZ, putS]
          refine wpAnyZ_next (rs := [11]) (by kernel_rfl) (by simp) ?_
          refine NextZ.cons (o := ⟨some 144, _, _, _, _, _⟩) rfl (fun K hK => ?_) ?_
          ·
           go_simp
           refine (HHAS.out _ HAX.out.fr).mono ?_
           rintro _ X0 ⟨rfl, hb0⟩
           (try go_wp2_with fail)
           have HA0 := Lib.hid (HAX.out.below hb0)
           refine hK.out _ _ (⟨(HLC.out _ HA0.out.fr).1, (HLC.out _ HA0.out.fr).2⟩) (fun hS => ?_)
           clear hK K
           try simp only [Act.put, putA, putZ, putS]
           clear hb0
           refine wpAnyZ_take (i := 12) (oi := ⟨some 145, _, _, _, _, _⟩) (v := ?_) rfl (by kernel_rfl) (by kernel_rfl) (by kernel_rfl) (fun _ _ _ h => h) (Or.inl ⟨by rfl, ?_⟩) hS ?_
           rotate_left
           · rintro W' ⟨z0, z1⟩; go_simp; try with_reducible rfl
           try simp only [Act.put, putA, putZ, putS]
           refine wpAnyZ_done (by kernel_rfl) ?_ _
           have HX2 := Lib.hid (HA0.out)
           go_wp2_with fail
           go_roundw
           case rel => exact ⟨j + 1, by go_num, by omega, HX2.out.fr⟩
           case measure => simp [intOf]; omega
          exact NextZ.nil
        · go_wp2_with fail
          refine (awake5_any _).mono ?_
          rintro _ wz ⟨rfl, hb⟩
          have HA9 := Lib.hid (HAB.out.below hb)
          clear hb
          go_wp2_with fail
          go_ret
          exact ⟨rfl, HBB.out.trans (HA9.out.fr.mono HBB.out.size)⟩
theorem linkEach_walk (x : FV) (f : Fl) (a1 : Option Addr) (n1 d1 : Nat) (z1 : Nat → Int) (w : World) (h : FlLaw w x f) (hi1 : IntsIn w (.slice a1 n1 d1) n1 z1) (hr1 : ∀ j, j < n1 → rng64 (z1 j)) : Calls Tryz.prog 14 #[.agg #[.slice x.oa f.no x.oc, .slice x.na f.nw x.nc, .slice x.ma f.nm x.mc], .slice a1 n1 d1] w fun e w' => e = .returned (.bool true) ∧ Below w.heap.size w w' := by
  cases hr : f.rdy
  · exact linkEach_thick x f a1 n1 d1 w h.l hr
  · by_cases hl : 11 < n1
    · exact linkEach_long x f a1 n1 d1 w h.l hr hl
    · exact linkEach_ok x f a1 n1 d1 z1 w h.l hr hi1 hr1 (by omega)
end Go.Proofs.YtgbdbikjckfgmaaGreat
