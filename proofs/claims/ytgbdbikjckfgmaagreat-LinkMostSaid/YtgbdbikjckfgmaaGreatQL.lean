/- Link: LinkMost's walk. Printed by gen_ql.py. -/
import Derived.Test.YtgbdbikjckfgmaaGreatQJ
import Derived.Test.YtgbdbikjckfgmaaGreatRB
import Derived.Test.YtgbdbikjckfgmaaGreatQB
import Derived.Test.YtgbdbikjckfgmaaGreatQD
namespace Go.Proofs.YtgbdbikjckfgmaaGreat
open Go.RowKit Go.Shelf

set_option maxRecDepth 100000 in
set_option maxHeartbeats 32000000 in
theorem linkMost_thick (x : FV) (f : Fl) (a1 a2 a3 : Option Addr) (n1 d1 n2 d2 n3 d3 : Nat) (w : World) (h : FlQ QR w x f) (ht : f.rdy = false) :
    Calls Tryz.prog 17 #[.agg #[.slice x.oa f.no x.oc, .slice x.na f.nw x.nc, .slice x.ma f.nm x.mc], .slice a1 n1 d1, .slice a2 n2 d2, .slice a3 n3 d3] w fun e w' => e = .returned (.bool true) ∧ Below w.heap.size w w' := by
  obtain ⟨oa, oc, na, nc, ma, mc⟩ := x
  have HTH := Lib.hid (readyW ⟨oa, oc, na, nc, ma, mc⟩ f w h false ht)
  clear h ht
  dsimp only at HTH ⊢
  generalize f.no = no at *
  generalize f.nw = nw at *
  generalize f.nm = nm at *
  have HA := Lib.hid ((BF.base w).alloc #[.slice oa no oc, .slice na nw nc, .slice ma nm mc] 25)
  go_enter Tryz.func17, Tryz.ntmps17
  have c0 := HA.out.cell (.head _) 0
  have c1 := HA.out.cell (.head _) 1
  have c2 := HA.out.cell (.head _) 2
  go_wp2_with fail
  refine (HTH.out _ HA.out.fr).mono ?_
  rintro _ w1 ⟨rfl, hb⟩
  have HA' := Lib.hid (HA.out.below hb)
  clear HA
  have HA := HA'
  clear HA'
  clear hb c0 c1 c2
  go_wp2_with fail
  refine (awake5_any _).mono ?_
  rintro _ w2 ⟨rfl, hb⟩
  have HA' := Lib.hid (HA.out.below hb)
  clear HA
  have HA := HA'
  clear HA'
  clear hb
  go_wp2_with fail
  go_ret
  exact ⟨rfl, HA.out.fr⟩
set_option maxRecDepth 100000 in
set_option maxHeartbeats 32000000 in
theorem linkMost_long (x : FV) (f : Fl) (a1 a2 a3 : Option Addr) (n1 d1 n2 d2 n3 d3 : Nat) (w : World) (h : FlQ QR w x f) (hr : f.rdy = true) (hl : 11 < n1 ∨ 11 < n2 ∨ 11 < n3) :
    Calls Tryz.prog 17 #[.agg #[.slice x.oa f.no x.oc, .slice x.na f.nw x.nc, .slice x.ma f.nm x.mc], .slice a1 n1 d1, .slice a2 n2 d2, .slice a3 n3 d3] w fun e w' => e = .returned (.bool true) ∧ Below w.heap.size w w' := by
  obtain ⟨oa, oc, na, nc, ma, mc⟩ := x
  have HTH := Lib.hid (readyW ⟨oa, oc, na, nc, ma, mc⟩ f w h true hr)
  clear h hr
  dsimp only at HTH ⊢
  generalize f.no = no at *
  generalize f.nw = nw at *
  generalize f.nm = nm at *
  have HA := Lib.hid ((BF.base w).alloc #[.slice oa no oc, .slice na nw nc, .slice ma nm mc] 25)
  go_enter Tryz.func17, Tryz.ntmps17
  have c0 := HA.out.cell (.head _) 0
  have c1 := HA.out.cell (.head _) 1
  have c2 := HA.out.cell (.head _) 2
  go_wp2_with fail
  refine (HTH.out _ HA.out.fr).mono ?_
  rintro _ w1 ⟨rfl, hb⟩
  have HA' := Lib.hid (HA.out.below hb)
  clear HA
  have HA := HA'
  clear HA'
  clear hb c0 c1 c2
  by_cases q0 : 11 < n1
  · have p0 : (11 : Int) < (n1 : Int) := by omega
    go_wp2_with fail
    refine (awake5_any _).mono ?_
    rintro _ w2 ⟨rfl, hb⟩
    have HA' := Lib.hid (HA.out.below hb)
    clear HA
    have HA := HA'
    clear HA'
    clear hb
    go_wp2_with fail
    go_ret
    exact ⟨rfl, HA.out.fr⟩
  have p0 : ¬ (11 : Int) < (n1 : Int) := by omega
  by_cases q1 : 11 < n2
  · have p1 : (11 : Int) < (n2 : Int) := by omega
    go_wp2_with fail
    refine (awake5_any _).mono ?_
    rintro _ w2 ⟨rfl, hb⟩
    have HA' := Lib.hid (HA.out.below hb)
    clear HA
    have HA := HA'
    clear HA'
    clear hb
    go_wp2_with fail
    go_ret
    exact ⟨rfl, HA.out.fr⟩
  have p1 : ¬ (11 : Int) < (n2 : Int) := by omega
  have q2 : 11 < n3 := by omega
  have p2 : (11 : Int) < (n3 : Int) := by omega
  clear hl
  go_wp2_with fail
  refine (awake5_any _).mono ?_
  rintro _ w2 ⟨rfl, hb⟩
  have HA' := Lib.hid (HA.out.below hb)
  clear HA
  have HA := HA'
  clear HA'
  clear hb
  go_wp2_with fail
  go_ret
  exact ⟨rfl, HA.out.fr⟩
set_option maxRecDepth 100000 in
set_option maxHeartbeats 32000000 in
theorem linkMost_ok (x : FV) (f : Fl) (a1 a2 a3 : Option Addr) (n1 d1 n2 d2 n3 d3 : Nat) (z1 z2 z3 : Nat → Int) (w : World) (h : FlQ QR w x f) (hr : f.rdy = true) (hi1 : IntsIn w (.slice a1 n1 d1) n1 z1) (hi2 : IntsIn w (.slice a2 n2 d2) n2 z2) (hi3 : IntsIn w (.slice a3 n3 d3) n3 z3) (hr1 : ∀ j, j < n1 → rng64 (z1 j)) (hn1 : n1 ≤ 11) (hn2 : n2 ≤ 11) (hn3 : n3 ≤ 11) :
    Calls Tryz.prog 17 #[.agg #[.slice x.oa f.no x.oc, .slice x.na f.nw x.nc, .slice x.ma f.nm x.mc], .slice a1 n1 d1, .slice a2 n2 d2, .slice a3 n3 d3] w fun e w' => e = .returned (.bool true) ∧ Below w.heap.size w w' := by
  obtain ⟨oa, oc, na, nc, ma, mc⟩ := x
  obtain ⟨ht, hf⟩ := Fl.rdy_yes hr
  have HTH := Lib.hid (readyW ⟨oa, oc, na, nc, ma, mc⟩ f w h true hr)
  have HFI := Lib.hid (fileW ⟨oa, oc, na, nc, ma, mc⟩ f w h ht)
  have OK := Lib.hid (Fl.ok hf)
  have hno := OK.out.no
  have hnw := OK.out.nw
  have hms : f.most ≤ 8 := OK.out.most8
  have HC1 : Hid (∀ (z : FV) X, FlQ QP X z f → Calls Tryz.prog 42 #[.agg #[.slice z.oa f.no z.oc, .slice z.na f.nw z.nc, .slice z.ma f.nm z.mc]] X fun e w' => e = .returned (.tuple #[.int .i64 (f.most : Int), .int .i64 0]) ∧ Below X.heap.size X w') := fun z X hq => mostF_ok z f X hq hf
  have HC2 : Hid (∀ (z : FV) X, FlQ QP X z f → Calls Tryz.prog 43 #[.agg #[.slice z.oa f.no z.oc, .slice z.na f.nw z.nc, .slice z.ma f.nm z.mc]] X (GivesT X f.no f.lst)) := fun z X hq => matchF_ok z f X hq hf
  have HC3 : Hid (∀ (z : FV) X, FlQ QP X z f → Calls Tryz.prog 53 #[.agg #[.slice z.oa f.no z.oc, .slice z.na f.nw z.nc, .slice z.ma f.nm z.mc]] X (GivesCv X f)) := fun z X hq => coverF_ok z f X hq hf
  have HLR : Hid (∀ j, j < f.no → rng64 (f.lst j)) := fun j _ => by
    rcases OK.out.lst_or j with e | ⟨k, e⟩
    · rw [e]; exact rng64_small (by decide) (by decide)
    · have := (Fl.g_in (OK.out.lst_g e)).2
      rw [e]; exact rng64_small (by omega) (by omega)
  have HP1 : Hid (∀ (z : FV) X a c, FlQ QP X z f → IntsIn X (.slice a f.no c) f.no f.lst → Calls Tryz.prog 48 #[.agg #[.slice z.oa f.no z.oc, .slice z.na f.nw z.nc, .slice z.ma f.nm z.mc], .slice a f.no c, .int .i64 (f.most : Int)] X fun e w' => e = .returned (.bool true) ∧ Below X.heap.size X w') := fun z X a c hq hl => by
    have h := provM_ok z f a f.no c f.lst (f.most : Int) X hq hf hl HLR.out (by omega)
    rw [OK.out.lst_isM, OK.out.lst_mt.2] at h
    simpa using h
  have HP2 : Hid (∀ (z : FV) X a c, FlQ QP X z f → IntsIn X (.slice a f.no c) f.no f.lst → Calls Tryz.prog 48 #[.agg #[.slice z.oa f.no z.oc, .slice z.na f.nw z.nc, .slice z.ma f.nm z.mc], .slice a f.no c, .int .i64 ((f.most : Int) + 1)] X fun e w' => e = .returned (.bool false) ∧ Below X.heap.size X w') := fun z X a c hq hl => by
    have h := provM_ok z f a f.no c f.lst ((f.most : Int) + 1) X hq hf hl HLR.out (by omega)
    rw [OK.out.lst_mt.2, decide_eq_false (by omega), Bool.and_false] at h
    exact h
  have HP3 : Hid (∀ (z : FV) X (l1 l2 : List Nat) a c b d, FlQ QP X z f → IntsIn X (.slice a l1.length c) l1.length (nz l1) → IntsIn X (.slice b l2.length d) l2.length (nz l2) → f.isC l1.length (nz l1) l2.length (nz l2) = true → l1.length + l2.length = f.most → Calls Tryz.prog 52 #[.agg #[.slice z.oa f.no z.oc, .slice z.na f.nw z.nc, .slice z.ma f.nm z.mc], .slice a l1.length c, .slice b l2.length d, .int .i64 (f.most : Int)] X fun e w' => e = .returned (.bool true) ∧ Below X.heap.size X w') := fun z X l1 l2 a c b d hq h1 h2 hc hs => by
    have h := provC_ok z f a b l1.length l2.length c d (nz l1) (nz l2) (f.most : Int) X hq hf h1 h2 (by omega) (by omega)
    rw [hc, decide_eq_true (by omega)] at h
    exact h
  have HP4 : Hid (∀ (z : FV) X (l1 l2 : List Nat) a c b d, FlQ QP X z f → IntsIn X (.slice a l1.length c) l1.length (nz l1) → IntsIn X (.slice b l2.length d) l2.length (nz l2) → f.isC l1.length (nz l1) l2.length (nz l2) = true → l1.length + l2.length = f.most → Calls Tryz.prog 52 #[.agg #[.slice z.oa f.no z.oc, .slice z.na f.nw z.nc, .slice z.ma f.nm z.mc], .slice a l1.length c, .slice b l2.length d, .int .i64 ((f.most : Int) - 1)] X fun e w' => e = .returned (.bool false) ∧ Below X.heap.size X w') := fun z X l1 l2 a c b d hq h1 h2 hc hs => by
    have h := provC_ok z f a b l1.length l2.length c d (nz l1) (nz l2) ((f.most : Int) - 1) X hq hf h1 h2 (by omega) (by omega)
    rw [hc, decide_eq_false (by omega)] at h
    exact h
  have HP5 : Hid (∀ (z : FV) X a c, FlQ QP X z f → IntsIn X (.slice a n1 c) n1 z1 → Calls Tryz.prog 48 #[.agg #[.slice z.oa f.no z.oc, .slice z.na f.nw z.nc, .slice z.ma f.nm z.mc], .slice a n1 c, .int .i64 ((f.most : Int) + 1)] X fun e w' => e = .returned (.bool false) ∧ Below X.heap.size X w') := fun z X a c hq hl => by
    have h := provM_ok z f a n1 c z1 ((f.most : Int) + 1) X hq hf hl hr1 (by omega)
    have e : (f.isM n1 z1 && decide ((f.most : Int) + 1 ≤ (cntM z1 n1 : Int))) = false := by
      cases hm : f.isM n1 z1
      · rfl
      · have := OK.out.isM_le hm
        rw [decide_eq_false (by omega)]; rfl
    rw [e] at h
    exact h
  have HP6 : Hid (∀ (z : FV) X a c b d, FlQ QP X z f → IntsIn X (.slice a n2 c) n2 z2 → IntsIn X (.slice b n3 d) n3 z3 → Calls Tryz.prog 52 #[.agg #[.slice z.oa f.no z.oc, .slice z.na f.nw z.nc, .slice z.ma f.nm z.mc], .slice a n2 c, .slice b n3 d, .int .i64 ((f.most : Int) - 1)] X fun e w' => e = .returned (.bool false) ∧ Below X.heap.size X w') := fun z X a c b d hq h1 h2 => by
    have h := provC_ok z f a b n2 n3 c d z2 z3 ((f.most : Int) - 1) X hq hf h1 h2 (by omega) (by omega)
    have e : (f.isC n2 z2 n3 z3 && decide ((n2 : Int) + (n3 : Int) ≤ (f.most : Int) - 1)) = false := by
      cases hm : f.isC n2 z2 n3 z3
      · rfl
      · have := OK.out.cover_ge hm
        rw [decide_eq_false (by omega)]; rfl
    rw [e] at h
    exact h
  have HI1 := Lib.hid (listW a1 n1 d1 z1 w (by omega) hi1)
  have HI2 := Lib.hid (listW a2 n2 d2 z2 w (by omega) hi2)
  have HI3 := Lib.hid (listW a3 n3 d3 z3 w (by omega) hi3)
  unfold GivesT at HC2
  unfold GivesCv GivesA at HC3
  clear h hr ht hf OK hi1 hi2 hi3 hr1 HLR
  dsimp only at HTH HFI ⊢
  generalize f.isC = isC at *
  generalize f.lst = ls at *
  generalize f.most = mst at *
  have kwp : IntKind.i64.wrap ((mst : Int) + 1) = (mst : Int) + 1 := IntWalk.i64_in _ (by omega)
  have kwm : IntKind.i64.wrap ((mst : Int) - 1) = (mst : Int) - 1 := IntWalk.i64_in _ (by omega)
  have p1 : ¬ (11 : Int) < (n1 : Int) := by omega
  have p2 : ¬ (11 : Int) < (n2 : Int) := by omega
  have p3 : ¬ (11 : Int) < (n3 : Int) := by omega
  generalize f.no = no at *
  generalize f.nw = nw at *
  generalize f.nm = nm at *
  have HA := Lib.hid ((BF.base w).alloc #[.slice oa no oc, .slice na nw nc, .slice ma nm mc] 25)
  go_enter Tryz.func17, Tryz.ntmps17
  have c0 := HA.out.cell (.head _) 0
  have c1 := HA.out.cell (.head _) 1
  have c2 := HA.out.cell (.head _) 2
  go_wp2_with fail
  refine (HTH.out _ HA.out.fr).mono ?_
  rintro _ w1 ⟨rfl, hb⟩
  have HA' := Lib.hid (HA.out.below hb)
  clear HA
  have HA := HA'
  clear HA'
  clear hb c0 c1 c2
  have c0 := HA.out.cell (.head _) 0
  have c1 := HA.out.cell (.head _) 1
  have c2 := HA.out.cell (.head _) 2
  go_wp2_with fail
  refine (HFI.out _ HA.out.fr).mono ?_
  rintro _ w2 ⟨z, rfl, hq, hb⟩
  have HA' := Lib.hid (HA.out.below hb)
  clear HA
  have HA := HA'
  clear HA'
  have HQ := Lib.hid hq
  clear hq hb c0 c1 c2
  go_wp2_with fail
  refine (HC1.out z _ HQ.out).mono ?_
  rintro _ w3 ⟨rfl, hb⟩
  have HA' := Lib.hid (HA.out.below hb)
  clear HA
  have HA := HA'
  clear HA'
  clear hb
  clear HQ
  have c0 := HA.out.cell (.head _) 0
  have c1 := HA.out.cell (.head _) 1
  have c2 := HA.out.cell (.head _) 2
  go_wp2_with fail
  refine (HFI.out _ HA.out.fr).mono ?_
  rintro _ w4 ⟨z, rfl, hq, hb⟩
  have HA' := Lib.hid (HA.out.below hb)
  clear HA
  have HA := HA'
  clear HA'
  have HQ := Lib.hid hq
  clear hq hb c0 c1 c2
  go_wp2_with fail
  refine (HC2.out z _ HQ.out).mono ?_
  rintro _ w5 ⟨ma2, mc2, rfl, hl, hb⟩
  have HA' := Lib.hid (HA.out.below hb)
  clear HA
  have HA := HA'
  clear HA'
  have HLS := Lib.hid hl
  clear hl
  clear hb
  clear HQ
  have c0 := HA.out.cell (.head _) 0
  have c1 := HA.out.cell (.head _) 1
  have c2 := HA.out.cell (.head _) 2
  go_wp2_with fail
  refine (HFI.out _ HA.out.fr).mono ?_
  rintro _ w6 ⟨z, rfl, hq, hb⟩
  have HA' := Lib.hid (HA.out.below hb)
  clear HA
  have HA := HA'
  clear HA'
  have HLS' := Lib.hid (HLS.out.below hb)
  clear HLS
  have HLS := HLS'
  clear HLS'
  have HQ := Lib.hid hq
  clear hq hb c0 c1 c2
  go_wp2_with fail
  refine (HC3.out z _ HQ.out).mono ?_
  rintro _ w7 ⟨l1, l2, ⟨ca, cc, cb, cd, rfl, ho, hn, hb⟩, hc, hs⟩
  have HCV := Lib.hid hc
  have HCS := Lib.hid hs
  clear hc hs HQ
  have HA' := Lib.hid (HA.out.below hb)
  clear HA
  have HA := HA'
  clear HA'
  have HLS' := Lib.hid (HLS.out.below hb)
  clear HLS
  have HLS := HLS'
  clear HLS'
  have HCO := Lib.hid ho
  have HCN := Lib.hid hn
  clear ho hn hb
  have hlm := HCS.out
  have hl1 : l1.length ≤ 8 := by omega
  have hl2 : l2.length ≤ 8 := by omega
  clear hlm
  have c0 := HA.out.cell (.head _) 0
  have c1 := HA.out.cell (.head _) 1
  have c2 := HA.out.cell (.head _) 2
  go_wp2_with fail
  refine (HFI.out _ HA.out.fr).mono ?_
  rintro _ w8 ⟨z, rfl, hq, hb⟩
  have HA' := Lib.hid (HA.out.below hb)
  clear HA
  have HA := HA'
  clear HA'
  have HLS' := Lib.hid (HLS.out.below hb)
  clear HLS
  have HLS := HLS'
  clear HLS'
  have HCO' := Lib.hid (HCO.out.below hb)
  clear HCO
  have HCO := HCO'
  clear HCO'
  have HCN' := Lib.hid (HCN.out.below hb)
  clear HCN
  have HCN := HCN'
  clear HCN'
  have HQ := Lib.hid hq
  clear hq hb c0 c1 c2
  go_wp2_with fail
  refine (HP1.out z _ _ _ HQ.out HLS.out).mono ?_
  rintro _ w9 ⟨rfl, hb⟩
  have HA' := Lib.hid (HA.out.below hb)
  clear HA
  have HA := HA'
  clear HA'
  have HLS' := Lib.hid (HLS.out.below hb)
  clear HLS
  have HLS := HLS'
  clear HLS'
  have HCO' := Lib.hid (HCO.out.below hb)
  clear HCO
  have HCO := HCO'
  clear HCO'
  have HCN' := Lib.hid (HCN.out.below hb)
  clear HCN
  have HCN := HCN'
  clear HCN'
  clear hb
  clear HQ
  have c0 := HA.out.cell (.head _) 0
  have c1 := HA.out.cell (.head _) 1
  have c2 := HA.out.cell (.head _) 2
  go_wp2_with fail
  refine (HFI.out _ HA.out.fr).mono ?_
  rintro _ w10 ⟨z, rfl, hq, hb⟩
  have HA' := Lib.hid (HA.out.below hb)
  clear HA
  have HA := HA'
  clear HA'
  have HLS' := Lib.hid (HLS.out.below hb)
  clear HLS
  have HLS := HLS'
  clear HLS'
  have HCO' := Lib.hid (HCO.out.below hb)
  clear HCO
  have HCO := HCO'
  clear HCO'
  have HCN' := Lib.hid (HCN.out.below hb)
  clear HCN
  have HCN := HCN'
  clear HCN'
  have HQ := Lib.hid hq
  clear hq hb c0 c1 c2
  go_wp2_with fail
  refine (HP2.out z _ _ _ HQ.out HLS.out).mono ?_
  rintro _ w11 ⟨rfl, hb⟩
  have HA' := Lib.hid (HA.out.below hb)
  clear HA
  have HA := HA'
  clear HA'
  have HLS' := Lib.hid (HLS.out.below hb)
  clear HLS
  have HLS := HLS'
  clear HLS'
  have HCO' := Lib.hid (HCO.out.below hb)
  clear HCO
  have HCO := HCO'
  clear HCO'
  have HCN' := Lib.hid (HCN.out.below hb)
  clear HCN
  have HCN := HCN'
  clear HCN'
  clear hb
  clear HQ
  clear HLS
  have c0 := HA.out.cell (.head _) 0
  have c1 := HA.out.cell (.head _) 1
  have c2 := HA.out.cell (.head _) 2
  go_wp2_with fail
  refine (HFI.out _ HA.out.fr).mono ?_
  rintro _ w12 ⟨z, rfl, hq, hb⟩
  have HA' := Lib.hid (HA.out.below hb)
  clear HA
  have HA := HA'
  clear HA'
  have HCO' := Lib.hid (HCO.out.below hb)
  clear HCO
  have HCO := HCO'
  clear HCO'
  have HCN' := Lib.hid (HCN.out.below hb)
  clear HCN
  have HCN := HCN'
  clear HCN'
  have HQ := Lib.hid hq
  clear hq hb c0 c1 c2
  go_wp2_with fail
  refine (HP3.out z _ l1 l2 _ _ _ _ HQ.out HCO.out HCN.out HCV.out HCS.out).mono ?_
  rintro _ w13 ⟨rfl, hb⟩
  have HA' := Lib.hid (HA.out.below hb)
  clear HA
  have HA := HA'
  clear HA'
  have HCO' := Lib.hid (HCO.out.below hb)
  clear HCO
  have HCO := HCO'
  clear HCO'
  have HCN' := Lib.hid (HCN.out.below hb)
  clear HCN
  have HCN := HCN'
  clear HCN'
  clear hb
  clear HQ
  have c0 := HA.out.cell (.head _) 0
  have c1 := HA.out.cell (.head _) 1
  have c2 := HA.out.cell (.head _) 2
  go_wp2_with fail
  refine (HFI.out _ HA.out.fr).mono ?_
  rintro _ w14 ⟨z, rfl, hq, hb⟩
  have HA' := Lib.hid (HA.out.below hb)
  clear HA
  have HA := HA'
  clear HA'
  have HCO' := Lib.hid (HCO.out.below hb)
  clear HCO
  have HCO := HCO'
  clear HCO'
  have HCN' := Lib.hid (HCN.out.below hb)
  clear HCN
  have HCN := HCN'
  clear HCN'
  have HQ := Lib.hid hq
  clear hq hb c0 c1 c2
  go_wp2_with fail
  refine (HP4.out z _ l1 l2 _ _ _ _ HQ.out HCO.out HCN.out HCV.out HCS.out).mono ?_
  rintro _ w15 ⟨rfl, hb⟩
  have HA' := Lib.hid (HA.out.below hb)
  clear HA
  have HA := HA'
  clear HA'
  have HCO' := Lib.hid (HCO.out.below hb)
  clear HCO
  have HCO := HCO'
  clear HCO'
  have HCN' := Lib.hid (HCN.out.below hb)
  clear HCN
  have HCN := HCN'
  clear HCN'
  clear hb
  clear HQ
  clear HCO
  clear HCN
  clear HCV HCS
  have c0 := HA.out.cell (.head _) 0
  have c1 := HA.out.cell (.head _) 1
  have c2 := HA.out.cell (.head _) 2
  go_wp2_with fail
  refine (HFI.out _ HA.out.fr).mono ?_
  rintro _ w16 ⟨z, rfl, hq, hb⟩
  have HA' := Lib.hid (HA.out.below hb)
  clear HA
  have HA := HA'
  clear HA'
  have HQ := Lib.hid hq
  clear hq hb c0 c1 c2
  go_wp2_with fail
  refine (HI1.out _ HA.out.fr).mono ?_
  rintro _ w17 ⟨bX1, cX1, rfl, hlX1, hb⟩
  have HA' := Lib.hid (HA.out.below hb)
  clear HA
  have HA := HA'
  clear HA'
  have HQ' := Lib.hid (HQ.out.below QP.k hb)
  clear HQ
  have HQ := HQ'
  clear HQ'
  have HLX1 := Lib.hid hlX1
  clear hlX1 hb
  go_wp2_with fail
  refine (HP5.out z _ _ _ HQ.out HLX1.out).mono ?_
  rintro _ w18 ⟨rfl, hb⟩
  have HA' := Lib.hid (HA.out.below hb)
  clear HA
  have HA := HA'
  clear HA'
  have HLX1' := Lib.hid (HLX1.out.below hb)
  clear HLX1
  have HLX1 := HLX1'
  clear HLX1'
  clear hb
  clear HQ
  clear HLX1
  have c0 := HA.out.cell (.head _) 0
  have c1 := HA.out.cell (.head _) 1
  have c2 := HA.out.cell (.head _) 2
  go_wp2_with fail
  refine (HFI.out _ HA.out.fr).mono ?_
  rintro _ w19 ⟨z, rfl, hq, hb⟩
  have HA' := Lib.hid (HA.out.below hb)
  clear HA
  have HA := HA'
  clear HA'
  have HQ := Lib.hid hq
  clear hq hb c0 c1 c2
  go_wp2_with fail
  refine (HI2.out _ HA.out.fr).mono ?_
  rintro _ w20 ⟨bX2, cX2, rfl, hlX2, hb⟩
  have HA' := Lib.hid (HA.out.below hb)
  clear HA
  have HA := HA'
  clear HA'
  have HQ' := Lib.hid (HQ.out.below QP.k hb)
  clear HQ
  have HQ := HQ'
  clear HQ'
  have HLX2 := Lib.hid hlX2
  clear hlX2 hb
  go_wp2_with fail
  refine (HI3.out _ HA.out.fr).mono ?_
  rintro _ w21 ⟨bX3, cX3, rfl, hlX3, hb⟩
  have HA' := Lib.hid (HA.out.below hb)
  clear HA
  have HA := HA'
  clear HA'
  have HLX2' := Lib.hid (HLX2.out.below hb)
  clear HLX2
  have HLX2 := HLX2'
  clear HLX2'
  have HQ' := Lib.hid (HQ.out.below QP.k hb)
  clear HQ
  have HQ := HQ'
  clear HQ'
  have HLX3 := Lib.hid hlX3
  clear hlX3 hb
  go_wp2_with fail
  refine (HP6.out z _ _ _ _ _ HQ.out HLX2.out HLX3.out).mono ?_
  rintro _ w22 ⟨rfl, hb⟩
  have HA' := Lib.hid (HA.out.below hb)
  clear HA
  have HA := HA'
  clear HA'
  have HLX2' := Lib.hid (HLX2.out.below hb)
  clear HLX2
  have HLX2 := HLX2'
  clear HLX2'
  have HLX3' := Lib.hid (HLX3.out.below hb)
  clear HLX3
  have HLX3 := HLX3'
  clear HLX3'
  clear hb
  clear HQ
  clear HLX2
  clear HLX3
  go_wp2_with fail
  refine (awake5_any _).mono ?_
  rintro _ w23 ⟨rfl, hb⟩
  have HA' := Lib.hid (HA.out.below hb)
  clear HA
  have HA := HA'
  clear HA'
  clear hb
  go_wp2_with fail
  go_ret
  exact ⟨rfl, HA.out.fr⟩
theorem linkMost_walk (x : FV) (f : Fl) (a1 a2 a3 : Option Addr) (n1 d1 n2 d2 n3 d3 : Nat) (z1 z2 z3 : Nat → Int) (w : World) (h : FlLaw w x f) (hi1 : IntsIn w (.slice a1 n1 d1) n1 z1) (hi2 : IntsIn w (.slice a2 n2 d2) n2 z2) (hi3 : IntsIn w (.slice a3 n3 d3) n3 z3) (hr1 : ∀ j, j < n1 → rng64 (z1 j)) : Calls Tryz.prog 17 #[.agg #[.slice x.oa f.no x.oc, .slice x.na f.nw x.nc, .slice x.ma f.nm x.mc], .slice a1 n1 d1, .slice a2 n2 d2, .slice a3 n3 d3] w fun e w' => e = .returned (.bool true) ∧ Below w.heap.size w w' := by
  cases hr : f.rdy
  · exact linkMost_thick x f a1 a2 a3 n1 d1 n2 d2 n3 d3 w h.l hr
  · by_cases hl : 11 < n1 ∨ 11 < n2 ∨ 11 < n3
    · exact linkMost_long x f a1 a2 a3 n1 d1 n2 d2 n3 d3 w h.l hr hl
    · exact linkMost_ok x f a1 a2 a3 n1 d1 n2 d2 n3 d3 z1 z2 z3 w h.l hr hi1 hi2 hi3 hr1 (by omega) (by omega) (by omega)
end Go.Proofs.YtgbdbikjckfgmaaGreat
