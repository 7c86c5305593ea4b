/- Link: Pairs, Sure, Possible, Most, Match. Printed by gen_my.py. -/
import Derived.Test.YtgbdbikjckfgmaaGreatMX
namespace Go.Proofs.YtgbdbikjckfgmaaGreat
open Go.RowKit Go.Shelf

set_option maxHeartbeats 2000000 in
theorem pairs_bad (x : FV) (f : Fl) (w : World) (h : FlQ QP w x f) (h1 : f.no ≤ 100000) (h2 : f.nw ≤ 100000) (h3 : f.nm ≤ 100000) (hf : f.fault ≠ 0) :
    Calls Tryz.prog 22 #[.agg #[.slice x.oa f.no x.oc, .slice x.na f.nw x.nc, .slice x.ma f.nm x.mc]] w fun e w' => e = .returned (.tuple #[.slice none 0 0, .int .i64 f.fault]) ∧ Below w.heap.size w w' := by
  have hb0 := below_alloc w (.cells #[.slice x.oa f.no x.oc, .slice x.na f.nw x.nc, .slice x.ma f.nm x.mc] 33)
  have HC := Lib.hid (chosen_bad (.func (.func 65) #[] #[]) x f _ (h.below QP.k hb0) h1 h2 h3 hf)
  have HB := Lib.hid hb0
  have hf1 : (f.fault != 0) = true := by simp [hf]
  clear h hf h1 h2 h3 hb0
  generalize f.fault = ft at *
  generalize f.no = no at *
  generalize f.nw = nw at *
  generalize f.nm = nm at *
  go_enter Tryz.func22, Tryz.ntmps22
  go_wp2_with fail
  refine HC.out.mono ?_
  rintro _ w1 ⟨rfl, hb⟩
  have HB1 := Lib.hid (below_step HB.out hb)
  clear hb
  go_wp2_with fail
  go_ret2
  exact ⟨rfl, HB1.out⟩
set_option maxHeartbeats 2000000 in
theorem pairs_ok (x : FV) (f : Fl) (w : World) (h : FlQ QP w x f) (hf : f.fault = 0) :
    Calls Tryz.prog 22 #[.agg #[.slice x.oa f.no x.oc, .slice x.na f.nw x.nc, .slice x.ma f.nm x.mc]] w (GivesP w (chL f pT f.no)) := by
  have hb0 := below_alloc w (.cells #[.slice x.oa f.no x.oc, .slice x.na f.nw x.nc, .slice x.ma f.nm x.mc] 33)
  have HC := Lib.hid (chosen_all x f _ (h.below QP.k hb0) hf)
  have HB := Lib.hid hb0
  clear h hf hb0
  generalize chL f pT f.no = l at *
  generalize f.no = no at *
  generalize f.nw = nw at *
  generalize f.nm = nm at *
  go_enter Tryz.func22, Tryz.ntmps22
  go_wp2_with fail
  refine HC.out.mono ?_
  rintro _ w1 ⟨a, c, rfl, hs, hb⟩
  have HS := Lib.hid hs
  have HB1 := Lib.hid (below_step HB.out hb)
  clear hb hs
  go_wp2_with fail
  go_ret2
  exact ⟨a, c, rfl, HS.out, HB1.out⟩
set_option maxHeartbeats 2000000 in
theorem sureF_bad (x : FV) (f : Fl) (w : World) (h : FlQ QP w x f) (h1 : f.no ≤ 100000) (h2 : f.nw ≤ 100000) (h3 : f.nm ≤ 100000) (hf : f.fault ≠ 0) :
    Calls Tryz.prog 37 #[.agg #[.slice x.oa f.no x.oc, .slice x.na f.nw x.nc, .slice x.ma f.nm x.mc]] w fun e w' => e = .returned (.tuple #[.slice none 0 0, .int .i64 f.fault]) ∧ Below w.heap.size w w' := by
  have hb0 := below_alloc w (.cells #[.slice x.oa f.no x.oc, .slice x.na f.nw x.nc, .slice x.ma f.nm x.mc] 33)
  have HC := Lib.hid (chosen_bad (.func (.func 79) #[] #[]) x f _ (h.below QP.k hb0) h1 h2 h3 hf)
  have HB := Lib.hid hb0
  have hf1 : (f.fault != 0) = true := by simp [hf]
  clear h hf h1 h2 h3 hb0
  generalize f.fault = ft at *
  generalize f.no = no at *
  generalize f.nw = nw at *
  generalize f.nm = nm at *
  go_enter Tryz.func37, Tryz.ntmps37
  go_wp2_with fail
  refine HC.out.mono ?_
  rintro _ w1 ⟨rfl, hb⟩
  have HB1 := Lib.hid (below_step HB.out hb)
  clear hb
  go_wp2_with fail
  go_ret2
  exact ⟨rfl, HB1.out⟩
set_option maxHeartbeats 2000000 in
theorem sureF_ok (x : FV) (f : Fl) (w : World) (h : FlQ QP w x f) (hf : f.fault = 0) :
    Calls Tryz.prog 37 #[.agg #[.slice x.oa f.no x.oc, .slice x.na f.nw x.nc, .slice x.ma f.nm x.mc]] w (GivesP w (chL f f.sure f.no)) := by
  have hb0 := below_alloc w (.cells #[.slice x.oa f.no x.oc, .slice x.na f.nw x.nc, .slice x.ma f.nm x.mc] 33)
  have HC := Lib.hid (chosen_sure x f _ (h.below QP.k hb0) hf)
  have HB := Lib.hid hb0
  clear h hf hb0
  generalize chL f f.sure f.no = l at *
  generalize f.no = no at *
  generalize f.nw = nw at *
  generalize f.nm = nm at *
  go_enter Tryz.func37, Tryz.ntmps37
  go_wp2_with fail
  refine HC.out.mono ?_
  rintro _ w1 ⟨a, c, rfl, hs, hb⟩
  have HS := Lib.hid hs
  have HB1 := Lib.hid (below_step HB.out hb)
  clear hb hs
  go_wp2_with fail
  go_ret2
  exact ⟨a, c, rfl, HS.out, HB1.out⟩
set_option maxHeartbeats 2000000 in
theorem possF_bad (x : FV) (f : Fl) (w : World) (h : FlQ QP w x f) (h1 : f.no ≤ 100000) (h2 : f.nw ≤ 100000) (h3 : f.nm ≤ 100000) (hf : f.fault ≠ 0) :
    Calls Tryz.prog 35 #[.agg #[.slice x.oa f.no x.oc, .slice x.na f.nw x.nc, .slice x.ma f.nm x.mc]] w fun e w' => e = .returned (.tuple #[.slice none 0 0, .int .i64 f.fault]) ∧ Below w.heap.size w w' := by
  have hb0 := below_alloc w (.cells #[.slice x.oa f.no x.oc, .slice x.na f.nw x.nc, .slice x.ma f.nm x.mc] 33)
  have HC := Lib.hid (chosen_bad (.func (.func 78) #[] #[]) x f _ (h.below QP.k hb0) h1 h2 h3 hf)
  have HB := Lib.hid hb0
  have hf1 : (f.fault != 0) = true := by simp [hf]
  clear h hf h1 h2 h3 hb0
  generalize f.fault = ft at *
  generalize f.no = no at *
  generalize f.nw = nw at *
  generalize f.nm = nm at *
  go_enter Tryz.func35, Tryz.ntmps35
  go_wp2_with fail
  refine HC.out.mono ?_
  rintro _ w1 ⟨rfl, hb⟩
  have HB1 := Lib.hid (below_step HB.out hb)
  clear hb
  go_wp2_with fail
  go_ret2
  exact ⟨rfl, HB1.out⟩
set_option maxHeartbeats 2000000 in
theorem possF_ok (x : FV) (f : Fl) (w : World) (h : FlQ QP w x f) (hf : f.fault = 0) :
    Calls Tryz.prog 35 #[.agg #[.slice x.oa f.no x.oc, .slice x.na f.nw x.nc, .slice x.ma f.nm x.mc]] w (GivesP w (chL f f.poss f.no)) := by
  have hb0 := below_alloc w (.cells #[.slice x.oa f.no x.oc, .slice x.na f.nw x.nc, .slice x.ma f.nm x.mc] 33)
  have HC := Lib.hid (chosen_poss x f _ (h.below QP.k hb0) hf)
  have HB := Lib.hid hb0
  clear h hf hb0
  generalize chL f f.poss f.no = l at *
  generalize f.no = no at *
  generalize f.nw = nw at *
  generalize f.nm = nm at *
  go_enter Tryz.func35, Tryz.ntmps35
  go_wp2_with fail
  refine HC.out.mono ?_
  rintro _ w1 ⟨a, c, rfl, hs, hb⟩
  have HS := Lib.hid hs
  have HB1 := Lib.hid (below_step HB.out hb)
  clear hb hs
  go_wp2_with fail
  go_ret2
  exact ⟨a, c, rfl, HS.out, HB1.out⟩
set_option maxHeartbeats 2000000 in
theorem mostF_bad (x : FV) (f : Fl) (w : World) (h : FlQ QP w x f) (h1 : f.no ≤ 100000) (h2 : f.nw ≤ 100000) (h3 : f.nm ≤ 100000) (hf : f.fault ≠ 0) :
    Calls Tryz.prog 42 #[.agg #[.slice x.oa f.no x.oc, .slice x.na f.nw x.nc, .slice x.ma f.nm x.mc]] w fun e w' => e = .returned (.tuple #[.int .i64 0, .int .i64 f.fault]) ∧ Below w.heap.size w w' := by
  have hb0 := below_alloc w (.cells #[.slice x.oa f.no x.oc, .slice x.na f.nw x.nc, .slice x.ma f.nm x.mc] 33)
  have HC := Lib.hid (work_bad x f _ (h.below QP.k hb0) h1 h2 h3 hf)
  have HB := Lib.hid hb0
  have hf1 : (f.fault != 0) = true := by simp [hf]
  clear h hf h1 h2 h3 hb0
  generalize f.fault = ft at *
  generalize f.no = no at *
  generalize f.nw = nw at *
  generalize f.nm = nm at *
  go_enter Tryz.func42, Tryz.ntmps42
  go_wp2_with fail
  refine HC.out.mono ?_
  rintro _ w1 ⟨rfl, hb⟩
  have HB1 := Lib.hid (below_step HB.out hb)
  clear hb
  go_wp2_with fail
  go_ret2
  exact ⟨rfl, HB1.out⟩
set_option maxHeartbeats 2000000 in
theorem mostF_ok (x : FV) (f : Fl) (w : World) (h : FlQ QP w x f) (hf : f.fault = 0) :
    Calls Tryz.prog 42 #[.agg #[.slice x.oa f.no x.oc, .slice x.na f.nw x.nc, .slice x.ma f.nm x.mc]] w fun e w' => e = .returned (.tuple #[.int .i64 (f.most : Int), .int .i64 0]) ∧ Below w.heap.size w w' := by
  have OK := Lib.hid (Fl.ok hf)
  have HA0 := Lib.hid ((BF.base w).alloc #[.slice x.oa f.no x.oc, .slice x.na f.nw x.nc, .slice x.ma f.nm x.mc] 33)
  have HC := Lib.hid (work_ok x f _ (h.below QP.k HA0.out.fr) hf)
  have HM := Lib.hid (fun B W (hW : WkF W B f) => lmost_any OK.out B none 0 [] W (by simp) hW (SkIn.nil _ _ _))
  have HE : Hid ((f.m []).2 = f.most) := rfl
  rw [HE.out] at HM
  clear h hf
  generalize f.most = n at *
  generalize f.no = no at *
  generalize f.nw = nw at *
  generalize f.nm = nm at *
  go_enter Tryz.func42, Tryz.ntmps42
  go_wp2_with fail
  refine HC.out.mono ?_
  rintro _ w1 ⟨B, rfl, hwk, hb⟩
  have HW := Lib.hid hwk
  have HA1 := Lib.hid (HA0.out.below hb)
  clear hb hwk HC HA0
  go_wp2_with fail
  refine (HM.out B _ HW.out).mono ?_
  rintro _ w2 ⟨rfl, hb⟩
  have HA2 := Lib.hid (HA1.out.below hb)
  clear hb HA1
  go_wp2_with fail
  go_ret2
  exact ⟨rfl, HA2.out.fr⟩
set_option maxHeartbeats 2000000 in
theorem matchF_bad (x : FV) (f : Fl) (w : World) (h : FlQ QP w x f) (h1 : f.no ≤ 100000) (h2 : f.nw ≤ 100000) (h3 : f.nm ≤ 100000) (hf : f.fault ≠ 0) :
    Calls Tryz.prog 43 #[.agg #[.slice x.oa f.no x.oc, .slice x.na f.nw x.nc, .slice x.ma f.nm x.mc]] w fun e w' => e = .returned (.tuple #[.slice none 0 0, .int .i64 f.fault]) ∧ Below w.heap.size w w' := by
  have hb0 := below_alloc w (.cells #[.slice x.oa f.no x.oc, .slice x.na f.nw x.nc, .slice x.ma f.nm x.mc] 33)
  have HC := Lib.hid (work_bad x f _ (h.below QP.k hb0) h1 h2 h3 hf)
  have HB := Lib.hid hb0
  have hf1 : (f.fault != 0) = true := by simp [hf]
  clear h hf h1 h2 h3 hb0
  generalize f.fault = ft at *
  generalize f.no = no at *
  generalize f.nw = nw at *
  generalize f.nm = nm at *
  go_enter Tryz.func43, Tryz.ntmps43
  go_wp2_with fail
  refine HC.out.mono ?_
  rintro _ w1 ⟨rfl, hb⟩
  have HB1 := Lib.hid (below_step HB.out hb)
  clear hb
  go_wp2_with fail
  go_ret2
  exact ⟨rfl, HB1.out⟩
def GivesT (w : World) (n : Nat) (z : Nat → Int) (e : Ending) (w' : World) : Prop := ∃ a c, e = .returned (.tuple #[.slice a n c, .int .i64 0]) ∧ IntsIn w' (.slice a n c) n z ∧ Below w.heap.size w w'
set_option maxRecDepth 100000 in
set_option maxHeartbeats 4000000 in
theorem matchF_ok (x : FV) (f : Fl) (w : World) (h : FlQ QP w x f) (hf : f.fault = 0) :
    Calls Tryz.prog 43 #[.agg #[.slice x.oa f.no x.oc, .slice x.na f.nw x.nc, .slice x.ma f.nm x.mc]] w (GivesT w f.no f.lst) := by
  have OK := Lib.hid (Fl.ok hf)
  have HA0 := Lib.hid ((BF.base w).alloc #[.slice x.oa f.no x.oc, .slice x.na f.nw x.nc, .slice x.ma f.nm x.mc] 33)
  have HC := Lib.hid (work_ok x f _ (h.below QP.k HA0.out.fr) hf)
  have HM := Lib.hid (fun B W (hW : WkF W B f) => matchF_any OK.out B none 0 [] W (by simp) hW (SkIn.nil _ _ _))
  have HLI := Lib.hid (fun B W (hW : WkF W B f) => list_any OK.out B (f.m []).1 W hW (match_rg (g := offG f.g (SK [])) (P := f.P) (F := 9) (no := f.no) f.no (Nat.le_refl _)).1)
  have HLS : Hid ((fun i => backL (f.m []).1 i 8) = f.lst) := rfl
  rw [HLS.out] at HLI
  have HL8 := Lib.hid (a8_l8 (f.m []).1)
  clear h hf
  generalize (f.m []).1 = l at *
  generalize (f.m []).2 = m at *
  generalize f.no = no at *
  generalize f.nw = nw at *
  generalize f.nm = nm at *
  go_enter Tryz.func43, Tryz.ntmps43
  go_wp2_with fail
  refine HC.out.mono ?_
  rintro _ w1 ⟨B, rfl, hwk, hb⟩
  have HW := Lib.hid hwk
  have HA1 := Lib.hid (HA0.out.below hb)
  clear hb hwk HC HA0
  go_wp2_with fail
  refine (HM.out B _ HW.out).mono ?_
  rintro _ w2 ⟨rfl, hb⟩
  have HW2 := Lib.hid (HW.out.below hb)
  have HA2 := Lib.hid (HA1.out.below hb)
  clear hb HA1 HW HM
  rw [HL8.out]
  unfold l8
  have HB3 := Lib.hid (below_alloc w2 (.cells #[.int .i64 (l 0), .int .i64 (l 1), .int .i64 (l 2), .int .i64 (l 3), .int .i64 (l 4), .int .i64 (l 5), .int .i64 (l 6), .int .i64 (l 7)] 134))
  have HW3 := Lib.hid (HW2.out.below HB3.out)
  have HLB := Lib.hid (HLI.out B _ HW3.out)
  rw [HL8.out] at HLB
  unfold l8 at HLB
  go_wp2_with fail
  refine HLB.out.mono ?_
  rintro _ w4 ⟨a, c, rfl, hz, hb⟩
  have HZ := Lib.hid hz
  have HB4 := Lib.hid (HA2.out.fr.trans ((below_step HB3.out hb).mono HA2.out.fr.size))
  clear hz hb
  go_wp2_with fail
  go_ret2
  exact ⟨a, c, rfl, HZ.out, HB4.out⟩
end Go.Proofs.YtgbdbikjckfgmaaGreat
