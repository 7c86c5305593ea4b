/- Link: ProveMatch. -/
import Derived.Test.YtgbdbikjckfgmaaGreatQA
import Derived.Test.YtgbdbikjckfgmaaGreatOG
namespace Go.Proofs.YtgbdbikjckfgmaaGreat
open Go.RowKit Go.Shelf Go.Maps

/-- The numbers that the first links have. -/
def inF (z : Nat → Int) (n : Nat) (x : Int) : Bool := !allB (fun j => !(decide (z j ≠ -1) && decide (x = z j))) n
theorem inF_zero (z : Nat → Int) : inF z 0 = fun _ => false := rfl
theorem inF_yes {z : Nat → Int} {k : Nat} (h : z k ≠ -1) : inF z (k + 1) = addI (inF z k) (z k) := by
  funext x
  unfold inF addI
  rw [allB_succ, Bool.not_and, Bool.not_not, decide_eq_true h, Bool.true_and]
theorem inF_no {z : Nat → Int} {k : Nat} (h : z k = -1) : inF z (k + 1) = inF z k := by
  funext x
  unfold inF
  rw [allB_succ, Bool.not_and, Bool.not_not, h]; simp
theorem inF_at {z : Nat → Int} {k : Nat} (h : z k ≠ -1) : inF z k (z k) = !allB (fun j => !(z j == z k)) k := by
  unfold inF
  congr 2
  funext j
  congr 1
  rw [Bool.eq_iff_iff]
  simp only [Bool.and_eq_true, decide_eq_true_eq, beq_iff_eq]
  constructor
  · exact fun q => q.2.symm
  · exact fun q => ⟨by rw [q]; exact h, q.symm⟩
theorem Fl.rowM_eq (f : Fl) {z : Nat → Int} {k : Nat} (h : z k ≠ -1) : f.rowM z k = (hasN (nz (f.P k)) (f.P k).length (z k) && !inF z k (z k)) := by
  rw [inF_at h, Bool.not_not]
  unfold Fl.rowM
  by_cases h0 : 0 ≤ z k
  · rw [f.hasP k h0, decide_eq_true h0, Bool.true_and]
  · rw [f.hasP_neg k (by omega), decide_eq_false h0]; rfl
set_option maxRecDepth 100000 in
set_option maxHeartbeats 8000000 in
theorem provM_bad (x : FV) (f : Fl) (v : Value) (many : Int) (w : World) (h : FlQ QP w x f) (h1 : f.no ≤ 100000) (h2 : f.nw ≤ 100000) (h3 : f.nm ≤ 100000) (hf : f.fault ≠ 0) :
    Calls Tryz.prog 48 #[.agg #[.slice x.oa f.no x.oc, .slice x.na f.nw x.nc, .slice x.ma f.nm x.mc], v, .int .i64 many] w fun e w' => e = .returned (.bool false) ∧ Below w.heap.size w w' := by
  have hb0 := below_alloc w (.cells #[.slice x.oa f.no x.oc, .slice x.na f.nw x.nc, .slice x.ma f.nm x.mc] 33)
  have HC := Lib.hid (work_bad x f _ (h.below QP.k hb0) h1 h2 h3 hf)
  have HB := Lib.hid hb0
  have hf1 : (f.fault != 0) = true := by simp [hf]
  clear h hf h1 h2 h3 hb0
  generalize f.fault = ft at *
  generalize f.no = no at *
  generalize f.nw = nw at *
  generalize f.nm = nm at *
  go_enter Tryz.func48, Tryz.ntmps48
  go_wp2_with fail
  refine HC.out.mono ?_
  rintro _ w1 ⟨rfl, hb⟩
  have HB1 := Lib.hid (below_step HB.out hb)
  clear hb
  go_wp2_with fail
  go_ret
  exact ⟨rfl, HB1.out⟩
set_option maxRecDepth 100000 in
set_option maxHeartbeats 16000000 in
theorem provM_ok (x : FV) (f : Fl) (a : Option Addr) (n c : Nat) (z : Nat → Int) (many : Int) (w : World) (h : FlQ QP w x f) (hf : f.fault = 0) (hl : IntsIn w (.slice a n c) n z) (hr : ∀ j, j < n → rng64 (z j)) (hn : n ≤ 100000) :
    Calls Tryz.prog 48 #[.agg #[.slice x.oa f.no x.oc, .slice x.na f.nw x.nc, .slice x.ma f.nm x.mc], .slice a n c, .int .i64 many] w fun e w' => e = .returned (.bool (f.isM n z && decide (many ≤ (cntM z n : Int)))) ∧ Below w.heap.size w w' := by
  have OK := Lib.hid (Fl.ok hf)
  have HA0 := Lib.hid ((BF.base w).alloc #[.slice x.oa f.no x.oc, .slice x.na f.nw x.nc, .slice x.ma f.nm x.mc] 33)
  have HC := Lib.hid (work_ok x f _ (h.below QP.k HA0.out.fr) hf)
  have hno := OK.out.no
  have hnw := OK.out.nw
  have HL := Lib.hid hl
  have HRG := Lib.hid hr
  have HPL := Lib.hid (fun i => f.P_len i)
  have HMN := Lib.hid (fun i hi h1 h2 => Fl.isM_no (f := f) (n := n) (z := z) (i := i) hi h1 h2)
  have HMY : Hid (n = f.no → (∀ i, i < n → z i ≠ -1 → f.rowM z i = true) → f.isM n z = true) := fun h1 h2 => Fl.isM_yes h1 h2
  have HM0 : Hid (n ≠ f.no → f.isM n z = false) := fun h => by unfold Fl.isM; rw [decide_eq_false h]; rfl
  have HRE := Lib.hid (fun k hk => f.rowM_eq (z := z) (k := k) hk)
  have HWK : Hid (∀ B W, WkF W B f → ∃ xv, WkAt W B xv f.no f.nw f.P) := fun B W h => h
  clear h hf hl hr OK
  obtain ⟨rb, hrb⟩ : ∃ rb, f.isM n z = rb := ⟨_, rfl⟩
  rw [hrb] at HMN HMY HM0 ⊢
  clear hrb
  generalize f.rowM z = rowM at *
  generalize f.no = no at *
  generalize f.nw = nw at *
  generalize f.nm = nm at *
  go_enter Tryz.func48, Tryz.ntmps48
  go_wp2_with fail
  refine HC.out.mono ?_
  rintro _ w1 ⟨B, rfl, hwk, hb⟩
  have HW := Lib.hid hwk
  have HA1 := Lib.hid (HA0.out.below hb)
  clear hb hwk HC HA0
  have c0 := HA1.out.cell (.head _) 0
  by_cases h0 : n = no
  case neg =>
    have hr := HM0.out h0
    subst hr
    have k0 : ((n : Int) != (no : Int)) = true := by simp; omega
    go_wp2_with fail
    go_ret
    exact ⟨rfl, HA1.out.fr⟩
  subst h0
  have k0 : ((n : Int) != (n : Int)) = false := by simp
  have HMY2 := Lib.hid (HMY.out rfl)
  clear HMY HM0
  have HIM0 : Hid (IM (w1.alloc (.map #[] 0)) (inF z 0) w1.heap.size 0) := IM.made w1
  have HB0 : Hid (Below w1.heap.size w1 (w1.alloc (.map #[] 0))) := below_alloc w1 _
  have hmm := @run_makeMap Tryz.prog
  go_wp2_with fail
  clear hmm
  generalize w1.alloc (.map #[] 0) = ws at *
  obtain ⟨bm, hbm⟩ : ∃ b, w1.heap.size = b := ⟨_, rfl⟩
  have HBM : Hid (w1.heap.size ≤ bm) := Nat.le_of_eq hbm
  rw [hbm] at HIM0 ⊢
  clear hbm c0
  go_loopw [30] (fun v wr => ∃ k : Nat, v = .int .i64 (k : Int) ∧ k ≤ n ∧ (∀ j, j < k → z j ≠ -1 → rowM j = true) ∧ IM wr (inF z k) bm (cntM z k) ∧ Below w1.heap.size w1 wr) (fun v _ => n - (intOf v).toNat)
  case atStart => exact ⟨0, rfl, Nat.zero_le _, fun j hj => absurd hj (Nat.not_lt_zero j), HIM0.out, HB0.out⟩
  case round =>
    clear HIM0 HB0
    obtain ⟨k, rfl, hk, hall, him, hbl⟩ := hrel
    rename World => wx
    have HIM := Lib.hid him
    have HALL := Lib.hid hall
    have HB := Lib.hid hbl
    clear him hall hbl
    by_cases hlt : k < n
    · obtain ⟨lb, lo, rfl, hlb, hzi⟩ := (HL.out.below (HA1.out.fr.trans (HB.out.mono HA1.out.fr.size))).at hlt
      obtain ⟨xv, hwk⟩ := HWK.out B _ (HW.out.below HB.out)
      have k4 := hwk.c4
      have hBl := hwk.lt
      obtain ⟨rb', ro, ra, rc, hpa, hrb', hrc, hri⟩ := hwk.rows.at hlt
      rw [hpa] at k4
      have hm : (f.P k).length ≤ 8 := by have := HPL.out k; omega
      have HCN := Lib.hid (containsI_any _ _ _ _ (z k) wx (by omega) hri)
      have hlk := HIM.out.look (HRG.out k hlt)
      have HCS := Lib.hid (cntM_succ z k)
      have hcl := cntM_le z k
      have HRK := Lib.hid (HRE.out k)
      have HMK := Lib.hid (HMN.out k hlt)
      have HFY := Lib.hid (fun h => inF_yes (z := z) (k := k) h)
      have HFN := Lib.hid (fun h => inF_no (z := z) (k := k) h)
      have HRZ := Lib.hid (HRG.out k hlt)
      obtain ⟨m2, hm2⟩ : ∃ m2, cntM z (k + 1) = m2 := ⟨_, rfl⟩
      rw [hm2] at HCS
      have HM2 := Lib.hid hm2
      clear hm2
      obtain ⟨rk, hrk⟩ : ∃ rk, rowM k = rk := ⟨_, rfl⟩
      have HNX : Hid (z k = -1 ∨ rk = true → ∀ j, j < k + 1 → z j ≠ -1 → rowM j = true) := fun h j hj hz => by
        rcases Nat.lt_succ_iff_lt_or_eq.1 hj with hj | rfl
        · exact HALL.out j hj hz
        · rcases h with h | h
          · exact absurd h hz
          · rw [hrk]; exact h
      rw [hrk] at HRK HMK
      clear hrk HALL hri hwk hpa
      obtain ⟨F1, hF1⟩ : ∃ F1, inF z (k + 1) = F1 := ⟨_, rfl⟩
      have HF1 := Lib.hid hF1
      rw [hF1] at HFY HFN
      clear hF1
      obtain ⟨lk, hlk2⟩ : ∃ lk, inF z k (z k) = lk := ⟨_, rfl⟩
      have HLK := Lib.hid hlk2
      rw [hlk2] at hlk HRK
      clear hlk2
      generalize inF z k = F0 at *
      generalize cntM z k = m1 at *
      generalize hasN (nz (f.P k)) (f.P k).length (z k) = ct at *
      obtain ⟨zi, hzk⟩ : ∃ zi, z k = zi := ⟨_, rfl⟩
      rw [hzk] at hzi HCN hlk HCS HRK HMK HFY HFN HRZ HNX HLK
      clear hzk
      have ki : (0 : Int) ≤ (k : Int) := by omega
      have kj : (k : Int) < (n : Int) := by omega
      by_cases hm1 : zi = -1
      · have kz : (zi == -1) = true := by simp [hm1]
        have HE : Hid (m2 = m1) := by unfold Hid; rw [HCS.out, if_pos hm1]
        have HF : Hid (F1 = F0) := HFN.out hm1
        have HN2 := Lib.hid (HNX.out (.inl hm1))
        clear HCS HRK HMK HFY HFN HNX HCN hlk HLK hm1
        go_wp2_with fail
        go_roundw
        case rel => exact ⟨k + 1, by go_num, by omega, HN2.out, by rw [HM2.out, HE.out, HF1.out, HF.out]; exact HIM.out, HB.out⟩
        case measure => simp [intOf]; omega
      · have kz : (zi == -1) = false := by simp [hm1]
        have HE : Hid (m2 = m1 + 1) := by unfold Hid; rw [HCS.out, if_neg hm1]
        have HF : Hid (F1 = addI F0 zi) := HFY.out hm1
        have HR := Lib.hid (HRK.out hm1)
        have HMI := Lib.hid (HMK.out hm1)
        have HN2 : Hid (rk = true → ∀ j, j < k + 1 → z j ≠ -1 → rowM j = true) := fun h => HNX.out (.inr h)
        clear HCS HRK HMK HFY HFN HNX hm1
        cases lk
        case true =>
          have hr : rk = false := by rw [HR.out]; simp
          have hrb := HMI.out hr
          subst hrb
          clear HR HMI HN2 hr
          go_wp2_with fail
          go_ret
          exact ⟨rfl, HA1.out.fr.trans (HB.out.mono HA1.out.fr.size)⟩
        case false =>
          have HR2 : Hid (rk = ct) := by unfold Hid; rw [HR.out]; simp
          clear HR
          go_wp2_with fail
          refine HCN.out.mono ?_
          rintro _ w4 ⟨rfl, he⟩
          have HB4 : Hid (Below w1.heap.size w1 w4) := by unfold Hid; rw [← he]; exact HB.out
          have HIM4 : Hid (IM w4 F0 bm m1) := by unfold Hid; rw [← he]; exact HIM.out
          clear he HB HIM HCN hlk k4 hzi hrc
          cases ct
          · have hrb := HMI.out HR2.out
            subst hrb
            clear HMI HN2 HR2
            go_wp2_with fail
            go_ret
            exact ⟨rfl, HA1.out.fr.trans (HB4.out.mono HA1.out.fr.size)⟩
          · have HN3 := Lib.hid (HN2.out HR2.out)
            clear HMI HN2 HR2
            go_wp2_with (refine wpList_update_im rfl (.tmp 52) (.tmp 53) (.const (.bool true)) rfl HRZ.out F0 bm m1 HLK.out (by unfold maxLen; omega) rfl HIM4.out rfl rfl ?_)
            intro w5 him5 hgr
            have HIM5 := Lib.hid him5
            have HB5 := Lib.hid (HB4.out.trans ((Fr.grown hgr).low HB4.out.size (fun q hq e => by cases e; have := HBM.out; omega)))
            clear him5 hgr
            go_wp2_with fail
            go_roundw
            case rel => exact ⟨k + 1, by go_num, by omega, HN3.out, by rw [HM2.out, HE.out, HF1.out, HF.out]; exact HIM5.out, HB5.out⟩
            case measure => simp [intOf]; omega
    · obtain rfl : n = k := by omega
      have hrb := HMY2.out HALL.out
      subst hrb
      clear HMY2 HALL
      go_wp2_with (refine wpList_len_im rfl (.tmp 55) rfl _ bm _ rfl HIM.out ?_)
      go_ret
      exact ⟨ret_bool (by rw [Bool.true_and]), HA1.out.fr.trans (HB.out.mono HA1.out.fr.size)⟩
end Go.Proofs.YtgbdbikjckfgmaaGreat
