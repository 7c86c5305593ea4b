/- Link: the reference's IsMatch. Printed by gen_og.py. -/
import Derived.Test.YtgbdbikjckfgmaaGreatOB
namespace Go.Proofs.YtgbdbikjckfgmaaGreat
open Go.RowKit Go.Shelf

def Fl.rowM (f : Fl) (z : Nat → Int) (i : Nat) : Bool := decide (0 ≤ z i) && f.g i (z i).toNat && allB (fun j => !(z j == z i)) i
theorem Fl.isM_no {f : Fl} {n : Nat} {z : Nat → Int} {i : Nat} (hi : i < n) (h1 : z i ≠ -1) (h2 : f.rowM z i = false) : f.isM n z = false := by
  unfold Fl.isM
  rw [allB_false hi, Bool.and_false]
  rw [decide_eq_false h1, Bool.false_or]; exact h2
theorem Fl.isM_yes {f : Fl} {n : Nat} {z : Nat → Int} (hn : n = f.no) (h : ∀ i, i < n → z i ≠ -1 → f.rowM z i = true) : f.isM n z = true := by
  unfold Fl.isM
  rw [decide_eq_true hn, Bool.true_and]
  refine allB_true fun i hi => ?_
  by_cases h1 : z i = -1
  · rw [decide_eq_true h1, Bool.true_or]
  · rw [decide_eq_false h1, Bool.false_or]; exact h i hi h1
theorem cntM_succ (z : Nat → Int) (n : Nat) : cntM z (n + 1) = if z n = -1 then cntM z n else cntM z n + 1 := by
  unfold cntM
  rw [List.range_succ, List.filter_append, List.length_append, List.filter_cons, List.filter_nil]
  by_cases h : z n = -1
  · rw [if_pos h, if_neg (by simp [h])]; rfl
  · rw [if_neg h, if_pos (by simp [h])]; rfl
theorem cntM_le (z : Nat → Int) : ∀ n, cntM z n ≤ n
  | 0 => Nat.le_refl _
  | n + 1 => by
    have := cntM_le z n
    rw [cntM_succ]; split <;> omega
/-- What IsMatch returns. -/
def isMV (b : Bool) (n : Int) : Value := .tuple #[.bool b, .int .i64 n]
set_option maxRecDepth 100000 in
set_option maxHeartbeats 16000000 in
theorem isMatch_any (x : FV) (f : Fl) (a : Option Addr) (n c : Nat) (z : Nat → Int) (w : World) (hf : f.fault = 0) (hl : IntsIn w (.slice a n c) n z) (hn : n ≤ 100000) :
    Calls Tryz.prog 44 #[.agg #[.slice x.oa f.no x.oc, .slice x.na f.nw x.nc, .slice x.ma f.nm x.mc], .agg (a8 (gI f.g)), .slice a n c] w fun e w' => e = .returned (.tuple #[.bool (f.isM n z), .int .i64 (if f.isM n z = true then (cntM z n : Int) else 0)]) ∧ Below w.heap.size w w' := by
  have OK := Lib.hid (Fl.ok hf)
  have hno := OK.out.no
  have hnw := OK.out.nw
  obtain ⟨oa, oc, na, nc, ma, mc⟩ := x
  have HIS := Lib.hid (fun i k X hi hk => is_any f.g i k X hi hk)
  have HL := Lib.hid hl
  have HMN := Lib.hid (fun i hi h1 h2 => Fl.isM_no (f := f) (n := n) (z := z) (i := i) hi h1 h2)
  have HMY : Hid (n = f.no → (∀ i, i < n → z i ≠ -1 → f.rowM z i = true) → f.isM n z = true) := fun h1 h2 => Fl.isM_yes h1 h2
  have HM0 : Hid (n ≠ f.no → f.isM n z = false) := fun h => by unfold Fl.isM; rw [decide_eq_false h]; rfl
  have HR : Hid (∀ i, f.rowM z i = (decide (0 ≤ z i) && f.g i (z i).toNat && allB (fun j => !(z j == z i)) i)) := fun i => rfl
  have HGI : Hid (∀ i k, f.g i k = true → k < f.nw) := fun i k h => (Fl.g_in h).2
  clear hl hf OK
  dsimp only
  obtain ⟨rb, hrb⟩ : ∃ rb, f.isM n z = rb := ⟨_, rfl⟩
  rw [hrb] at HMN HMY HM0 ⊢
  clear hrb
  generalize f.rowM z = rowM at *
  generalize f.g = g at *
  generalize f.no = no at *
  generalize f.nw = nw at *
  generalize f.nm = nm at *
  have HA0 : Hid (BF w ((w.alloc (.cells #[.slice oa no oc, .slice na nw nc, .slice ma nm mc] 25)).alloc (.cells (a8 (gI g)) 40)) [(w.heap.size, #[.slice oa no oc, .slice na nw nc, .slice ma nm mc], 25), (w.heap.size + 1, a8 (gI g), 40)]) := BF.made2 w _ _ _ _
  go_enter Tryz.func44, Tryz.ntmps44
  go_upto_region 1 with (refine wpList_box_row (o := ⟨some 4, .box 40 (.tmp 1), _, _, _, _⟩) rfl 40 (.tmp 1) rfl (a8 (gI g)) rfl ?_)
  (try rw [World.size_alloc])
  generalize ((w.alloc (.cells #[.slice oa no oc, .slice na nw nc, .slice ma nm mc] 25)).alloc (.cells (a8 (gI g)) 40)) = w0 at *
  have c0 := HA0.out.cell (.head _) 0
  by_cases h0 : n = no
  case neg =>
    have hr := HM0.out h0
    subst hr
    have k0 : ((n : Int) != (no : Int)) = true := by simp; omega
    go_wp2_with fail
    go_ret2
    exact ⟨rfl, HA0.out.fr⟩
  subst h0
  have k0 : ((n : Int) != (n : Int)) = false := by simp
  have HMY2 := Lib.hid (HMY.out rfl)
  clear HMY HM0
  go_wp2_with fail
  clear c0
  go_loopw [8, 9] (fun m v wr => ∃ i : Nat, v = .int .i64 (i : Int) ∧ i ≤ n ∧ m = .int .i64 (cntM z i : Int) ∧ (∀ j, j < i → z j ≠ -1 → rowM j = true) ∧ BF w wr [(w.heap.size, #[.slice oa n oc, .slice na nw nc, .slice ma nm mc], 25), (w.heap.size + 1, a8 (gI g), 40)]) (fun _ v _ => n - (intOf v).toNat)
  case atStart => exact ⟨0, rfl, Nat.zero_le _, rfl, fun j hj => absurd hj (Nat.not_lt_zero j), HA0.out⟩
  case round =>
    clear HA0
    obtain ⟨i, rfl, hi, rfl, hall, hbf⟩ := hrel
    rename World => wx
    have HA1 := Lib.hid hbf
    have HALL := Lib.hid hall
    clear hbf hall
    by_cases hlt : i < n
    · obtain ⟨lb, lo, rfl, hlb, hzi⟩ := HL.out.at hlt
      have HZ : Hid (∀ j, j < n → ∀ X, Below w.heap.size w X → X.cell? ⟨lb, lo + j, none⟩ = some (.int .i64 (z j))) := fun j hj X hX => by
        obtain ⟨lb', lo', e, h1, h2⟩ := HL.out.at hj
        cases e
        exact kept hX h1 h2
      clear hzi
      have e0 := HZ.out i hlt _ HA1.out.fr
      have ki : (0 : Int) ≤ (i : Int) := by omega
      have kj : (i : Int) < (n : Int) := by omega
      have h8 : i < 8 := by omega
      have HCS := Lib.hid (cntM_succ z i)
      have hcl := cntM_le z i
      have HCL := Lib.hid hcl
      have HRI := Lib.hid (HR.out i)
      have HMI := Lib.hid (HMN.out i hlt)
      obtain ⟨ri, hri⟩ : ∃ ri, rowM i = ri := ⟨_, rfl⟩
      rw [hri] at HRI HMI
      have HNX : Hid (z i = -1 ∨ ri = true → ∀ j, j < i + 1 → z j ≠ -1 → rowM j = true) := fun h j hj hz => by
        rcases Nat.lt_succ_iff_lt_or_eq.1 hj with hj | rfl
        · exact HALL.out j hj hz
        · rcases h with h | h
          · exact absurd h hz
          · rw [hri]; exact h
      clear hri HALL
      obtain ⟨m2, hm2⟩ : ∃ m2, cntM z (i + 1) = m2 := ⟨_, rfl⟩
      rw [hm2] at HCS
      have HM2 := Lib.hid hm2
      clear hm2
      generalize cntM z i = m1 at *
      have kw1 : IntKind.i64.wrap ((nw : Int) - 1) = (nw : Int) - 1 := IntWalk.i64_in _ (by omega)
      have kw2 : IntKind.i64.wrap ((m1 : Int) + 1) = (m1 : Int) + 1 := IntWalk.i64_in _ (by omega)
      have HIN := Lib.hid (fun X => refIn_any (z i) 0 ((nw : Int) - 1) X)
      have HISI := Lib.hid (fun k X hk => HIS.out i k X h8 hk)
      have HIB : Hid (inB (z i) 0 ((nw : Int) - 1) = (decide (0 ≤ z i) && decide (z i ≤ (nw : Int) - 1))) := rfl
      obtain ⟨zi, hzi⟩ : ∃ zi, z i = zi := ⟨_, rfl⟩
      have HZI := Lib.hid hzi
      rw [hzi] at e0 HCS HRI HMI HNX HIN HIB
      clear hzi
      by_cases hm : zi = -1
      · have kz : (zi == -1) = true := by simp [hm]
        have HE : Hid (m2 = m1) := by unfold Hid; rw [HCS.out, if_pos hm]
        have HN2 := Lib.hid (HNX.out (.inl hm))
        clear HCS HRI HMI HNX HIN HIB HISI
        go_wp2_with fail
        go_roundw
        case rel => exact ⟨i + 1, by go_num, by omega, by rw [HM2.out, HE.out], HN2.out, HA1.out⟩
        case measure => simp [intOf]; omega
      · have kz : (zi == -1) = false := by simp [hm]
        have HE : Hid (m2 = m1 + 1) := by unfold Hid; rw [HCS.out, if_neg hm]
        have HMI2 := Lib.hid (HMI.out hm)
        have HN2 : Hid (ri = true → ∀ j, j < i + 1 → z j ≠ -1 → rowM j = true) := fun h => HNX.out (.inr h)
        clear HCS HMI HNX
        obtain ⟨p1, hp1⟩ : ∃ p1, inB zi 0 ((nw : Int) - 1) = p1 := ⟨_, rfl⟩
        rw [hp1] at HIN HIB
        clear hp1
        obtain ⟨p2, hp2⟩ : ∃ p2, g i zi.toNat = p2 := ⟨_, rfl⟩
        have HP2 := Lib.hid hp2
        rw [hp2] at HRI
        clear hp2
        have HCI : Hid (p1 = true → ∀ X, Calls Tryz.prog 25 #[.agg (a8 (gI g)), .int .i64 (i : Int), .int .i64 zi] X fun e w' => e = .returned (.bool p2) ∧ Below X.heap.size X w') := fun h X => by
          have hb := HIB.out
          rw [h] at hb
          have hb2 := hb.symm
          simp only [Bool.and_eq_true, decide_eq_true_eq] at hb2
          have h := HISI.out zi.toNat X (by omega)
          rw [HP2.out, Int.toNat_of_nonneg hb2.1] at h
          exact h
        have HRN : Hid (p1 = false → ri = false) := fun h => by
          have hb := HIB.out
          rw [h] at hb
          rw [HRI.out]
          by_cases g0 : 0 ≤ zi
          · have g1 : ¬ zi ≤ (nw : Int) - 1 := fun g1 => by rw [decide_eq_true g0, decide_eq_true g1] at hb; cases hb
            have g2 : p2 = false := by
              cases hp : p2
              · rfl
              · have := HGI.out i zi.toNat (HP2.out.trans hp); omega
            rw [g2]; simp
          · rw [decide_eq_false g0]; rfl
        have HRP : Hid (p2 = false → ri = false) := fun h => by rw [HRI.out, h, Bool.and_false, Bool.false_and]
        have HRY : Hid (p1 = true → p2 = true → ri = allB (fun j => !(z j == zi)) i) := fun h1 h2 => by
          have hb := HIB.out
          rw [h1] at hb
          have hb2 := hb.symm
          simp only [Bool.and_eq_true, decide_eq_true_eq] at hb2
          rw [HRI.out, h2, decide_eq_true hb2.1]; rfl
        clear HIB HISI HP2 HRI
        have f0 := HA1.out.cell (.head _) 1
        go_upto_region 8 with fail
        have HAX := Lib.hid (HA1.out.below (Below.refl wx.heap.size _).drew)
        clear e0 f0
        go_cut [47] (fun s47 wc => s47 = .bool (!(p1 && p2)) ∧ BF w wc [(w.heap.size, #[.slice oa n oc, .slice na nw nc, .slice ma nm mc], 25), (w.heap.size + 1, a8 (gI g), 40)])
        case first =>
          refine wp_region_Z (S := fun X => X.cell? ⟨w.heap.size, 1, none⟩ = some (.slice na nw nc) ∧ X.cell? ⟨lb, lo + i, none⟩ = some (.int .i64 zi) ∧ X.rangeAt (w.heap.size + 1) 0 (g8L (gI g))) (by kernel_rfl) (⟨HAX.out.cell (.head _) 1, (HZ.out i hlt _ HAX.out.fr).trans (by rw [HZI.out]), row_range ((HAX.out.bk _ _ _ (.tail _ (.head _))).2)⟩) (fun hS => ?_)
          generalize wx.drew = X at *
          cases p1
          ·
            refine tk [0, 1, 2, 3, 4, 5, 6, 7] ?_
            repeat (refine tkZ (oi := ⟨_, _, _, _, _, _⟩) (v := ?_) rfl (by kernel_rfl) (by rfl) (fun _ _ _ h => h) hS ?_ ?_; rotate_left; (· rintro W' ⟨z0, z1, z2⟩; go_simp; try with_reducible rfl); try simp only [Act.put, putA, putZ, putS])
            refine tk0 ?_
            refine wpAnyZ_next (rs := [8]) (by kernel_rfl) (by simp) ?_
            refine NextZ.cons (o := ⟨some 36, _, _, _, _, _⟩) rfl (fun K hK => ?_) NextZ.nil
            go_simp
            refine (HIN.out _).mono ?_
            rintro _ X0 ⟨rfl, rfl⟩
            (try go_wp2_with fail)
            refine hK.out _ _ (⟨HAX.out.cell (.head _) 1, (HZ.out i hlt _ HAX.out.fr).trans (by rw [HZI.out]), row_range ((HAX.out.bk _ _ _ (.tail _ (.head _))).2)⟩) (fun hS => ?_)
            clear hK K
            try simp only [Act.put, putA, putZ, putS]
            refine tk [9, 10] ?_
            repeat (refine tkZ (oi := ⟨_, _, _, _, _, _⟩) (v := ?_) rfl (by kernel_rfl) (by rfl) (fun _ _ _ h => h) hS ?_ ?_; rotate_left; (· rintro W' ⟨z0, z1, z2⟩; go_simp; try with_reducible rfl); try simp only [Act.put, putA, putZ, putS])
            refine tk0 ?_
            refine wpAnyZ_take (i := 11) (oi := ⟨some 39, _, _, _, _, _⟩) (v := undef) rfl (by kernel_rfl) (by kernel_rfl) (by kernel_rfl) (fun _ _ _ h => h) (Or.inr ⟨by rfl, rfl⟩) hS ?_
            try simp only [Act.put, putA, putZ, putS]
            refine wpAnyZ_take (i := 12) (oi := ⟨some 40, _, _, _, _, _⟩) (v := undef) rfl (by kernel_rfl) (by kernel_rfl) (by kernel_rfl) (fun _ _ _ h => h) (Or.inr ⟨by rfl, rfl⟩) hS ?_
            try simp only [Act.put, putA, putZ, putS]
            refine wpAnyZ_take (i := 13) (oi := ⟨some 41, _, _, _, _, _⟩) (v := undef) rfl (by kernel_rfl) (by kernel_rfl) (by kernel_rfl) (fun _ _ _ h => h) (Or.inr ⟨by rfl, rfl⟩) hS ?_
            try simp only [Act.put, putA, putZ, putS]
            refine wpAnyZ_take (i := 14) (oi := ⟨some 42, _, _, _, _, _⟩) (v := undef) rfl (by kernel_rfl) (by kernel_rfl) (by kernel_rfl) (fun _ _ _ h => h) (Or.inr ⟨by rfl, rfl⟩) hS ?_
            try simp only [Act.put, putA, putZ, putS]
            refine wpAnyZ_take (i := 15) (oi := ⟨some 43, _, _, _, _, _⟩) (v := undef) rfl (by kernel_rfl) (by kernel_rfl) (by kernel_rfl) (fun _ _ _ h => h) (Or.inr ⟨by rfl, rfl⟩) hS ?_
            try simp only [Act.put, putA, putZ, putS]
            refine wpAnyZ_take (i := 16) (oi := ⟨some 44, _, _, _, _, _⟩) (v := undef) rfl (by kernel_rfl) (by kernel_rfl) (by kernel_rfl) (fun _ _ _ h => h) (Or.inr ⟨by rfl, rfl⟩) hS ?_
            try simp only [Act.put, putA, putZ, putS]
            refine wpAnyZ_take (i := 17) (oi := ⟨some 45, _, _, _, _, _⟩) (v := undef) rfl (by kernel_rfl) (by kernel_rfl) (by kernel_rfl) (fun _ _ _ h => h) (Or.inr ⟨by rfl, rfl⟩) hS ?_
            try simp only [Act.put, putA, putZ, putS]
            refine wpAnyZ_take (i := 18) (oi := ⟨some 46, _, _, _, _, _⟩) (v := undef) rfl (by kernel_rfl) (by kernel_rfl) (by kernel_rfl) (fun _ _ _ h => h) (Or.inr ⟨by rfl, rfl⟩) hS ?_
            try simp only [Act.put, putA, putZ, putS]
            refine tZ 19 (oi := ⟨_, _, _, _, _, _⟩) (v := ?_) rfl (by kernel_rfl) (by rfl) (fun _ _ _ h => h) hS ?_ ?_
            rotate_left
            · rintro W' ⟨z0, z1, z2⟩; go_simp; try with_reducible rfl
            try simp only [Act.put, putA, putZ, putS]
            refine wpAnyZ_done (by kernel_rfl) ?_ _
            have HX2 := Lib.hid (HAX.out)
            go_wp2_with fail
            go_meet
            exact ⟨rfl, HX2.out⟩
          · have HCI2 := Lib.hid (HCI.out rfl)
            refine tk [0, 1, 2, 3, 4, 5, 6, 7] ?_
            repeat (refine tkZ (oi := ⟨_, _, _, _, _, _⟩) (v := ?_) rfl (by kernel_rfl) (by rfl) (fun _ _ _ h => h) hS ?_ ?_; rotate_left; (· rintro W' ⟨z0, z1, z2⟩; go_simp; try with_reducible rfl); try simp only [Act.put, putA, putZ, putS])
            refine tk0 ?_
            refine wpAnyZ_next (rs := [8]) (by kernel_rfl) (by simp) ?_
            refine NextZ.cons (o := ⟨some 36, _, _, _, _, _⟩) rfl (fun K hK => ?_) NextZ.nil
            go_simp
            refine (HIN.out _).mono ?_
            rintro _ X0 ⟨rfl, rfl⟩
            (try go_wp2_with fail)
            refine hK.out _ _ (⟨HAX.out.cell (.head _) 1, (HZ.out i hlt _ HAX.out.fr).trans (by rw [HZI.out]), row_range ((HAX.out.bk _ _ _ (.tail _ (.head _))).2)⟩) (fun hS => ?_)
            clear hK K
            try simp only [Act.put, putA, putZ, putS]
            refine tk [9, 10] ?_
            repeat (refine tkZ (oi := ⟨_, _, _, _, _, _⟩) (v := ?_) rfl (by kernel_rfl) (by rfl) (fun _ _ _ h => h) hS ?_ ?_; rotate_left; (· rintro W' ⟨z0, z1, z2⟩; go_simp; try with_reducible rfl); try simp only [Act.put, putA, putZ, putS])
            refine tk0 ?_
            refine wpAnyZ_take (i := 11) (oi := ⟨some 39, _, _, _, _, _⟩) (v := .agg (a8 (gI g))) rfl (by kernel_rfl) (by kernel_rfl) (by kernel_rfl) (fun _ _ _ h => h) (ld_graph (gI g) (by rfl) (.tmp 4) rfl (w.heap.size + 1) rfl (fun _ h => h.2.2)) hS ?_
            try simp only [Act.put, putA, putZ, putS]
            refine tk [12, 13, 14, 15, 16] ?_
            repeat (refine tkZ (oi := ⟨_, _, _, _, _, _⟩) (v := ?_) rfl (by kernel_rfl) (by rfl) (fun _ _ _ h => h) hS ?_ ?_; rotate_left; (· rintro W' ⟨z0, z1, z2⟩; go_simp; try with_reducible rfl); try simp only [Act.put, putA, putZ, putS])
            refine tk0 ?_
            refine wpAnyZ_next (rs := [17]) (by kernel_rfl) (by simp) ?_
            refine NextZ.cons (o := ⟨some 45, _, _, _, _, _⟩) rfl (fun K hK => ?_) NextZ.nil
            go_simp
            refine (HCI2.out _).mono ?_
            rintro _ X1 ⟨rfl, hb1⟩
            (try go_wp2_with fail)
            have HA1 := Lib.hid (HAX.out.below hb1)
            refine hK.out _ _ (⟨HA1.out.cell (.head _) 1, (HZ.out i hlt _ HA1.out.fr).trans (by rw [HZI.out]), row_range ((HA1.out.bk _ _ _ (.tail _ (.head _))).2)⟩) (fun hS => ?_)
            clear hK K
            try simp only [Act.put, putA, putZ, putS]
            clear hb1
            refine tk [18, 19] ?_
            repeat (refine tkZ (oi := ⟨_, _, _, _, _, _⟩) (v := ?_) rfl (by kernel_rfl) (by rfl) (fun _ _ _ h => h) hS ?_ ?_; rotate_left; (· rintro W' ⟨z0, z1, z2⟩; go_simp; try with_reducible rfl); try simp only [Act.put, putA, putZ, putS])
            refine tk0 ?_
            refine wpAnyZ_done (by kernel_rfl) ?_ _
            have HX2 := Lib.hid (HA1.out)
            go_wp2_with fail
            go_meet
            exact ⟨rfl, HX2.out⟩
        case rest =>
          rename World => wc
          obtain ⟨h47, hbf⟩ := hcut
          have HA2 := Lib.hid hbf
          clear hbf HAX HA1
          obtain ⟨pp, hpp⟩ : ∃ pp, (p1 && p2) = pp := ⟨_, rfl⟩
          rw [hpp] at h47
          subst h47
          cases pp
          · have hr : ri = false := by
              cases p1
              · exact HRN.out rfl
              · cases p2
                · exact HRP.out rfl
                · cases hpp
            have hrb := HMI2.out hr
            subst hrb
            clear HMI2 HRN HRP HRY HN2 HCI hpp hr
            go_wp2_with fail
            go_ret2
            exact ⟨rfl, HA2.out.fr⟩
          · have HRI := Lib.hid (HRY.out (by cases p1 <;> simp_all) (by cases p2 <;> simp_all))
            clear HRY HRN HRP HCI hpp
            go_wp2_with fail
            go_loopw [10] (fun v wr => ∃ q : Nat, v = .int .i64 (q : Int) ∧ q ≤ i ∧ (∀ j, j < q → (z j == zi) = false) ∧ BF w wr [(w.heap.size, #[.slice oa n oc, .slice na nw nc, .slice ma nm mc], 25), (w.heap.size + 1, a8 (gI g), 40)]) (fun v _ => i - (intOf v).toNat)
            case atStart => exact ⟨0, rfl, Nat.zero_le _, fun j hj => absurd hj (Nat.not_lt_zero j), HA2.out⟩
            case round =>
              clear HA2
              obtain ⟨q, rfl, hq, hall, hbf⟩ := hrel
              rename World => wy
              have HA3 := Lib.hid hbf
              have HALL := Lib.hid hall
              clear hbf hall
              by_cases hlq : q < i
              · have e0 := HZ.out i hlt _ HA3.out.fr
                rw [HZI.out] at e0
                have e1 := HZ.out q (by omega) _ HA3.out.fr
                have qi : (0 : Int) ≤ (q : Int) := by omega
                have qj : (q : Int) < (i : Int) := by omega
                have qn : (q : Int) < (n : Int) := by omega
                obtain ⟨zq, hzq⟩ : ∃ zq, z q = zq := ⟨_, rfl⟩
                have HZQ := Lib.hid hzq
                rw [hzq] at e1
                clear hzq
                go_upto_region 13 with fail
                have HAY := Lib.hid (HA3.out.below (Below.refl wy.heap.size _).drew)
                have e0' := HZ.out i hlt _ HAY.out.fr
                rw [HZI.out] at e0'
                have e1' := HZ.out q (by omega) _ HAY.out.fr
                rw [HZQ.out] at e1'
                clear e0 e1
                refine wp_region_Z (S := fun X => X.cell? ⟨lb, lo + i, none⟩ = some (.int .i64 zi) ∧ X.cell? ⟨lb, lo + q, none⟩ = some (.int .i64 zq)) (by kernel_rfl) ⟨e0', e1'⟩ (fun hS => ?_)
                clear e0' e1'
                generalize wy.drew = X at *
                cases hpq : (zq == zi)
                · have HN3 : Hid (∀ j, j < q + 1 → (z j == zi) = false) := fun j hj => by
                    rcases Nat.lt_succ_iff_lt_or_eq.1 hj with hj | rfl
                    · exact HALL.out j hj
                    · rw [HZQ.out]; exact hpq
                  refine tk [0, 1, 2, 3, 4, 5, 6, 7, 8] ?_
                  repeat (refine tkZ (oi := ⟨_, _, _, _, _, _⟩) (v := ?_) rfl (by kernel_rfl) (by rfl) (fun _ _ _ h => h) hS ?_ ?_; rotate_left; (· rintro W' ⟨z0, z1⟩; go_simp; try with_reducible rfl); try simp only [Act.put, putA, putZ, putS])
                  refine tk0 ?_
                  refine wpAnyZ_done (by kernel_rfl) ?_ _
                  go_wp2_with fail
                  go_roundw
                  case rel => exact ⟨q + 1, by go_num, by omega, HN3.out, HAY.out⟩
                  case measure => simp [intOf]; omega
                · have hr : ri = false := by
                    rw [HRI.out]; exact allB_false hlq (by rw [HZQ.out, hpq]; rfl)
                  have hrb := HMI2.out hr
                  subst hrb
                  clear HMI2 HN2 HRI hr
                  refine tk [0, 1, 2, 3, 4, 5, 6, 7, 8] ?_
                  repeat (refine tkZ (oi := ⟨_, _, _, _, _, _⟩) (v := ?_) rfl (by kernel_rfl) (by rfl) (fun _ _ _ h => h) hS ?_ ?_; rotate_left; (· rintro W' ⟨z0, z1⟩; go_simp; try with_reducible rfl); try simp only [Act.put, putA, putZ, putS])
                  refine tk0 ?_
                  refine wpAnyZ_done (by kernel_rfl) ?_ _
                  go_wp2_with fail
                  go_ret2
                  exact ⟨rfl, HAY.out.fr⟩
              · have hr : ri = true := by
                  rw [HRI.out]; exact allB_true fun j hj => by rw [HALL.out j (by omega)]; rfl
                have HN4 := Lib.hid (HN2.out hr)
                clear HMI2 HN2 HRI hr
                go_wp2_with fail
                go_roundw
                case rel => exact ⟨i + 1, by go_num, by omega, by rw [HM2.out, HE.out]; first | rfl | (congr 1; omega) | go_num, HN4.out, HA3.out⟩
                case measure => simp [intOf]; omega
    · obtain rfl : i = n := by omega
      have hrb := HMY2.out HALL.out
      subst hrb
      clear HMY2 HALL
      go_wp2_with fail
      go_ret2
      exact ⟨rfl, HA1.out.fr⟩
end Go.Proofs.YtgbdbikjckfgmaaGreat
