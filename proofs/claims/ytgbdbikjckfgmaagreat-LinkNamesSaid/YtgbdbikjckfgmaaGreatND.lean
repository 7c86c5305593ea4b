/- Link: the reference's Fault. Printed by gen_nd.py. -/
import Derived.Test.YtgbdbikjckfgmaaGreatNC
namespace Go.Proofs.YtgbdbikjckfgmaaGreat
open Go.RowKit Go.Shelf

theorem Fl.not_fine {f : Fl} {j : Nat} (hj : j < f.no + f.nw) (h : (f.E j).ok = false) : f.fine = false := by
  unfold Fl.fine; rw [allB_false hj h]; rfl
theorem Fl.not_moved {f : Fl} {j : Nat} (hj : j < f.nm) (h : f.mok j = false) : f.fine = false := by
  unfold Fl.fine; rw [allB_false hj h, Bool.and_false]
theorem Fl.is_fine {f : Fl} (h : ∀ q, q < f.no + f.nw → (f.E q).ok = true) (h2 : ∀ q, q < f.nm → f.mok q = true) : f.fine = true := by
  unfold Fl.fine; rw [allB_true h, allB_true h2]; rfl
theorem Fl.fine_one {f : Fl} (h0 : f.fault = if f.fine = true then 0 else 1) (h : f.fine = false) : f.fault = 1 := by rw [h0, h]; rfl
set_option maxRecDepth 100000 in
set_option maxHeartbeats 16000000 in
theorem refFaultF_any (x : FV) (f : Fl) (w : World) (h : FlQ QR w x f) :
    Calls Tryz.prog 66 #[.agg #[.slice x.oa f.no x.oc, .slice x.na f.nw x.nc, .slice x.ma f.nm x.mc]] w fun e w' => e = .returned (.int .i64 f.fault) ∧ Below w.heap.size w w' := by
  by_cases c1 : 8 < f.no
  · have HF := Lib.hid (Fl.big_of (.inl c1))
    have c1i : (8 : Int) < (f.no : Int) := by omega
    generalize f.fault = ft at *
    generalize f.no = no at *
    generalize f.nw = nw at *
    generalize f.nm = nm at *
    clear h
    go_enter Tryz.func66, Tryz.ntmps66
    go_wp2_with fail
    go_ret
    exact ⟨ret_int HF.out.symm, below_alloc _ _⟩
  by_cases c2 : 8 < f.nw
  · have HF := Lib.hid (Fl.big_of (.inr (.inl c2)))
    have c1i : ¬ (8 : Int) < (f.no : Int) := by omega
    have c2i : (8 : Int) < (f.nw : Int) := by omega
    generalize f.fault = ft at *
    generalize f.no = no at *
    generalize f.nw = nw at *
    generalize f.nm = nm at *
    clear h
    go_enter Tryz.func66, Tryz.ntmps66
    go_wp2_with fail
    go_ret
    exact ⟨ret_int HF.out.symm, below_alloc _ _⟩
  by_cases c3 : 16 < f.nm
  · have HF := Lib.hid (Fl.big_of (.inr (.inr c3)))
    have c1i : ¬ (8 : Int) < (f.no : Int) := by omega
    have c2i : ¬ (8 : Int) < (f.nw : Int) := by omega
    have c3i : (16 : Int) < (f.nm : Int) := by omega
    generalize f.fault = ft at *
    generalize f.no = no at *
    generalize f.nw = nw at *
    generalize f.nm = nm at *
    clear h
    go_enter Tryz.func66, Tryz.ntmps66
    go_wp2_with fail
    go_ret
    exact ⟨ret_int HF.out.symm, below_alloc _ _⟩
  have c1i : ¬ (8 : Int) < (f.no : Int) := by omega
  have c2i : ¬ (8 : Int) < (f.nw : Int) := by omega
  have c3i : ¬ (16 : Int) < (f.nm : Int) := by omega
  have HEN := Lib.hid (fun W (hW : Below w.heap.size w W) => refAll_any x f W (h.below QR.k hW) (by omega) (by omega))
  have HMV := Lib.hid (fun W (hW : Below w.heap.size w W) => h.m.below hW)
  have HLIM := Lib.hid (Fl.big_lim (f := f))
  have HNB := Lib.hid (fun hl => Fl.not_big (f := f) (by omega) (by omega) (by omega) hl)
  have HPF : Hid (f.pf = firstE (fun j => (f.E j).p.fault) (f.no + f.nw)) := rfl
  have HBADE : Hid ((f.fault = if f.fine = true then 0 else 1) → ∀ j, j < f.no + f.nw → (f.E j).ok = false → f.fault = 1) := fun h0 j hj he => Fl.fine_one h0 (Fl.not_fine hj he)
  have HBADM : Hid ((f.fault = if f.fine = true then 0 else 1) → ∀ j, j < f.nm → (inB (f.mf j) 0 9 && inB (f.mt j) 0 9) = false → f.fault = 1) := fun h0 j hj he => Fl.fine_one h0 (Fl.not_moved hj he)
  have HGOOD : Hid ((f.fault = if f.fine = true then 0 else 1) → (∀ q, q < f.no + f.nw → (f.E q).ok = true) → (∀ q, q < f.nm → (inB (f.mf q) 0 9 && inB (f.mt q) 0 9) = true) → f.fault = 0) := fun h0 h1 h2 => by rw [h0, if_pos (Fl.is_fine h1 h2)]
  have hn16 : f.no + f.nw ≤ 16 := by omega
  have hm16 : f.nm ≤ 16 := by omega
  clear h c1 c2 c3
  generalize f.E = E at *
  generalize f.mf = mf at *
  generalize f.mt = mt at *
  generalize f.pf = pf at *
  generalize f.fine = fi at *
  generalize f.fault = ft at *
  generalize f.no = no at *
  generalize f.nw = nw at *
  generalize f.nm = nm at *
  have HA0 := Lib.hid ((BF.base w).alloc #[.slice x.oa no x.oc, .slice x.na nw x.nc, .slice x.ma nm x.mc] 25)
  go_enter Tryz.func66, Tryz.ntmps66
  go_wp2_with fail
  refine (HEN.out _ HA0.out.fr).mono ?_
  rintro _ w1 ⟨a1, d1, rfl, he, hb⟩
  obtain ⟨N, hN⟩ : ∃ N, no + nw = N := ⟨_, rfl⟩
  rw [hN] at he HPF HBADE HGOOD hn16 HLIM HNB HEN
  have hns : ((no : Int) + (nw : Int)) = (N : Int) := by omega
  have HE1 := Lib.hid he
  have HA1 := Lib.hid (HA0.out.below hb)
  clear he hb HA0 HEN
  rw [hN]
  go_wp2_with fail
  clear hN hns
  go_loopw [4] (fun i wr => ∃ k : Nat, i = .int .i64 k ∧ k ≤ N ∧ (∀ q, q < k → (E q).lim = true) ∧ w1 = wr) (fun i _ => N - (intOf i).toNat)
  case atStart => exact ⟨0, rfl, Nat.zero_le _, fun q h => absurd h (Nat.not_lt_zero _), rfl⟩
  case round =>
    obtain ⟨k, rfl, hk, hall, rfl⟩ := hrel
    have HALL := Lib.hid hall
    clear hall
    by_cases hlt : k < N
    · have HB : Hid (Below w1.heap.size w1 w1) := Below.refl _ _
      obtain ⟨b, off, rv, cv, nv, rfl, hb, x7, hq⟩ := (EsQ.below QR.k HE1.out HB.out).at hlt
      obtain ⟨x0, x1, x2, x3, x4, x5, x6⟩ := x7
      obtain ⟨na, nd, rfl⟩ := hq.2.2.1.slice
      obtain ⟨ra, rd, rfl⟩ := hq.1.slice
      obtain ⟨ca, cd, rfl⟩ := hq.2.1.slice
      have ki : (0 : Int) ≤ (k : Int) := by omega
      have kj : (k : Int) < (N : Int) := by omega
      have HLE : Hid ((E k).lim = decide ((E k).nn ≤ 4)) := rfl
      clear hq
      generalize (E k).p.lo = lo at *
      generalize (E k).p.hi = hi at *
      generalize (E k).sex = sx at *
      generalize (E k).pl = pl at *
      generalize (E k).p.nr = nr at *
      generalize (E k).p.nc = nc at *
      generalize (E k).nn = nn at *
      by_cases hn4 : 4 < nn
      · have hn4i : (4 : Int) < (nn : Int) := by omega
        have HF := Lib.hid (HLIM.out (allB_false hlt (by rw [HLE.out]; exact decide_eq_false (by omega))))
        go_wp2_with fail
        go_ret
        exact ⟨ret_int HF.out.symm, HA1.out.fr⟩
      · have hn4i : ¬ (4 : Int) < (nn : Int) := by omega
        have HL2 : Hid ((E k).lim = true) := by unfold Hid; rw [HLE.out]; exact decide_eq_true (by omega)
        go_wp2_with fail
        go_roundw
        case rel => exact ⟨k + 1, by go_num, by omega, (fun q hq => by rcases Nat.lt_succ_iff_lt_or_eq.1 hq with h | rfl; exact HALL.out q h; exact HL2.out), trivial⟩
        case measure => simp [intOf]; omega
    · have hkN : k = N := by omega
      have hkNi : (k : Int) = (N : Int) := by omega
      have HLALL := Lib.hid (fun q (hq : q < N) => HALL.out q (by omega))
      have HF := Lib.hid (HNB.out (allB_true HLALL.out))
      rw [hkNi]
      clear hk hlt hkN hkNi HALL HNB HLIM
      go_wp2_with fail
      go_loopw [5] (fun i wr => ∃ k : Nat, i = .int .i64 k ∧ k ≤ N ∧ (∀ q, q < k → (E q).p.fault = 0) ∧ Below w1.heap.size w1 wr) (fun i _ => N - (intOf i).toNat)
      case atStart => exact ⟨0, rfl, Nat.zero_le _, fun q h => absurd h (Nat.not_lt_zero _), Below.refl _ _⟩
      case round =>
        obtain ⟨k, rfl, hk, hall, hbl⟩ := hrel
        rename World => wx
        have HALL := Lib.hid hall
        have HB := Lib.hid hbl
        clear hall hbl
        have HA4 := Lib.hid (HA1.out.below HB.out)
        by_cases hlt : k < N
        · obtain ⟨b, off, rv, cv, nv, rfl, hb, x7, hq⟩ := (EsQ.below QR.k HE1.out HB.out).at hlt
          obtain ⟨x0, x1, x2, x3, x4, x5, x6⟩ := x7
          obtain ⟨na, nd, rfl⟩ := hq.2.2.1.slice
          obtain ⟨ra, rd, rfl⟩ := hq.1.slice
          obtain ⟨ca, cd, rfl⟩ := hq.2.1.slice
          have ki : (0 : Int) ≤ (k : Int) := by omega
          have kj : (k : Int) < (N : Int) := by omega
          have HCP := Lib.hid (refFault_any _ (E k).p wx hq.pers)
          clear hq
          generalize hft : (E k).p.fault = fk at *
          have HFT := Lib.hid hft
          clear hft
          generalize (E k).p.lo = lo at *
          generalize (E k).p.hi = hi at *
          generalize (E k).sex = sx at *
          generalize (E k).pl = pl at *
          generalize (E k).p.nr = nr at *
          generalize (E k).p.nc = nc at *
          generalize (E k).nn = nn at *
          go_wp2_with fail
          refine HCP.out.mono ?_
          rintro _ w5 ⟨rfl, hb5⟩
          have HB5 := Lib.hid (HB.out.trans (hb5.mono HB.out.size))
          clear hb5 HCP x0 x1 x2 x3 x4 x5 x6
          by_cases hz : fk = 0
          · have hz1 : (fk != 0) = false := by simp [hz]
            have HFZ : Hid ((E k).p.fault = 0) := by unfold Hid; rw [HFT.out, hz]
            clear hz
            go_wp2_with fail
            go_roundw
            case rel => exact ⟨k + 1, by go_num, by omega, (fun q hq => by rcases Nat.lt_succ_iff_lt_or_eq.1 hq with h | rfl; exact HALL.out q h; exact HFZ.out), HB5.out⟩
            case measure => simp [intOf]; omega
          · have hz1 : (fk != 0) = true := by simp [hz]
            have HR : Hid (ft = fk) := by
              unfold Hid
              have e : pf = fk := by
                rw [HPF.out, ← HFT.out]
                exact firstE_at (q := fun j => (E j).p.fault) (fun j hj => HALL.out j hj) (by rw [HFT.out]; exact hz) hlt
              rw [HF.out, if_pos (by rw [e]; exact hz), e]
            clear hz
            go_wp2_with fail
            go_ret
            exact ⟨ret_int HR.out.symm, HA1.out.fr.trans (HB5.out.mono HA1.out.fr.size)⟩
        · have hkN : k = N := by omega
          have hkNi : (k : Int) = (N : Int) := by omega
          have HP0 : Hid (ft = if fi = true then 0 else 1) := by
            unfold Hid
            rw [HF.out, if_neg]
            intro h
            rw [HPF.out] at h
            exact h (firstE_zero fun q hq => HALL.out q (by omega))
          rw [hkNi]
          have HE3 := Lib.hid (EsQ.below QR.k HE1.out HB.out)
          have HBE := Lib.hid (HBADE.out HP0.out)
          have HBM := Lib.hid (HBADM.out HP0.out)
          have HGD := Lib.hid (HGOOD.out HP0.out)
          clear HALL HF HPF hk hlt hkN hkNi HE1 HA1 HB HBADE HBADM HGOOD HP0
          have HE1 := HE3
          clear HE3
          go_wp2_with fail
          go_loopw [7] (fun i wr => ∃ k : Nat, i = .int .i64 k ∧ k ≤ N ∧ (∀ q, q < k → (E q).ok = true) ∧ Below wx.heap.size wx wr) (fun i _ => N - (intOf i).toNat)
          case atStart => exact ⟨0, rfl, Nat.zero_le _, fun q h => absurd h (Nat.not_lt_zero _), Below.refl _ _⟩
          case round =>
            obtain ⟨k, rfl, hk, hall, hbl⟩ := hrel
            rename World => wy
            have HALL := Lib.hid hall
            have HB := Lib.hid hbl
            clear hall hbl
            have HA5 := Lib.hid (HA4.out.below HB.out)
            by_cases hlt : k < N
            · obtain ⟨b, off, rv, cv, nv, rfl, hb, x7, hq⟩ := (EsQ.below QR.k HE1.out HB.out).at hlt
              obtain ⟨x0, x1, x2, x3, x4, x5, x6⟩ := x7
              obtain ⟨na, nd, rfl⟩ := hq.2.2.1.slice
              obtain ⟨ra, rd, rfl⟩ := hq.1.slice
              obtain ⟨ca, cd, rfl⟩ := hq.2.1.slice
              have ki : (0 : Int) ≤ (k : Int) := by omega
              have kj : (k : Int) < (N : Int) := by omega
              have hl4 : (E k).nn ≤ 4 := by have := HLALL.out k hlt; unfold En.lim at this; simpa using this
              have HOK : Hid ((E k).ok = (inB (E k).sex 0 2 && decide (0 < (E k).nn) && risesB (E k).z (E k).nn 100 && inB (E k).pl 0 9)) := rfl
              have HZ := Lib.hid hq.2.2.1
              have HBEK := Lib.hid (HBE.out k hlt)
              have HBALL := Lib.hid (fun W L (hW : BF wy W L) => HA5.out.fr.trans (hW.fr.mono HA5.out.fr.size))
              clear hq
              generalize (E k).p.lo = lo at *
              generalize (E k).p.hi = hi at *
              generalize (E k).sex = sx at *
              generalize (E k).pl = pl at *
              generalize (E k).p.nr = nr at *
              generalize (E k).p.nc = nc at *
              generalize (E k).nn = nn at *
              generalize (E k).z = z at *
              have HC := Lib.hid ((BF.base wy).alloc #[.int .i64 lo, .int .i64 hi, .slice ra nr rd, .slice ca nc cd, .int .i64 sx, .slice na nn nd, .int .i64 pl] 77)
              cases hs1 : inB sx 0 2
              · have HR := Lib.hid (HBEK.out (by rw [HOK.out, hs1]; simp))
                go_wp2_with (go_at_call 32; refine (refIn_any _ _ _ _).mono ?_; rintro e w' ⟨rfl, rfl⟩)
                go_ret
                exact ⟨ret_int HR.out.symm, HBALL.out _ _ HC.out⟩
              rcases Nat.eq_zero_or_pos nn with hn0 | hn0
              · have HR := Lib.hid (HBEK.out (by rw [HOK.out, hn0]; simp))
                have hz0 : ((nn : Int) == 0) = true := by simp [hn0]
                clear hn0
                go_wp2_with (go_at_call 32; refine (refIn_any _ _ _ _).mono ?_; rintro e w' ⟨rfl, rfl⟩)
                go_ret
                exact ⟨ret_int HR.out.symm, HBALL.out _ _ HC.out⟩
              have hz0 : ((nn : Int) == 0) = false := by simp; omega
              cases hs2 : inB pl 0 9
              · have HR := Lib.hid (HBEK.out (by rw [HOK.out, hs2]; simp))
                go_wp2_with (go_at_call 32; refine (refIn_any _ _ _ _).mono ?_; rintro e w' ⟨rfl, rfl⟩)
                go_ret
                exact ⟨ret_int HR.out.symm, HBALL.out _ _ HC.out⟩
              have HOK2 : Hid ((E k).ok = risesB z nn 100) := by unfold Hid; rw [HOK.out, hs1, hs2, decide_eq_true hn0]; simp
              go_wp2_with (go_at_call 32; refine (refIn_any _ _ _ _).mono ?_; rintro e w' ⟨rfl, rfl⟩)
              clear x0 x1 x2 x3 x4 x5 x6 hs1 hs2 hz0 hn0 HOK
              have HZ2 := Lib.hid (HZ.out.below HC.out.fr)
              have HSZ : Hid (wy.heap.size ≤ (wy.alloc (.cells #[.int .i64 lo, .int .i64 hi, .slice ra nr rd, .slice ca nc cd, .int .i64 sx, .slice na nn nd, .int .i64 pl] 77)).heap.size) := HC.out.fr.size
              generalize wy.heap.size = c at *
              generalize wy.alloc (.cells #[.int .i64 lo, .int .i64 hi, .slice ra nr rd, .slice ca nc cd, .int .i64 sx, .slice na nn nd, .int .i64 pl] 77) = wz at *
              have HE2 : Hid (∀ j, j < nn → (inB (z j) 0 (100 - 1) && !(decide (0 < j) && decide (z j ≤ z (j - 1)))) = false → (E k).ok = false) := fun j hj h => by rw [HOK2.out]; unfold risesB; exact allB_false hj h
              have HE4 : Hid ((∀ j, j < nn → (inB (z j) 0 (100 - 1) && !(decide (0 < j) && decide (z j ≤ z (j - 1)))) = true) → (E k).ok = true) := fun h => by rw [HOK2.out]; unfold risesB; exact allB_true h
              clear HOK2 HZ HBE
              go_loopw [9] (fun i wr => ∃ j : Nat, i = .int .i64 j ∧ j ≤ nn ∧ (∀ q, q < j → (inB (z q) 0 (100 - 1) && !(decide (0 < q) && decide (z q ≤ z (q - 1)))) = true) ∧ Below wz.heap.size wz wr) (fun i _ => nn - (intOf i).toNat)
              case atStart => exact ⟨0, rfl, Nat.zero_le _, fun q h => absurd h (Nat.not_lt_zero _), Below.refl _ _⟩
              case round =>
                obtain ⟨j, rfl, hj, hall2, hbl⟩ := hrel
                rename World => wr
                have HAL2 := Lib.hid hall2
                have HB2 := Lib.hid hbl
                clear hall2 hbl
                have HC2 := Lib.hid (HC.out.below HB2.out)
                have e5 := HC2.out.cell (.head _) 5
                by_cases hlj : j < nn
                · obtain ⟨nb, of, rfl, hnb, ez⟩ := (HZ2.out.below HB2.out).at hlj
                  have HBD := Lib.hid (HB2.out.drew)
                  have HCD := Lib.hid (HC.out.below HBD.out)
                  have HBF := Lib.hid (HBALL.out _ _ HCD.out)
                  have d5 := HCD.out.cell (.head _) 5
                  have dz : wr.drew.cell? ⟨nb, of + j, none⟩ = some (.int .i64 (z j)) := below_cell (HBD.out) _ _ (by
                    obtain ⟨nb', of', e', _, ez'⟩ := HZ2.out.at hlj
                    cases e'; exact ez')
                  have ji : (0 : Int) ≤ (j : Int) := by omega
                  have jj : (j : Int) < (nn : Int) := by omega
                  cases hin : inB (z j) 0 99
                  · have HIN : Hid (∀ W, Calls Tryz.prog 32 #[.int .i64 (z j), .int .i64 0, .int .i64 99] W fun e w' => e = .returned (.bool false) ∧ W = w') := fun W => by
                      have h := refIn_any (z j) 0 99 W
                      rw [hin] at h; exact h
                    have HR := Lib.hid (HBEK.out (HE2.out j hlj (by rw [show (100 - 1 : Int) = 99 by omega, hin]; rfl)))
                    clear hin
                    go_wp2_with fail
                    refine wp_region_Z (S := fun X => X.cell? ⟨c, 5, none⟩ = some (.slice (some ⟨nb, of, none⟩) nn nd) ∧ X.cell? ⟨nb, of + j, none⟩ = some (.int .i64 (z j))) (by kernel_rfl) ⟨d5, dz⟩ (fun hS => ?_)
                    generalize wr.drew = X at *
                    refine tk [0, 1, 2, 3, 4] ?_
                    repeat (refine tkZ (oi := ⟨_, _, _, _, _, _⟩) (v := ?_) rfl (by kernel_rfl) (by rfl) (fun _ _ _ h => h) hS ?_ ?_; rotate_left; (· rintro W' ⟨z0, z1⟩; go_simp; try with_reducible rfl); try simp only [Act.put, putA, putZ, putS])
                    refine tk0 ?_
                    refine wpAnyZ_next (rs := [5]) (by kernel_rfl) (by simp) ?_
                    refine NextZ.cons (o := ⟨some 95, _, _, _, _, _⟩) rfl (fun K hK => ?_) NextZ.nil
                    go_simp
                    refine (HIN.out X).mono ?_
                    rintro _ X1 ⟨rfl, rfl⟩
                    (try go_wp2_with fail)
                    refine hK.out _ _ ⟨d5, dz⟩ (fun hS => ?_)
                    clear hK K
                    try simp only [Act.put, putA, putZ, putS]
                    refine tk [6, 7] ?_
                    repeat (refine tkZ (oi := ⟨_, _, _, _, _, _⟩) (v := ?_) rfl (by kernel_rfl) (by rfl) (fun _ _ _ h => h) hS ?_ ?_; rotate_left; (· rintro W' ⟨z0, z1⟩; go_simp; try with_reducible rfl); try simp only [Act.put, putA, putZ, putS])
                    refine tk0 ?_
                    refine wpAnyZ_take (i := 8) (oi := ⟨_, _, _, _, _, _⟩) (v := undef) rfl (by kernel_rfl) (by kernel_rfl) (by kernel_rfl) (fun _ _ _ h => h) (Or.inr ⟨by rfl, rfl⟩) hS ?_
                    try simp only [Act.put, putA, putZ, putS]
                    refine wpAnyZ_take (i := 9) (oi := ⟨_, _, _, _, _, _⟩) (v := undef) rfl (by kernel_rfl) (by kernel_rfl) (by kernel_rfl) (fun _ _ _ h => h) (Or.inr ⟨by rfl, rfl⟩) hS ?_
                    try simp only [Act.put, putA, putZ, putS]
                    refine wpAnyZ_take (i := 10) (oi := ⟨_, _, _, _, _, _⟩) (v := undef) rfl (by kernel_rfl) (by kernel_rfl) (by kernel_rfl) (fun _ _ _ h => h) (Or.inr ⟨by rfl, rfl⟩) hS ?_
                    try simp only [Act.put, putA, putZ, putS]
                    refine wpAnyZ_take (i := 11) (oi := ⟨_, _, _, _, _, _⟩) (v := undef) rfl (by kernel_rfl) (by kernel_rfl) (by kernel_rfl) (fun _ _ _ h => h) (Or.inr ⟨by rfl, rfl⟩) hS ?_
                    try simp only [Act.put, putA, putZ, putS]
                    refine wpAnyZ_take (i := 12) (oi := ⟨_, _, _, _, _, _⟩) (v := undef) rfl (by kernel_rfl) (by kernel_rfl) (by kernel_rfl) (fun _ _ _ h => h) (Or.inr ⟨by rfl, rfl⟩) hS ?_
                    try simp only [Act.put, putA, putZ, putS]
                    refine wpAnyZ_take (i := 13) (oi := ⟨_, _, _, _, _, _⟩) (v := undef) rfl (by kernel_rfl) (by kernel_rfl) (by kernel_rfl) (fun _ _ _ h => h) (Or.inr ⟨by rfl, rfl⟩) hS ?_
                    try simp only [Act.put, putA, putZ, putS]
                    refine wpAnyZ_take (i := 14) (oi := ⟨_, _, _, _, _, _⟩) (v := undef) rfl (by kernel_rfl) (by kernel_rfl) (by kernel_rfl) (fun _ _ _ h => h) (Or.inr ⟨by rfl, rfl⟩) hS ?_
                    try simp only [Act.put, putA, putZ, putS]
                    refine wpAnyZ_take (i := 15) (oi := ⟨_, _, _, _, _, _⟩) (v := undef) rfl (by kernel_rfl) (by kernel_rfl) (by kernel_rfl) (fun _ _ _ h => h) (Or.inr ⟨by rfl, rfl⟩) hS ?_
                    try simp only [Act.put, putA, putZ, putS]
                    refine wpAnyZ_take (i := 16) (oi := ⟨_, _, _, _, _, _⟩) (v := undef) rfl (by kernel_rfl) (by kernel_rfl) (by kernel_rfl) (fun _ _ _ h => h) (Or.inr ⟨by rfl, rfl⟩) hS ?_
                    try simp only [Act.put, putA, putZ, putS]
                    refine wpAnyZ_take (i := 17) (oi := ⟨_, _, _, _, _, _⟩) (v := undef) rfl (by kernel_rfl) (by kernel_rfl) (by kernel_rfl) (fun _ _ _ h => h) (Or.inr ⟨by rfl, rfl⟩) hS ?_
                    try simp only [Act.put, putA, putZ, putS]
                    refine wpAnyZ_take (i := 18) (oi := ⟨_, _, _, _, _, _⟩) (v := undef) rfl (by kernel_rfl) (by kernel_rfl) (by kernel_rfl) (fun _ _ _ h => h) (Or.inr ⟨by rfl, rfl⟩) hS ?_
                    try simp only [Act.put, putA, putZ, putS]
                    refine wpAnyZ_take (i := 19) (oi := ⟨_, _, _, _, _, _⟩) (v := undef) rfl (by kernel_rfl) (by kernel_rfl) (by kernel_rfl) (fun _ _ _ h => h) (Or.inr ⟨by rfl, rfl⟩) hS ?_
                    try simp only [Act.put, putA, putZ, putS]
                    refine wpAnyZ_take (i := 20) (oi := ⟨_, _, _, _, _, _⟩) (v := undef) rfl (by kernel_rfl) (by kernel_rfl) (by kernel_rfl) (fun _ _ _ h => h) (Or.inr ⟨by rfl, rfl⟩) hS ?_
                    try simp only [Act.put, putA, putZ, putS]
                    refine wpAnyZ_take (i := 21) (oi := ⟨_, _, _, _, _, _⟩) (v := undef) rfl (by kernel_rfl) (by kernel_rfl) (by kernel_rfl) (fun _ _ _ h => h) (Or.inr ⟨by rfl, rfl⟩) hS ?_
                    try simp only [Act.put, putA, putZ, putS]
                    refine wpAnyZ_take (i := 22) (oi := ⟨_, _, _, _, _, _⟩) (v := undef) rfl (by kernel_rfl) (by kernel_rfl) (by kernel_rfl) (fun _ _ _ h => h) (Or.inr ⟨by rfl, rfl⟩) hS ?_
                    try simp only [Act.put, putA, putZ, putS]
                    refine wpAnyZ_take (i := 23) (oi := ⟨_, _, _, _, _, _⟩) (v := undef) rfl (by kernel_rfl) (by kernel_rfl) (by kernel_rfl) (fun _ _ _ h => h) (Or.inr ⟨by rfl, rfl⟩) hS ?_
                    try simp only [Act.put, putA, putZ, putS]
                    refine tk [24] ?_
                    repeat (refine tkZ (oi := ⟨_, _, _, _, _, _⟩) (v := ?_) rfl (by kernel_rfl) (by rfl) (fun _ _ _ h => h) hS ?_ ?_; rotate_left; (· rintro W' ⟨z0, z1⟩; go_simp; try with_reducible rfl); try simp only [Act.put, putA, putZ, putS])
                    refine tk0 ?_
                    refine wpAnyZ_done (by kernel_rfl) ?_ _
                    go_wp2_with fail
                    go_ret
                    exact ⟨ret_int HR.out.symm, HBF.out⟩
                  · have HIN : Hid (∀ W, Calls Tryz.prog 32 #[.int .i64 (z j), .int .i64 0, .int .i64 99] W fun e w' => e = .returned (.bool true) ∧ W = w') := fun W => by
                      have h := refIn_any (z j) 0 99 W
                      rw [hin] at h; exact h
                    have HI9 : Hid (inB (z j) 0 (100 - 1) = true) := by unfold Hid; rw [show (100 - 1 : Int) = 99 by omega]; exact hin
                    clear hin
                    by_cases hj0 : j = 0
                    · subst hj0
                      rw [Nat.add_zero] at dz ez
                      have HX : Hid (∀ q, q < 0 + 1 → (inB (z q) 0 (100 - 1) && !(decide (0 < q) && decide (z q ≤ z (q - 1)))) = true) := fun q hq => by
                        obtain rfl : q = 0 := by omega
                        rw [HI9.out]; rfl
                      go_wp2_with fail
                      refine wp_region_Z (S := fun X => X.cell? ⟨c, 5, none⟩ = some (.slice (some ⟨nb, of, none⟩) nn nd) ∧ X.cell? ⟨nb, of, none⟩ = some (.int .i64 (z 0))) (by kernel_rfl) ⟨d5, dz⟩ (fun hS => ?_)
                      generalize wr.drew = X at *
                      refine tk [0, 1, 2, 3, 4] ?_
                      repeat (refine tkZ (oi := ⟨_, _, _, _, _, _⟩) (v := ?_) rfl (by kernel_rfl) (by rfl) (fun _ _ _ h => h) hS ?_ ?_; rotate_left; (· rintro W' ⟨z0, z1⟩; go_simp; try with_reducible rfl); try simp only [Act.put, putA, putZ, putS])
                      refine tk0 ?_
                      refine wpAnyZ_next (rs := [5]) (by kernel_rfl) (by simp) ?_
                      refine NextZ.cons (o := ⟨some 95, _, _, _, _, _⟩) rfl (fun K hK => ?_) NextZ.nil
                      go_simp
                      refine (HIN.out X).mono ?_
                      rintro _ X1 ⟨rfl, rfl⟩
                      (try go_wp2_with fail)
                      refine hK.out _ _ ⟨d5, dz⟩ (fun hS => ?_)
                      clear hK K
                      try simp only [Act.put, putA, putZ, putS]
                      refine tk [6, 7, 8, 9, 10] ?_
                      repeat (refine tkZ (oi := ⟨_, _, _, _, _, _⟩) (v := ?_) rfl (by kernel_rfl) (by rfl) (fun _ _ _ h => h) hS ?_ ?_; rotate_left; (· rintro W' ⟨z0, z1⟩; go_simp; try with_reducible rfl); try simp only [Act.put, putA, putZ, putS])
                      refine tk0 ?_
                      refine wpAnyZ_take (i := 11) (oi := ⟨_, _, _, _, _, _⟩) (v := undef) rfl (by kernel_rfl) (by kernel_rfl) (by kernel_rfl) (fun _ _ _ h => h) (Or.inr ⟨by rfl, rfl⟩) hS ?_
                      try simp only [Act.put, putA, putZ, putS]
                      refine wpAnyZ_take (i := 12) (oi := ⟨_, _, _, _, _, _⟩) (v := undef) rfl (by kernel_rfl) (by kernel_rfl) (by kernel_rfl) (fun _ _ _ h => h) (Or.inr ⟨by rfl, rfl⟩) hS ?_
                      try simp only [Act.put, putA, putZ, putS]
                      refine wpAnyZ_take (i := 13) (oi := ⟨_, _, _, _, _, _⟩) (v := undef) rfl (by kernel_rfl) (by kernel_rfl) (by kernel_rfl) (fun _ _ _ h => h) (Or.inr ⟨by rfl, rfl⟩) hS ?_
                      try simp only [Act.put, putA, putZ, putS]
                      refine wpAnyZ_take (i := 14) (oi := ⟨_, _, _, _, _, _⟩) (v := undef) rfl (by kernel_rfl) (by kernel_rfl) (by kernel_rfl) (fun _ _ _ h => h) (Or.inr ⟨by rfl, rfl⟩) hS ?_
                      try simp only [Act.put, putA, putZ, putS]
                      refine wpAnyZ_take (i := 15) (oi := ⟨_, _, _, _, _, _⟩) (v := undef) rfl (by kernel_rfl) (by kernel_rfl) (by kernel_rfl) (fun _ _ _ h => h) (Or.inr ⟨by rfl, rfl⟩) hS ?_
                      try simp only [Act.put, putA, putZ, putS]
                      refine wpAnyZ_take (i := 16) (oi := ⟨_, _, _, _, _, _⟩) (v := undef) rfl (by kernel_rfl) (by kernel_rfl) (by kernel_rfl) (fun _ _ _ h => h) (Or.inr ⟨by rfl, rfl⟩) hS ?_
                      try simp only [Act.put, putA, putZ, putS]
                      refine wpAnyZ_take (i := 17) (oi := ⟨_, _, _, _, _, _⟩) (v := undef) rfl (by kernel_rfl) (by kernel_rfl) (by kernel_rfl) (fun _ _ _ h => h) (Or.inr ⟨by rfl, rfl⟩) hS ?_
                      try simp only [Act.put, putA, putZ, putS]
                      refine wpAnyZ_take (i := 18) (oi := ⟨_, _, _, _, _, _⟩) (v := undef) rfl (by kernel_rfl) (by kernel_rfl) (by kernel_rfl) (fun _ _ _ h => h) (Or.inr ⟨by rfl, rfl⟩) hS ?_
                      try simp only [Act.put, putA, putZ, putS]
                      refine wpAnyZ_take (i := 19) (oi := ⟨_, _, _, _, _, _⟩) (v := undef) rfl (by kernel_rfl) (by kernel_rfl) (by kernel_rfl) (fun _ _ _ h => h) (Or.inr ⟨by rfl, rfl⟩) hS ?_
                      try simp only [Act.put, putA, putZ, putS]
                      refine wpAnyZ_take (i := 20) (oi := ⟨_, _, _, _, _, _⟩) (v := undef) rfl (by kernel_rfl) (by kernel_rfl) (by kernel_rfl) (fun _ _ _ h => h) (Or.inr ⟨by rfl, rfl⟩) hS ?_
                      try simp only [Act.put, putA, putZ, putS]
                      refine wpAnyZ_take (i := 21) (oi := ⟨_, _, _, _, _, _⟩) (v := undef) rfl (by kernel_rfl) (by kernel_rfl) (by kernel_rfl) (fun _ _ _ h => h) (Or.inr ⟨by rfl, rfl⟩) hS ?_
                      try simp only [Act.put, putA, putZ, putS]
                      refine wpAnyZ_take (i := 22) (oi := ⟨_, _, _, _, _, _⟩) (v := undef) rfl (by kernel_rfl) (by kernel_rfl) (by kernel_rfl) (fun _ _ _ h => h) (Or.inr ⟨by rfl, rfl⟩) hS ?_
                      try simp only [Act.put, putA, putZ, putS]
                      refine tk [23, 24] ?_
                      repeat (refine tkZ (oi := ⟨_, _, _, _, _, _⟩) (v := ?_) rfl (by kernel_rfl) (by rfl) (fun _ _ _ h => h) hS ?_ ?_; rotate_left; (· rintro W' ⟨z0, z1⟩; go_simp; try with_reducible rfl); try simp only [Act.put, putA, putZ, putS])
                      refine tk0 ?_
                      refine wpAnyZ_done (by kernel_rfl) ?_ _
                      go_wp2_with fail
                      go_roundw
                      case rel => exact ⟨0 + 1, by go_num, by omega, HX.out, HBD.out⟩
                      case measure => simp [intOf]; omega
                    · have dy : wr.drew.cell? ⟨nb, of + (j - 1), none⟩ = some (.int .i64 (z (j - 1))) := below_cell (HBD.out) _ _ (by
                        obtain ⟨nb', of', e', _, ez'⟩ := HZ2.out.at (k := j - 1) (by omega)
                        cases e'; exact ez')
                      have kp : 0 < j := by omega
                      have kpi : (0 : Int) < (j : Int) := by omega
                      have kd : decide ((0 : Int) < (j : Int)) = true := decide_eq_true kpi
                      have hs : IntKind.i64.wrap ((j : Int) - 1) = ((j - 1 : Nat) : Int) := by rw [IntWalk.i64_in _ (by omega)]; omega
                      have hs2 : (j : Int) - 1 = ((j - 1 : Nat) : Int) := by omega
                      have hs5 : IntKind.i64.wrap ((j - 1 : Nat) : Int) = ((j - 1 : Nat) : Int) := IntWalk.i64_in _ (by omega)
                      have hs3 : (0 : Int) ≤ ((j - 1 : Nat) : Int) := by omega
                      have hs4 : ((j - 1 : Nat) : Int) < (nn : Int) := by omega
                      by_cases hle : z j ≤ z (j - 1)
                      · have hld : decide (z j ≤ z (j - 1)) = true := decide_eq_true hle
                        have HR := Lib.hid (HBEK.out (HE2.out j hlj (by simp [kp, hle])))
                        go_wp2_with fail
                        refine wp_region_Z (S := fun X => X.cell? ⟨c, 5, none⟩ = some (.slice (some ⟨nb, of, none⟩) nn nd) ∧ X.cell? ⟨nb, of + j, none⟩ = some (.int .i64 (z j)) ∧ X.cell? ⟨nb, of + (j - 1), none⟩ = some (.int .i64 (z (j - 1)))) (by kernel_rfl) ⟨d5, dz, dy⟩ (fun hS => ?_)
                        generalize wr.drew = X at *
                        refine tk [0, 1, 2, 3, 4] ?_
                        repeat (refine tkZ (oi := ⟨_, _, _, _, _, _⟩) (v := ?_) rfl (by kernel_rfl) (by rfl) (fun _ _ _ h => h) hS ?_ ?_; rotate_left; (· rintro W' ⟨z0, z1, z2⟩; go_simp; try with_reducible rfl); try simp only [Act.put, putA, putZ, putS])
                        refine tk0 ?_
                        refine wpAnyZ_next (rs := [5]) (by kernel_rfl) (by simp) ?_
                        refine NextZ.cons (o := ⟨some 95, _, _, _, _, _⟩) rfl (fun K hK => ?_) NextZ.nil
                        go_simp
                        refine (HIN.out X).mono ?_
                        rintro _ X1 ⟨rfl, rfl⟩
                        (try go_wp2_with fail)
                        refine hK.out _ _ ⟨d5, dz, dy⟩ (fun hS => ?_)
                        clear hK K
                        try simp only [Act.put, putA, putZ, putS]
                        refine tk [6, 7, 8, 9, 10, 11, 12, 13, 14, 15, 16, 17, 18, 19, 20, 21, 22, 23, 24] ?_
                        repeat (refine tkZ (oi := ⟨_, _, _, _, _, _⟩) (v := ?_) rfl (by kernel_rfl) (by rfl) (fun _ _ _ h => h) hS ?_ ?_; rotate_left; (· rintro W' ⟨z0, z1, z2⟩; go_simp; try with_reducible rfl); try simp only [Act.put, putA, putZ, putS])
                        refine tk0 ?_
                        refine wpAnyZ_done (by kernel_rfl) ?_ _
                        go_wp2_with fail
                        go_ret
                        exact ⟨ret_int HR.out.symm, HBF.out⟩
                      · have hld : decide (z j ≤ z (j - 1)) = false := decide_eq_false hle
                        have HX : Hid ((inB (z j) 0 (100 - 1) && !(decide (0 < j) && decide (z j ≤ z (j - 1)))) = true) := by unfold Hid; rw [HI9.out]; simp [hle]
                        go_wp2_with fail
                        refine wp_region_Z (S := fun X => X.cell? ⟨c, 5, none⟩ = some (.slice (some ⟨nb, of, none⟩) nn nd) ∧ X.cell? ⟨nb, of + j, none⟩ = some (.int .i64 (z j)) ∧ X.cell? ⟨nb, of + (j - 1), none⟩ = some (.int .i64 (z (j - 1)))) (by kernel_rfl) ⟨d5, dz, dy⟩ (fun hS => ?_)
                        generalize wr.drew = X at *
                        refine tk [0, 1, 2, 3, 4] ?_
                        repeat (refine tkZ (oi := ⟨_, _, _, _, _, _⟩) (v := ?_) rfl (by kernel_rfl) (by rfl) (fun _ _ _ h => h) hS ?_ ?_; rotate_left; (· rintro W' ⟨z0, z1, z2⟩; go_simp; try with_reducible rfl); try simp only [Act.put, putA, putZ, putS])
                        refine tk0 ?_
                        refine wpAnyZ_next (rs := [5]) (by kernel_rfl) (by simp) ?_
                        refine NextZ.cons (o := ⟨some 95, _, _, _, _, _⟩) rfl (fun K hK => ?_) NextZ.nil
                        go_simp
                        refine (HIN.out X).mono ?_
                        rintro _ X1 ⟨rfl, rfl⟩
                        (try go_wp2_with fail)
                        refine hK.out _ _ ⟨d5, dz, dy⟩ (fun hS => ?_)
                        clear hK K
                        try simp only [Act.put, putA, putZ, putS]
                        refine tk [6, 7, 8, 9, 10, 11, 12, 13, 14, 15, 16, 17, 18, 19, 20, 21, 22, 23, 24] ?_
                        repeat (refine tkZ (oi := ⟨_, _, _, _, _, _⟩) (v := ?_) rfl (by kernel_rfl) (by rfl) (fun _ _ _ h => h) hS ?_ ?_; rotate_left; (· rintro W' ⟨z0, z1, z2⟩; go_simp; try with_reducible rfl); try simp only [Act.put, putA, putZ, putS])
                        refine tk0 ?_
                        refine wpAnyZ_done (by kernel_rfl) ?_ _
                        go_wp2_with fail
                        go_roundw
                        case rel => exact ⟨j + 1, by go_num, by omega, (fun q hq => by rcases Nat.lt_succ_iff_lt_or_eq.1 hq with h | rfl; exact HAL2.out q h; exact HX.out), HBD.out⟩
                        case measure => simp [intOf]; omega
                · obtain rfl : j = nn := by omega
                  have HK := Lib.hid (HE4.out HAL2.out)
                  have HB3 := Lib.hid (HB.out.trans ((HC.out.fr.trans (HB2.out.mono HC.out.fr.size)).mono HB.out.size))
                  go_wp2_with fail
                  go_roundw
                  case rel => exact ⟨k + 1, by go_num, by omega, (fun q hq => by rcases Nat.lt_succ_iff_lt_or_eq.1 hq with h | rfl; exact HALL.out q h; exact HK.out), HB3.out⟩
                  case measure => simp [intOf]; omega
            · have hkN : k = N := by omega
              have hkNi : (k : Int) = (N : Int) := by omega
              have HG2 := Lib.hid (HGD.out (fun q hq => HALL.out q (by omega)))
              have HRI := Lib.hid (HMV.out _ HA5.out.fr)
              rw [hkNi]
              clear HALL hk hlt hkN hkNi HE1 HB HBE HGD HLALL HMV HA4
              have k2 := HA5.out.cell (.head _) 2
              go_wp2_with fail
              go_loopw [10] (fun i wr => ∃ k : Nat, i = .int .i64 k ∧ k ≤ nm ∧ (∀ q, q < k → (inB (mf q) 0 9 && inB (mt q) 0 9) = true) ∧ wy = wr) (fun i _ => nm - (intOf i).toNat)
              case atStart => exact ⟨0, rfl, Nat.zero_le _, fun q h => absurd h (Nat.not_lt_zero _), rfl⟩
              case round =>
                obtain ⟨k, rfl, hk, hall, rfl⟩ := hrel
                have HALL := Lib.hid hall
                clear hall
                by_cases hlt : k < nm
                · obtain ⟨mb, mo, hma, hmb, m0, m1⟩ := HRI.out.at hlt
                  rw [hma] at k2
                  clear hma
                  have ki : (0 : Int) ≤ (k : Int) := by omega
                  have kj : (k : Int) < (nm : Int) := by omega
                  have HBMK := Lib.hid (HBM.out k hlt)
                  cases h1 : inB (mf k) 0 9
                  · have HR := Lib.hid (HBMK.out (by rw [h1]; rfl))
                    go_wp2_with (go_at_call 32; refine (refIn_any _ _ _ _).mono ?_; rintro e w' ⟨rfl, rfl⟩)
                    go_ret
                    exact ⟨ret_int HR.out.symm, HA5.out.fr⟩
                  cases h2 : inB (mt k) 0 9
                  · have HR := Lib.hid (HBMK.out (by rw [h1, h2]; rfl))
                    go_wp2_with (go_at_call 32; refine (refIn_any _ _ _ _).mono ?_; rintro e w' ⟨rfl, rfl⟩)
                    go_ret
                    exact ⟨ret_int HR.out.symm, HA5.out.fr⟩
                  have HX : Hid ((inB (mf k) 0 9 && inB (mt k) 0 9) = true) := by unfold Hid; rw [h1, h2]; rfl
                  go_wp2_with (go_at_call 32; refine (refIn_any _ _ _ _).mono ?_; rintro e w' ⟨rfl, rfl⟩)
                  go_roundw
                  case rel => exact ⟨k + 1, by go_num, by omega, (fun q hq => by rcases Nat.lt_succ_iff_lt_or_eq.1 hq with h | rfl; exact HALL.out q h; exact HX.out), trivial⟩
                  case measure => simp [intOf]; omega
                · have HR := Lib.hid (HG2.out (fun q hq => HALL.out q (by omega)))
                  obtain rfl : k = nm := by omega
                  go_wp2_with fail
                  go_ret
                  exact ⟨ret_int HR.out.symm, HA5.out.fr⟩

end Go.Proofs.YtgbdbikjckfgmaaGreat
