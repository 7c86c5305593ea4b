/- Walk: WalkTruth's walk. Printed by gen_zt.py. -/
import Derived.Test.YtpnkgjkoophckaaZN
namespace Go.Proofs.Ytpnkgjkoophckaa
open Go.RowKit Go.Shelf

theorem cP_pt {m : Mp} {Y : Nat → Wl} {k : Nat} (hy : WlOk m (Y k)) {j p : Nat} (hj : j < (Y k).nc) (hp : (Y k).ct j = p) (i : Nat) : upd (cP Y k j) p (cP Y k j p + 1) i = cP Y k (j + 1) i := by
  have h1 : ∀ q, q < j → (Y k).ct q < (Y k).ct j := fun q hq => by
    have := rises_lt hy.ris (j - q - 1) q (by omega)
    rw [show q + (j - q - 1) + 1 = j by omega] at this
    exact this
  unfold upd
  by_cases e : i = p
  · subst e
    rw [if_pos rfl]
    unfold cP
    rw [if_neg (fun h => by obtain ⟨q, hq, e⟩ := hasB_iff.1 h; have := h1 q hq; omega), if_pos (hasB_iff.2 ⟨j, by omega, hp⟩)]
    omega
  · rw [if_neg e]
    unfold cP
    have : hasB (Y k).ct (j + 1) (i : Int) = hasB (Y k).ct j (i : Int) := by
      rw [Bool.eq_iff_iff, hasB_iff, hasB_iff]
      constructor
      · rintro ⟨q, hq, h⟩
        rcases Nat.lt_succ_iff_lt_or_eq.1 hq with hq | rfl
        · exact ⟨q, hq, h⟩
        · omega
      · rintro ⟨q, hq, h⟩
        exact ⟨q, by omega, h⟩
    rw [this]
set_option maxRecDepth 100000 in
set_option maxHeartbeats 32000000 in
theorem walkTruth_walk (x : MV) (m : Mp) (wv : Value) (wn : Nat) (zw : Nat → Int) (c : Int) (w : World) (h : MpLaw w x m) (hz : WordsIn w wv wn zw) (hwn : wn ≤ maxLen) (hc : 0 ≤ c ∧ c ≤ 65535) :
    Calls Try.prog 16 #[.agg #[.slice x.wa m.nw x.wc, .slice x.ra m.nr x.rc], wv, .int .u16 c] w fun e w' => e = .returned (.bool true) ∧ Below w.heap.size w w' := by
  obtain ⟨c, rfl⟩ : ∃ k : Nat, c = k := ⟨c.toNat, by omega⟩
  have HMP := Lib.hid h.l
  have HWZ := Lib.hid hz
  have HRE := Lib.hid (fun W (hW : Below w.heap.size w W) => ready_any x m W (h.l.below hW) h.bw h.br)
  clear h
  obtain ⟨rb, hrb⟩ : ∃ rb, rb = readyB m := ⟨_, rfl⟩
  have HRB : Hid (rb = true → m.fault = 0) := fun h => by rw [hrb] at h; unfold readyB at h; simp only [Bool.and_eq_true, decide_eq_true_eq] at h; exact h.2
  rw [← hrb] at HRE
  clear hrb
  have HA0 : Hid (BF w (w.alloc (.cells #[.slice x.wa m.nw x.wc, .slice x.ra m.nr x.rc] 25)) [(w.heap.size, #[.slice x.wa m.nw x.wc, .slice x.ra m.nr x.rc], 25)]) := (BF.base w).alloc _ _
  go_enter Try.func16, Try.ntmps16
  go_upto_region 1 with fail
  generalize w.alloc (.cells #[.slice x.wa m.nw x.wc, .slice x.ra m.nr x.rc] 25) = w0 at *
  have c0 := HA0.out.cell (.head _) 0
  have c1 := HA0.out.cell (.head _) 1
  cases rb
  · go_wp2_with (first | (go_at_call 35; refine (HRE.out _ HA0.out.fr).mono ?_; rintro _ w1 ⟨rfl, hb⟩; have HA1 := Lib.hid (HA0.out.below hb); clear hb) | (go_at_call 19; refine (awake_any _).mono ?_; rintro _ w2 ⟨rfl, hb⟩; have HA2 := Lib.hid (HA1.out.below hb); clear hb))
    go_ret
    exact ⟨rfl, HA2.out.fr⟩
  have hf := HRB.out rfl
  have ok := okM_of hf
  have hnw := ok.nw
  have hnr := ok.nr
  have kw1 : m.nw ≤ 100000 := by omega
  have kr1 : m.nr ≤ 100000 := by omega
  have e7 : ((c : Int) % 400) = ((c % 400 : Nat) : Int) := rfl
  obtain ⟨q, hq⟩ : ∃ q, q = c % 400 := ⟨_, rfl⟩
  rw [← hq] at e7
  have q7 : q < 400 := by rw [hq]; exact Nat.mod_lt _ (by decide)
  have HMC := Lib.hid (fun W (hW : Below w.heap.size w W) => mapC_any x m W (HMP.out.below hW) kw1 kr1)
  have HPL := Lib.hid (fun (y : MV) W hW => plan_pl ok hf y (lim := (q : Int)) (by omega) W hW)
  have HPI := Lib.hid (fun W (hW : Below w.heap.size w W) => picked_any x m W (HMP.out.below hW) kw1 kr1 ok wv wn zw (HWZ.out.below hW) hwn)
  obtain ⟨TW, hTW⟩ : ∃ TW : Nat → Int, TW = fun i => pkV (m.wk i) (wordF wn zw (i : Int)) := ⟨_, rfl⟩
  obtain ⟨TR, hTR⟩ : ∃ TR : Nat → Int, TR = fun i => pkV (m.rt i) (wordF wn zw ((i : Int) + 9)) := ⟨_, rfl⟩
  have hB1 : ∀ i, i < m.nw → (m.wk i).1 ≤ TW i ∧ TW i ≤ (m.wk i).2 := fun i hi => by rw [hTW]; exact pkV_bd (by have := ok.wk i hi; omega) (wordF_bd HWZ.out _).1
  have hB2 : ∀ i, i < m.nr → (m.rt i).1 ≤ TR i ∧ TR i ≤ (m.rt i).2 := fun i hi => by rw [hTR]; exact pkV_bd (by have := ok.rt i hi; omega) (wordF_bd HWZ.out _).1
  rw [← hTW, ← hTR] at HPI
  have hBD : TrBd m TW TR := ⟨fun i hi => by have := hB1 i hi; have := ok.wk i hi; omega, fun i hi => by have := hB2 i hi; have := ok.rt i hi; omega⟩
  have HTB := Lib.hid (truth_ok hB1 hB2)
  have hBR := fun hd => best_right ok (lim := (q : Int)) (show (q : Int) ≤ 1048575 by omega) hd
  have hYB := fun hd => yD_bd ok (L := (q : Int)) (show (q : Int) ≤ 1048575 by omega) hd
  have HPP := Lib.hid (fun (n : Nat) (Y : Nat → Wl) (many : Int) (hn : n ≤ 100000) (hy : ∀ k, k < n → (Y k).nl ≤ 100000 ∧ (Y k).nc ≤ 100000) (z : MV) (va : Option Addr) (vc : Nat) V W h1 h2 => ProvePlan_any z m va n vc V Y (q : Int) many W h1 h2 hn hy kw1 kr1)
  obtain ⟨D, hD⟩ : ∃ D, dvW m (q : Int) = D := ⟨_, rfl⟩
  have HPX : Hid ((D = [] → planX m (q : Int) = 9) ∧ (D ≠ [] → planX m (q : Int) = 0)) := by rw [← hD]; exact ⟨fun h => if_pos h, fun h => if_neg h⟩
  have HBR := Lib.hid hBR
  have HYB := Lib.hid hYB
  rw [hD] at HPL HBR HYB
  have HLE : Hid (∀ y : Wl, walkE m y = 0 → timeZ m y TW TR ≤ lgY m y) := fun y hy => timeZ_le (wlOk_of ok hy) (fun i hi => (hB1 i hi).2) (fun i hi => (hB2 i hi).2)
  have HTM0 := Lib.hid (fun (y : Wl) (hwe : walkE m y = 0) (hnc : y.nc ≤ 100000) (z : MV) (u : LV) (t : TV) W hW hU h1 h2 => time_pl ok hf hwe hnc HTB.out z u t W hW hU h1 h2)
  have HRT0 := Lib.hid (fun (y : Wl) (hwe : walkE m y = 0) (hnc : y.nc ≤ 100000) W (u : LV) (t : TV) (hW : Below w.heap.size w W) hU hT => rTime_any x m u y t TW TR W (HMP.out.below hW) hU hT (wlOk_of ok hwe) kr1 hnc hBD)
  have HOK := Lib.hid ok
  have HFZ := Lib.hid hf
  clear hD hq hf HRB hTW hTR hB1 hB2 hBD hBR hYB ok HTB
  generalize planX m (q : Int) = px at *
  go_wp2_with fail
  refine (HRE.out _ HA0.out.fr).mono ?_
  rintro _ w1 ⟨rfl, hb⟩
  have HA1 := Lib.hid (HA0.out.below hb)
  have e0 := HA1.out.cell (.head _) 0
  have e1 := HA1.out.cell (.head _) 1
  clear hb HA0 c0 c1
  go_wp2_with fail
  rw [e7]
  refine (HMC.out _ HA1.out.fr).mono ?_
  rintro _ w2 ⟨y2, rfl, hm, hb⟩
  have HA2 := Lib.hid (HA1.out.below hb)
  have HM2 := Lib.hid (hm)
  clear hb HA1 hm e0 e1
  go_wp2_with fail
  refine (HPL.out y2 _ HM2.out).mono ?_
  rintro _ w3 ⟨hb, pa, pc, Q, rfl, hqm, hqr, hqo⟩
  have HA3 := Lib.hid (HA2.out.below hb)
  have HQ3 := Lib.hid (PlO.ofQ hqm hqr hqo)
  have HQL := Lib.hid ((by simpa using congrArg List.length hqm : Q.length = D.length))
  have e0 := HA3.out.cell (.head _) 0
  have e1 := HA3.out.cell (.head _) 1
  clear hb HA2 HM2 hqm hqr hqo
  by_cases hd : D = []
  · have hpx := HPX.out.1 hd
    subst hpx
    go_wp2_with (go_at_call 19; refine (awake_any _).mono ?_; rintro _ wz ⟨rfl, hb⟩; have HZ := Lib.hid (HA3.out.below hb); clear hb)
    go_ret
    exact ⟨rfl, HZ.out.fr⟩
  have hpx := HPX.out.2 hd
  subst hpx
  obtain ⟨hbr1, hbr2, hbr3⟩ := HBR.out hd
  have hyd := HYB.out hd
  have hql := HQL.out
  rw [hql] at HQ3 ⊢
  have HQ4 : Hid (PlO w2.heap.size w3 30 (.slice pa D.length pc) D.length (uQ Q) (yD m D)) := HQ3.out
  have hwe : ∀ k, k < D.length → walkE m (yD m D k) = 0 := fun k hk => (isWalk_iff HOK.out _).1 (hbr1 k hk)
  obtain ⟨nD, hnD⟩ : ∃ nD, D.length = nD := ⟨_, rfl⟩
  rw [hnD] at hbr1 hbr2 hbr3 hyd hwe HQ4 ⊢
  obtain ⟨Y, hY⟩ : ∃ Y, yD m D = Y := ⟨_, rfl⟩
  rw [hY] at hbr1 hbr2 hyd hwe HQ4
  obtain ⟨hri1, hri2⟩ := right_iff.1 hbr2
  have HCN := Lib.hid hri1
  have HLG := Lib.hid hri2
  have HWE := Lib.hid hwe
  have HYD := Lib.hid hyd
  have hfe : fltE m Y nD (q : Int) = 0 := by
    unfold fltE
    rw [HFZ.out, planE_of hbr3 hwe, if_neg (by simp), if_neg (by simp), if_pos (by simp only [inB, Bool.and_eq_true, decide_eq_true_eq]; omega)]
  have hpv : ∀ many, proveB m Y nD (q : Int) many = decide ((nD : Int) ≤ many) := fun many => by
    unfold proveB
    rw [decide_eq_true hfe, hbr2]; rfl
  have HPT : Hid (∀ (z : MV) (va : Option Addr) (vc : Nat) V W, MpIn W z m → PlIn W (.slice va nD vc) nD V Y → Calls Try.prog 64 #[.agg #[.slice z.wa m.nw z.wc, .slice z.ra m.nr z.rc], .slice va nD vc, .int .i64 (q : Int), .int .i64 (nD : Int)] W fun e w' => e = .returned (.bool true) ∧ Below W.heap.size W w') := fun z va vc V W h1 h2 => by
    have h := HPP.out nD Y (nD : Int) (by omega) hyd z va vc V W h1 h2
    rw [hpv, decide_eq_true (Int.le_refl _)] at h
    exact h
  have HPF : Hid (∀ (z : MV) (va : Option Addr) (vc : Nat) V W, MpIn W z m → PlIn W (.slice va nD vc) nD V Y → Calls Try.prog 64 #[.agg #[.slice z.wa m.nw z.wc, .slice z.ra m.nr z.rc], .slice va nD vc, .int .i64 (q : Int), .int .i64 ((nD : Int) - 1)] W fun e w' => e = .returned (.bool false) ∧ Below W.heap.size W w') := fun z va vc V W h1 h2 => by
    have h := HPP.out nD Y ((nD : Int) - 1) (by omega) hyd z va vc V W h1 h2
    rw [hpv, decide_eq_false (by omega)] at h
    exact h
  clear HPX HBR HYB hbr1 hbr2 hyd hwe hri1 hri2 hfe hpv HPP HQ3 hql HQL hnD hY hd HPL HRE HFZ
  go_wp2_with fail
  refine (HPI.out _ HA3.out.fr).mono ?_
  rintro _ w6 ⟨⟨t1, f1, t2, f2⟩, rfl, ht, hb⟩
  have HA6 := Lib.hid ((HA3.out.below hb).alloc #[.slice t1 m.nw f1, .slice t2 m.nr f2] 71)
  have HQ6 := Lib.hid ((HQ4.out.below hb).below (below_alloc w6 (.cells #[.slice t1 m.nw f1, .slice t2 m.nr f2] 71)))
  have HT := Lib.hid (ht.tr.below (below_alloc w6 (.cells #[.slice t1 m.nw f1, .slice t2 m.nr f2] 71)))
  clear ht hb HA3 HQ4 HPI e0 e1
  go_upto_region 8 with fail
  generalize w6.alloc (.cells #[.slice t1 m.nw f1, .slice t2 m.nr f2] 71) = ws at *
  generalize w6.heap.size = TB at *
  have HAS : Hid (BF w ws [(TB, #[.slice t1 m.nw f1, .slice t2 m.nr f2], 71), (w.heap.size, #[.slice x.wa m.nw x.wc, .slice x.ra m.nr x.rc], 25)]) := HA6.out
  clear HA6
  have HZ8 : Hid (a8 (cF Y 0) = #[.int .i64 0, .int .i64 0, .int .i64 0, .int .i64 0, .int .i64 0, .int .i64 0, .int .i64 0, .int .i64 0]) := by rfl
  have HC0 : Hid (BF ws (ws.alloc (.cells (a8 (cF Y 0)) 44)) [(ws.heap.size, a8 (cF Y 0), 44)]) := (BF.base ws).alloc _ _
  go_upto_region 9 with fail
  rw [← HZ8.out]
  generalize ws.alloc (.cells (a8 (cF Y 0)) 44) = wt at *
  obtain ⟨CT, hCT⟩ : ∃ CT, ws.heap.size = CT := ⟨_, rfl⟩
  rw [hCT] at HC0 ⊢
  clear hCT HZ8
  go_wp2_with fail
  go_loopw [12] (fun i wr => ∃ k : Nat, i = .int .i64 k ∧ k ≤ nD ∧ BF ws wr [(CT, a8 (cF Y k), 44)]) (fun i _ => nD - (intOf i).toNat)
  case atStart => exact ⟨0, rfl, Nat.zero_le _, HC0.out⟩
  case round =>
    clear HC0
    obtain ⟨k, rfl, hk, hbf⟩ := hrel
    rename World => wx
    have HC1 := Lib.hid hbf
    clear hbf
    by_cases hlt : k < nD
    · have ki : (0 : Int) ≤ (k : Int) := by omega
      have kn : (k : Int) < (nD : Int) := by omega
      obtain ⟨b, off, rfl, hb, x0, x1⟩ := HQ6.out.pl.ps.at hlt
      have HWI := Lib.hid (HQ6.out.pl.wl k hlt)
      have hyd := HYD.out k hlt
      have hwk := HWE.out k hlt
      have hwo := wlOk_of HOK.out hwk
      have hle := HLE.out _ hwk
      have hlg := HLG.out k hlt
      have HTM := Lib.hid (HTM0.out _ hwk hyd.2)
      have HRT := Lib.hid (HRT0.out _ hwk hyd.2)
      have HKC : Hid (∀ j, j < (Y k).nc → ∃ p : Nat, (Y k).ct j = p ∧ p < m.nw) := hwo.ct
      have HCS : Hid (∀ j p, j < (Y k).nc → (Y k).ct j = (p : Nat) → ∀ i, upd (cP Y k j) p (cP Y k j p + 1) i = cP Y k (j + 1) i) := fun j p hj hp i => cP_pt hwo hj hp i
      have HCE := Lib.hid (cP_end Y k)
      have HCB := Lib.hid (fun j i => cP_bd Y k j i)
      have HZ0 := Lib.hid (cP_zero Y k)
      clear hwo hwk
      generalize cP Y k = cp at *
      obtain ⟨y, hye⟩ : ∃ y, Y k = y := ⟨_, rfl⟩
      obtain ⟨u, hue⟩ : ∃ u, uQ Q k = u := ⟨_, rfl⟩
      rw [hye] at HTM HRT HWI HKC HCS HCE x0 x1 hyd hle hlg
      rw [hue] at HWI x0 x1
      clear hye hue
      obtain ⟨ra, rc, ca, cc⟩ := u
      obtain ⟨nl, rt, nc, cts⟩ := y
      simp only at HTM HRT HWI HKC HCS HCE x0 x1 hyd hle hlg
      obtain ⟨kl1, kc1⟩ := hyd
      obtain ⟨tz, htz⟩ : ∃ tz, timeZ m ⟨nl, rt, nc, cts⟩ TW TR = tz := ⟨_, rfl⟩
      rw [htz] at HTM HRT hle
      have kle : ¬ ((q : Int) < tz) := by omega
      clear htz hle hlg
      go_upto_region 12 with fail
      go_cut [13, 14] (fun s13 s14 wv => s13 = .int .i64 tz ∧ s14 = .int .i64 0 ∧ BF ws wv [(CT, a8 (cF Y k), 44)])
      case first =>
        have HAX : Hid (BF ws wx.drew [(CT, a8 (cF Y k), 44)]) := HC1.out.below (Below.refl _ _).drew
        refine wp_region_Z (S := fun X => X.cell? ⟨w.heap.size, 0, none⟩ = some (.slice x.wa m.nw x.wc) ∧ X.cell? ⟨w.heap.size, 1, none⟩ = some (.slice x.ra m.nr x.rc) ∧ X.cell? ⟨TB, 0, none⟩ = some (.slice t1 m.nw f1) ∧ X.cell? ⟨TB, 1, none⟩ = some (.slice t2 m.nr f2) ∧ X.cell? ⟨b, off + k * 2, none⟩ = some (.slice ra nl rc) ∧ X.cell? ⟨b, off + k * 2 + 1, none⟩ = some (.slice ca nc cc)) (by kernel_rfl) (⟨(HAS.out.below HAX.out.fr).cell (.tail _ (.head _)) 0, (HAS.out.below HAX.out.fr).cell (.tail _ (.head _)) 1, (HAS.out.below HAX.out.fr).cell (.head _) 0, (HAS.out.below HAX.out.fr).cell (.head _) 1, kept HAX.out.fr hb x0, kept HAX.out.fr hb x1⟩) (fun hS => ?_)
        generalize wx.drew = X at *
        refine tk [0, 2, 3, 4, 5, 6] ?_
        repeat (refine tkZ (oi := ⟨_, _, _, _, _, _⟩) (v := ?_) rfl (by kernel_rfl) (by rfl) (fun _ _ _ h => h) hS ?_ ?_; rotate_left; (· rintro W' ⟨z0, z1, z2, z3, z4, z5⟩; go_simp; try with_reducible rfl); try simp only [Act.put, putA, putZ, putS])
        refine tk0 ?_
        refine wpAnyZ_next (rs := [1]) (by kernel_rfl) (by simp) ?_
        refine NextZ.cons (o := ⟨some 49, _, _, _, _, _⟩) rfl (fun K hK => ?_) NextZ.nil
        go_simp
        refine (HMC.out X (HAS.out.below HAX.out.fr).fr).mono ?_
        rintro _ X0 ⟨y0, rfl, hm0, hb0⟩
        (try go_wp2_with fail)
        have HA0 := Lib.hid (HAX.out.below hb0)
        have HM0 := Lib.hid (hm0)
        refine hK.out _ _ (⟨(HAS.out.below HA0.out.fr).cell (.tail _ (.head _)) 0, (HAS.out.below HA0.out.fr).cell (.tail _ (.head _)) 1, (HAS.out.below HA0.out.fr).cell (.head _) 0, (HAS.out.below HA0.out.fr).cell (.head _) 1, kept HA0.out.fr hb x0, kept HA0.out.fr hb x1⟩) (fun hS => ?_)
        clear hK K
        try simp only [Act.put, putA, putZ, putS]
        clear hb0 hm0
        refine wpAnyZ_next (rs := [7]) (by kernel_rfl) (by simp) ?_
        refine NextZ.cons (o := ⟨some 55, _, _, _, _, _⟩) rfl (fun K hK => ?_) NextZ.nil
        go_simp
        refine (truthC_any _ _ _ _ _ _ _ _ _ (HT.out.below HA0.out.fr).wk (HT.out.below HA0.out.fr).rd kw1 kr1).mono ?_
        rintro _ X1 ⟨b1, g1, b2, g2, rfl, hp1, hq1, hb1⟩
        (try go_wp2_with fail)
        have HA1 := Lib.hid (HA0.out.below hb1)
        have HM1 := Lib.hid (HM0.out.below hb1)
        have HP1 := Lib.hid (hp1)
        have HQ1 := Lib.hid (hq1)
        refine hK.out _ _ (⟨(HAS.out.below HA1.out.fr).cell (.tail _ (.head _)) 0, (HAS.out.below HA1.out.fr).cell (.tail _ (.head _)) 1, (HAS.out.below HA1.out.fr).cell (.head _) 0, (HAS.out.below HA1.out.fr).cell (.head _) 1, kept HA1.out.fr hb x0, kept HA1.out.fr hb x1⟩) (fun hS => ?_)
        clear hK K
        try simp only [Act.put, putA, putZ, putS]
        clear hb1 hp1 hq1
        refine wpAnyZ_next (rs := [8]) (by kernel_rfl) (by simp) ?_
        refine NextZ.cons (o := ⟨some 56, _, _, _, _, _⟩) rfl (fun K hK => ?_) NextZ.nil
        go_simp
        refine (HTM.out y0 ⟨ra, rc, ca, cc⟩ ⟨b1, g1, b2, g2⟩ _ HM1.out (HWI.out.below HA1.out.fr) HP1.out HQ1.out).mono ?_
        rintro _ X2 ⟨rfl, hb2⟩
        (try go_wp2_with fail)
        have HA2 := Lib.hid (HA1.out.below hb2)
        refine hK.out _ _ (⟨(HAS.out.below HA2.out.fr).cell (.tail _ (.head _)) 0, (HAS.out.below HA2.out.fr).cell (.tail _ (.head _)) 1, (HAS.out.below HA2.out.fr).cell (.head _) 0, (HAS.out.below HA2.out.fr).cell (.head _) 1, kept HA2.out.fr hb x0, kept HA2.out.fr hb x1⟩) (fun hS => ?_)
        clear hK K
        try simp only [Act.put, putA, putZ, putS]
        clear hb2
        refine tk [9, 10, 11, 12, 13] ?_
        repeat (refine tkZ (oi := ⟨_, _, _, _, _, _⟩) (v := ?_) rfl (by kernel_rfl) (by rfl) (fun _ _ _ h => h) hS ?_ ?_; rotate_left; (· rintro W' ⟨z0, z1, z2, z3, z4, z5⟩; go_simp; try with_reducible rfl); try simp only [Act.put, putA, putZ, putS])
        refine tk0 ?_
        refine wpAnyZ_done (by kernel_rfl) ?_ _
        go_wp2_with fail
        go_meet
        exact ⟨rfl, rfl, HA2.out⟩
      case rest =>
      obtain ⟨rfl, rfl, hbf⟩ := hcut
      rename World => wu
      have HC3 := Lib.hid hbf
      clear hbf HC1
      go_upto_region 13 with fail
      have HAX : Hid (BF ws wu.drew [(CT, a8 (cF Y k), 44)]) := HC3.out.below (Below.refl _ _).drew
      clear HC3
      refine wp_region_Z (S := fun X => X.cell? ⟨w.heap.size, 0, none⟩ = some (.slice x.wa m.nw x.wc) ∧ X.cell? ⟨w.heap.size, 1, none⟩ = some (.slice x.ra m.nr x.rc) ∧ X.cell? ⟨TB, 0, none⟩ = some (.slice t1 m.nw f1) ∧ X.cell? ⟨TB, 1, none⟩ = some (.slice t2 m.nr f2) ∧ X.cell? ⟨b, off + k * 2, none⟩ = some (.slice ra nl rc) ∧ X.cell? ⟨b, off + k * 2 + 1, none⟩ = some (.slice ca nc cc)) (by kernel_rfl) (⟨(HAS.out.below HAX.out.fr).cell (.tail _ (.head _)) 0, (HAS.out.below HAX.out.fr).cell (.tail _ (.head _)) 1, (HAS.out.below HAX.out.fr).cell (.head _) 0, (HAS.out.below HAX.out.fr).cell (.head _) 1, kept HAX.out.fr hb x0, kept HAX.out.fr hb x1⟩) (fun hS => ?_)
      generalize wu.drew = X at *
      refine tk [0, 1, 2, 3, 4, 5, 6, 7, 8, 9, 10, 11, 12, 13, 15] ?_
      repeat (refine tkZ (oi := ⟨_, _, _, _, _, _⟩) (v := ?_) rfl (by kernel_rfl) (by rfl) (fun _ _ _ h => h) hS ?_ ?_; rotate_left; (· rintro W' ⟨z0, z1, z2, z3, z4, z5⟩; go_simp; try with_reducible rfl); try simp only [Act.put, putA, putZ, putS])
      refine tk0 ?_
      refine wpAnyZ_next (rs := [14]) (by kernel_rfl) (by simp) ?_
      refine NextZ.cons (o := ⟨some 73, _, _, _, _, _⟩) rfl (fun K hK => ?_) NextZ.nil
      go_simp
      refine (backC_any ra ca nl rc nc cc rt cts _ (HWI.out.below HAX.out.fr).rt (HWI.out.below HAX.out.fr).ct kl1 kc1).mono ?_
      rintro _ X0 ⟨a1, d1, a2, d2, rfl, hw0, hv0, hb0⟩
      (try go_wp2_with fail)
      have HA0 := Lib.hid (HAX.out.below hb0)
      have HW0 := Lib.hid (hw0)
      have HV0 := Lib.hid (hv0)
      refine hK.out _ _ (⟨(HAS.out.below HA0.out.fr).cell (.tail _ (.head _)) 0, (HAS.out.below HA0.out.fr).cell (.tail _ (.head _)) 1, (HAS.out.below HA0.out.fr).cell (.head _) 0, (HAS.out.below HA0.out.fr).cell (.head _) 1, kept HA0.out.fr hb x0, kept HA0.out.fr hb x1⟩) (fun hS => ?_)
      clear hK K
      try simp only [Act.put, putA, putZ, putS]
      clear hb0 hw0 hv0
      refine wpAnyZ_next (rs := [16]) (by kernel_rfl) (by simp) ?_
      refine NextZ.cons (o := ⟨some 75, _, _, _, _, _⟩) rfl (fun K hK => ?_) NextZ.nil
      go_simp
      refine (HRT.out _ ⟨a1, d1, a2, d2⟩ ⟨t1, f1, t2, f2⟩ (HAS.out.below HA0.out.fr).fr ⟨HW0.out, HV0.out⟩ (HT.out.below HA0.out.fr)).mono ?_
      rintro _ X1 ⟨rfl, hb1⟩
      (try go_wp2_with fail)
      have HA1 := Lib.hid (HA0.out.below hb1)
      refine hK.out _ _ (⟨(HAS.out.below HA1.out.fr).cell (.tail _ (.head _)) 0, (HAS.out.below HA1.out.fr).cell (.tail _ (.head _)) 1, (HAS.out.below HA1.out.fr).cell (.head _) 0, (HAS.out.below HA1.out.fr).cell (.head _) 1, kept HA1.out.fr hb x0, kept HA1.out.fr hb x1⟩) (fun hS => ?_)
      clear hK K
      try simp only [Act.put, putA, putZ, putS]
      clear hb1
      refine tk [17, 18] ?_
      repeat (refine tkZ (oi := ⟨_, _, _, _, _, _⟩) (v := ?_) rfl (by kernel_rfl) (by rfl) (fun _ _ _ h => h) hS ?_ ?_; rotate_left; (· rintro W' ⟨z0, z1, z2, z3, z4, z5⟩; go_simp; try with_reducible rfl); try simp only [Act.put, putA, putZ, putS])
      refine tk0 ?_
      refine wpAnyZ_done (by kernel_rfl) ?_ _
      have HC5 := Lib.hid (HA1.out)
      have y1 := kept HC5.out.fr hb x1
      go_wp2_with fail
      have HC6 : Hid (BF ws X1 [(CT, a8 (cp 0), 44)]) := by rw [HZ0.out]; exact HC5.out
      clear HC5
      go_loopw [15] (fun i wr => ∃ j : Nat, i = .int .i64 j ∧ j ≤ nc ∧ BF ws wr [(CT, a8 (cp j), 44)]) (fun i _ => nc - (intOf i).toNat)
      case atStart => exact ⟨0, rfl, Nat.zero_le _, HC6.out⟩
      case round =>
        clear HC6 y1
        obtain ⟨j, rfl, hj, hbf⟩ := hrel
        rename World => wy
        have HC7 := Lib.hid hbf
        clear hbf
        have y1 := kept HC7.out.fr hb x1
        by_cases hjn : j < nc
        · obtain ⟨bb, oo, rfl, hbb, xj⟩ := (HWI.out.ct).at hjn
          obtain ⟨p, hp, hpn⟩ := HKC.out j hjn
          simp only at hp xj
          rw [hp] at xj
          have yj := kept HC7.out.fr hbb xj
          have HST := Lib.hid (HCS.out j p hjn hp)
          have hp8 : p < 8 := by omega
          have e0 : wy.cell? ⟨CT, p, none⟩ = some (.int .i64 (cp j p)) := (HC7.out.cell (.head _) p).trans (a8_get _ hp8)
          have f0 := HC7.out.thaw (.head _) p
          have hcb := HCB.out j p
          have HC8 : Hid (BF ws (wy.setCell ⟨CT, p, none⟩ (.int .i64 (cp j p + 1))) [(CT, a8 (cp (j + 1)), 44)]) := BF.set1 (i := p) (cs' := a8 (cp (j + 1))) HC7.out (.head _) (.int .i64 (cp j p + 1)) (by rw [a8_size]; exact hp8) (by rw [a8_set _ _ hp8]; exact a8_congr (fun i _ => HST.out i)) (L' := []) (List.forall_mem_nil _)
          have ki : (0 : Int) ≤ (j : Int) := by omega
          have kj : (j : Int) < (nc : Int) := by omega
          have pi : (0 : Int) ≤ (p : Int) := by omega
          have pn : (p : Int) < 8 := by omega
          obtain ⟨v, hv⟩ : ∃ v, cp j p = v := ⟨_, rfl⟩
          rw [hv] at e0 HC8 hcb
          clear hv HST hp xj
          go_wp2_with fail
          go_roundw
          case rel => exact ⟨j + 1, by go_num, by omega, HC8.out⟩
          case measure => simp [intOf]; omega
        · obtain rfl : j = nc := by omega
          have HC8 : Hid (BF ws wy [(CT, a8 (cF Y (k + 1)), 44)]) := by rw [← HCE.out]; exact HC7.out
          clear HC7
          go_wp2_with fail
          go_roundw
          case rel => exact ⟨k + 1, by go_num, by omega, HC8.out⟩
          case measure => simp [intOf]; omega
    · obtain rfl : k = nD := by omega
      have e0 := (HAS.out.below HC1.out.fr).cell (.tail _ (.head _)) 0
      go_wp2_with fail
      go_loopw [16] (fun i wr => ∃ j : Nat, i = .int .i64 j ∧ j ≤ m.nw ∧ BF ws wr [(CT, a8 (cF Y k), 44)]) (fun i _ => m.nw - (intOf i).toNat)
      case atStart => exact ⟨0, rfl, Nat.zero_le _, HC1.out⟩
      case round =>
      clear HC1 e0
      obtain ⟨j, rfl, hj, hbf⟩ := hrel
      rename World => wy
      have HC2 := Lib.hid hbf
      clear hbf
      have e0 := (HAS.out.below HC2.out.fr).cell (.tail _ (.head _)) 0
      have e1 := (HAS.out.below HC2.out.fr).cell (.tail _ (.head _)) 1
      by_cases hjn : j < m.nw
      · have ki : (0 : Int) ≤ (j : Int) := by omega
        have kj : (j : Int) < (m.nw : Int) := by omega
        have k8 : (j : Int) < 8 := by omega
        have f0 : wy.cell? ⟨CT, j, none⟩ = some (.int .i64 1) := (HC2.out.cell (.head _) j).trans ((a8_get _ (show j < 8 by omega)).trans (by unfold cF; rw [HCN.out j hjn]; rfl))
        go_wp2_with fail
        go_roundw
        case rel => exact ⟨j + 1, by go_num, by omega, HC2.out⟩
        case measure => simp [intOf]; omega
      have hjm : j = m.nw := by omega
      have kj : ¬ ((j : Int) < (m.nw : Int)) := by omega
      have HA20 := Lib.hid (HAS.out.below HC2.out.fr)
      have HQ20 := Lib.hid (HQ6.out.below HC2.out.fr)
      clear HC2 HQ6 hjm
      go_wp2_with fail
      refine (HMC.out _ HA20.out.fr).mono ?_
      rintro _ v20 ⟨z20, rfl, hm, hb⟩
      have HA21 := Lib.hid (HA20.out.below hb)
      have HM20 := Lib.hid (hm)
      have HQ21 := Lib.hid (HQ20.out.below hb)
      clear hb HA20 hm e0 e1 HQ20
      go_wp2_with fail
      refine (HPT.out z20 pa pc (uQ Q) _ HM20.out HQ21.out.pl).mono ?_
      rintro _ v21 ⟨rfl, hb⟩
      have HA22 := Lib.hid (HA21.out.below hb)
      have HQ22 := Lib.hid (HQ21.out.below hb)
      have e0 := HA22.out.cell (.tail _ (.head _)) 0
      have e1 := HA22.out.cell (.tail _ (.head _)) 1
      clear hb HA21 HM20 HQ21
      go_wp2_with fail
      refine (HMC.out _ HA22.out.fr).mono ?_
      rintro _ v22 ⟨z22, rfl, hm, hb⟩
      have HA23 := Lib.hid (HA22.out.below hb)
      have HM22 := Lib.hid (hm)
      have HQ23 := Lib.hid (HQ22.out.below hb)
      clear hb HA22 hm e0 e1 HQ22
      go_wp2_with fail
      refine (HPF.out z22 pa pc (uQ Q) _ HM22.out HQ23.out.pl).mono ?_
      rintro _ v23 ⟨rfl, hb⟩
      have HA24 := Lib.hid (HA23.out.below hb)
      have HQ24 := Lib.hid (HQ23.out.below hb)
      have e0 := HA24.out.cell (.tail _ (.head _)) 0
      have e1 := HA24.out.cell (.tail _ (.head _)) 1
      clear hb HA23 HM22 HQ23
      go_wp2_with (go_at_call 19; refine (awake_any _).mono ?_; rintro _ wz ⟨rfl, hb⟩; have HZ := Lib.hid (HA24.out.below hb); clear hb)
      go_ret
      exact ⟨rfl, HZ.out.fr⟩
end Go.Proofs.Ytpnkgjkoophckaa
