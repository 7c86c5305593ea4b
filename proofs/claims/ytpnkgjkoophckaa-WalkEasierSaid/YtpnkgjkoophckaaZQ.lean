/- Walk: WalkNoFewer's walk. Printed by gen_zq.py. -/
import Derived.Test.YtpnkgjkoophckaaPF
namespace Go.Proofs.Ytpnkgjkoophckaa
open Go.RowKit Go.Shelf

theorem fewest_pl {m : Mp} (ok : OkM m) (h0 : m.fault = 0) (x : MV) {lim : Int} (hl : 0 ≤ lim ∧ lim ≤ 10000) (w : World) (h : MpIn w x m) :
    Calls Try.prog 43 #[.agg #[.slice x.wa m.nw x.wc, .slice x.ra m.nr x.rc], .int .i64 lim] w fun e w' => e = .returned (.tuple #[.int .i64 ((dvW m lim).length : Int), .int .i64 (planX m lim)]) ∧ Below w.heap.size w w' := by
  have hn := ok.nw
  have hr := ok.nr
  refine (Fewest_any x m lim w h (by omega) (by omega)).mono ?_
  rintro e w' ⟨hb, rfl⟩
  have e1 : inB lim 0 10000 = true := by simp only [inB, Bool.and_eq_true, decide_eq_true_eq]; omega
  have hE : dvdE m lim = planX m lim := by unfold dvdE planX; rw [h0, e1]; rfl
  refine ⟨?_, hb⟩
  rw [hE]
  unfold planX
  by_cases hd : dvW m lim = []
  · rw [if_pos hd, if_neg (by decide), hd]; rfl
  · rw [if_neg hd, if_pos rfl]
/-- A right plan has at least as many walks as the best one. -/
theorem prove_few {m : Mp} (ok : OkM m) {Y : Nat → Wl} {n : Nat} {lim many : Int} (h : proveB m Y n lim many = true) : dvW m lim ≠ [] ∧ ((dvW m lim).length : Int) ≤ many := by
  unfold proveB at h
  simp only [Bool.and_eq_true, decide_eq_true_eq] at h
  obtain ⟨h1, h2, h3⟩ := h
  obtain ⟨j, hj, hd⟩ := right_dvs ok (fltE_ok h1).2 h2
  obtain ⟨d1, d2, _⟩ := dvW_iff ok lim
  have := d2 j hd
  exact ⟨d1.2 ⟨j, hd⟩, by omega⟩
theorem low_none {m : Mp} (ok : OkM m) {lim : Int} (hl : 0 ≤ lim ∧ lim < 1048576) (h : 1048576 ≤ lowL m m.nw) : dvW m lim = [] := by
  by_cases hd : dvW m lim = []
  · exact hd
  · have := lowL_le (m := m) (L := lim) hl.1 m.nw ((dvW_reach ok lim).1 hd)
    omega
theorem planX_nil {m : Mp} {lim : Int} (h : dvW m lim = []) : planX m lim = 9 := if_pos h
theorem planX_ne {m : Mp} {lim : Int} (h : dvW m lim ≠ []) : planX m lim = 0 := if_neg h
set_option maxRecDepth 100000 in
set_option maxHeartbeats 32000000 in
theorem walkNoFewer_walk (x : MV) (m : Mp) (a : Option Addr) (n cap : Nat) (U : Nat → LV) (Y : Nat → Wl) (c d : Int) (w : World) (h : MpLaw w x m) (hp : PlIn w (.slice a n cap) n U Y) (hc : 0 ≤ c ∧ c ≤ 65535) (hd : 0 ≤ d ∧ d ≤ 255) :
    Calls Try.prog 15 #[.agg #[.slice x.wa m.nw x.wc, .slice x.ra m.nr x.rc], .slice a n cap, .int .u16 c, .int .u8 d] w fun e w' => e = .returned (.bool true) ∧ Below w.heap.size w w' := by
  obtain ⟨c, rfl⟩ : ∃ k : Nat, c = k := ⟨c.toNat, by omega⟩
  obtain ⟨d, rfl⟩ : ∃ k : Nat, d = k := ⟨d.toNat, by omega⟩
  have HMP := Lib.hid h.l
  have HP := Lib.hid hp
  have HRE := Lib.hid (fun W (hW : Below w.heap.size w W) => ready_any x m W (h.l.below hW) h.bw h.br)
  have HSH := Lib.hid (fun W (hW : Below w.heap.size w W) => short_any a n cap U Y W (hp.below hW))
  clear h hp
  obtain ⟨rb, hrb⟩ : ∃ rb, rb = readyB m := ⟨_, rfl⟩
  have HRB : Hid (rb = true → m.fault = 0) := fun h => by rw [hrb] at h; unfold readyB at h; simp only [Bool.and_eq_true, decide_eq_true_eq] at h; exact h.2
  rw [← hrb] at HRE
  obtain ⟨sb, hsb⟩ : ∃ sb, sb = shortB Y n := ⟨_, rfl⟩
  have HSB : Hid (sb = true → n ≤ 11 ∧ ∀ k, k < n → (Y k).nl ≤ 70 ∧ (Y k).nc ≤ 12) := fun e => by rw [hsb] at e; exact shortB_iff.1 e
  rw [← hsb] at HSH
  clear hrb hsb
  have HA0 : Hid (BF w (w.alloc (.cells #[.slice x.wa m.nw x.wc, .slice x.ra m.nr x.rc] 25)) [(w.heap.size, #[.slice x.wa m.nw x.wc, .slice x.ra m.nr x.rc], 25)]) := (BF.base w).alloc _ _
  go_enter Try.func15, Try.ntmps15
  go_upto_region 1 with fail
  generalize w.alloc (.cells #[.slice x.wa m.nw x.wc, .slice x.ra m.nr x.rc] 25) = w0 at *
  have c0 := HA0.out.cell (.head _) 0
  have c1 := HA0.out.cell (.head _) 1
  cases rb
  · go_wp2_with (first | (go_at_call 35; refine (HRE.out _ HA0.out.fr).mono ?_; rintro _ w1 ⟨rfl, hb⟩; have HA1 := Lib.hid (HA0.out.below hb); clear hb) | (go_at_call 19; refine (awake_any _).mono ?_; rintro _ w2 ⟨rfl, hb⟩; have HA2 := Lib.hid (HA1.out.below hb); clear hb))
    go_ret
    exact ⟨rfl, HA2.out.fr⟩
  cases sb
  · go_wp2_with (first | (go_at_call 35; refine (HRE.out _ HA0.out.fr).mono ?_; rintro _ w1 ⟨rfl, hb⟩; have HA1 := Lib.hid (HA0.out.below hb); clear hb) | (go_at_call 61; refine (HSH.out _ HA1.out.fr).mono ?_; rintro _ w2 ⟨rfl, hb⟩; have HA2 := Lib.hid (HA1.out.below hb); clear hb) | (go_at_call 19; refine (awake_any _).mono ?_; rintro _ w3 ⟨rfl, hb⟩; have HA3 := Lib.hid (HA2.out.below hb); clear hb))
    go_ret
    exact ⟨rfl, HA3.out.fr⟩
  have hf := HRB.out rfl
  have hok := okM_of hf
  have hnw := hok.nw
  have hnr := hok.nr
  obtain ⟨hn11, hys⟩ := HSB.out rfl
  have kn1 : n ≤ 100000 := by omega
  have HYB : Hid (∀ k, k < n → (Y k).nl ≤ 100000 ∧ (Y k).nc ≤ 100000) := fun k hk => by have := hys k hk; omega
  have e7 : ((c : Int) % 400) = ((c % 400 : Nat) : Int) := rfl
  obtain ⟨q, hq⟩ : ∃ q, q = c % 400 := ⟨_, rfl⟩
  rw [← hq] at e7
  have q7 : q < 400 := by rw [hq]; exact Nat.mod_lt _ (by decide)
  have e8 : ((d : Int) % 8) = ((d % 8 : Nat) : Int) := rfl
  obtain ⟨r, hr⟩ : ∃ r, r = d % 8 := ⟨_, rfl⟩
  rw [← hr] at e8
  have q8 : r < 8 := by rw [hr]; exact Nat.mod_lt _ (by decide)
  have HMC := Lib.hid (fun W (hW : Below w.heap.size w W) => mapC_any x m W (HMP.out.below hW) (by omega) (by omega))
  have HPC := Lib.hid (fun W (hW : Below w.heap.size w W) => planC_any a n cap U Y W (HP.out.below hW) kn1 HYB.out)
  have HF1 := Lib.hid (fun (y : MV) W hW => fewest_pl hok hf y (lim := (q : Int)) (by omega) W hW)
  have HPL := Lib.hid (fun (y : MV) W hW => plan_pl hok hf y (lim := 10000) (by omega) W hW)
  have HLS := Lib.hid (fun (y : MV) W hW => least_pl hok hf y (k := 1 + (r : Int)) (by omega) W hW)
  have HPP : Hid (∀ many, (dvW m (q : Int) = [] ∨ many < ((dvW m (q : Int)).length : Int)) → ∀ (y : MV) (va : Option Addr) (vc : Nat) V W, MpIn W y m → PlIn W (.slice va n vc) n V Y → Calls Try.prog 64 #[.agg #[.slice y.wa m.nw y.wc, .slice y.ra m.nr y.rc], .slice va n vc, .int .i64 (q : Int), .int .i64 many] W fun e w' => e = .returned (.bool false) ∧ Below W.heap.size W w') := fun many hm y va vc V W h1 h2 => (ProvePlan_any y m va n vc V Y (q : Int) many W h1 h2 kn1 HYB.out (by omega) (by omega)).mono (by
    rintro e w' ⟨rfl, hb⟩
    refine ⟨?_, hb⟩
    cases hpv : proveB m Y n (q : Int) many
    · rfl
    · obtain ⟨h3, h4⟩ := prove_few hok hpv
      rcases hm with h | h
      · exact absurd h h3
      · omega)
  have HFA : Hid (1048576 ≤ lowL m m.nw → lstX m = 7 ∧ planX m 10000 = 9) := fun h => ⟨if_pos h, planX_nil (low_none hok (by omega) h)⟩
  obtain ⟨lt, hlt⟩ : ∃ lt, lstT m (1 + (r : Int)) = lt := ⟨_, rfl⟩
  have HNF : Hid (lowL m m.nw < 1048576 → lstX m = 0 ∧ 0 ≤ lt ∧ lt ≤ 3550 ∧ planX m lt = 0 ∧ ((dvW m lt).length : Int) ≤ 1 + (r : Int) ∧ (1 ≤ lt → planX m (lt - 1) = 9 ∨ planX m (lt - 1) = 0 ∧ 1 + (r : Int) < ((dvW m (lt - 1)).length : Int))) := fun h => by
    have e : lt = lstV m (1 + (r : Int)) := by rw [← hlt]; exact if_neg (by omega)
    obtain ⟨s1, s2, _, s4, s5⟩ := lst_spec hok (k := 1 + (r : Int)) (by omega) (by omega)
    rw [← e] at s1 s2 s4 s5
    unfold enG at s1
    rw [decide_eq_true_eq] at s1
    refine ⟨if_neg (by omega), s4, s5, planX_ne s1.1, s1.2, fun h1 => ?_⟩
    by_cases hd : dvW m (lt - 1) = []
    · exact .inl (planX_nil hd)
    · refine .inr ⟨planX_ne hd, ?_⟩
      by_cases hl : ((dvW m (lt - 1)).length : Int) ≤ 1 + (r : Int)
      · have := s2 (lt - 1) (by unfold enG; exact decide_eq_true ⟨hd, hl⟩)
        omega
      · omega
  have HF2 : Hid (∀ (y : MV) W, MpIn W y m → Calls Try.prog 43 #[.agg #[.slice y.wa m.nw y.wc, .slice y.ra m.nr y.rc], .int .i64 lt] W fun e w' => e = .returned (.tuple #[.int .i64 ((dvW m lt).length : Int), .int .i64 (planX m lt)]) ∧ Below W.heap.size W w') := fun y W hW => by
    have hb : 0 ≤ lt ∧ lt ≤ 10000 := by
      rw [← hlt]
      unfold lstT
      by_cases h : 1048576 ≤ lowL m m.nw
      · rw [if_pos h]; omega
      · rw [if_neg h]
        have := lst_spec hok (k := 1 + (r : Int)) (by omega) (by omega)
        omega
    exact fewest_pl hok hf y hb W hW
  have HF3 : Hid (1 ≤ lt → ∀ (y : MV) W, MpIn W y m → Calls Try.prog 43 #[.agg #[.slice y.wa m.nw y.wc, .slice y.ra m.nr y.rc], .int .i64 (lt - 1)] W fun e w' => e = .returned (.tuple #[.int .i64 ((dvW m (lt - 1)).length : Int), .int .i64 (planX m (lt - 1))]) ∧ Below W.heap.size W w') := fun h1 y W hW => by
    have hb : lt ≤ 10000 := by
      rw [← hlt]
      unfold lstT
      by_cases h : 1048576 ≤ lowL m m.nw
      · rw [if_pos h]; omega
      · rw [if_neg h]
        have := lst_spec hok (k := 1 + (r : Int)) (by omega) (by omega)
        omega
    exact fewest_pl hok hf y ⟨by omega, by omega⟩ W hW
  rw [hlt] at HLS
  obtain ⟨D, hD⟩ : ∃ D, dvW m (q : Int) = D := ⟨_, rfl⟩
  have HPX : Hid ((D = [] → planX m (q : Int) = 9) ∧ (D ≠ [] → planX m (q : Int) = 0)) := by rw [← hD]; exact ⟨planX_nil, planX_ne⟩
  have HDL : Hid (D.length ≤ 8) := by rw [← hD]; have := dvW_len hok (q : Int); show _ ≤ _; omega
  rw [hD] at HF1 HPP
  clear hlt hD hq hr hok hf HRB HSB hys
  generalize planX m (q : Int) = px at *
  obtain ⟨lx, hlx⟩ : ∃ lx, lstX m = lx := ⟨_, rfl⟩
  rw [hlx] at HLS HFA HNF
  clear hlx
  go_wp2_with fail
  refine (HRE.out _ HA0.out.fr).mono ?_
  rintro _ w1 ⟨rfl, hb⟩
  have HA1 := Lib.hid (HA0.out.below hb)
  clear hb HA0 c0 c1
  go_wp2_with fail
  refine (HSH.out _ HA1.out.fr).mono ?_
  rintro _ w1 ⟨rfl, hb⟩
  have HA1a := Lib.hid (HA1.out.below hb)
  have e0 := HA1a.out.cell (.head _) 0
  have e1 := HA1a.out.cell (.head _) 1
  clear hb HA1 
  go_wp2_with fail
  rw [e7, e8]
  refine (HMC.out _ HA1a.out.fr).mono ?_
  rintro _ w2 ⟨y2, rfl, hm, hb⟩
  have HA2 := Lib.hid (HA1a.out.below hb)
  have HM2 := Lib.hid (hm)
  clear hb HA1a hm e0 e1
  go_wp2_with fail
  refine (HF1.out y2 _ HM2.out).mono ?_
  rintro _ w3 ⟨rfl, hb⟩
  have HA3 := Lib.hid (HA2.out.below hb)
  have e0 := HA3.out.cell (.head _) 0
  have e1 := HA3.out.cell (.head _) 1
  clear hb HA2 HM2
  by_cases hd0 : D = []
  · have hpx := HPX.out.1 hd0
    subst hpx
    have HPQ := Lib.hid (HPP.out 98 (.inl hd0))
    clear HPP HPX hd0
    go_wp2_with fail
    refine (HMC.out _ HA3.out.fr).mono ?_
    rintro _ w4 ⟨y4, rfl, hm, hb⟩
    have HA4 := Lib.hid (HA3.out.below hb)
    have HM4 := Lib.hid (hm)
    clear hb HA3 hm e0 e1
    go_wp2_with fail
    refine (HPC.out _ HA4.out.fr).mono ?_
    rintro _ w5 ⟨va, vc, V, rfl, hpo, hb⟩
    have HA5 := Lib.hid (HA4.out.below hb)
    have HM5 := Lib.hid (HM4.out.below hb)
    have HP5 := Lib.hid (hpo.pl)
    clear hb HA4 hpo HM4
    go_wp2_with fail
    refine (HPQ.out y4 va vc V _ HM5.out HP5.out).mono ?_
    rintro _ w6 ⟨rfl, hb⟩
    have HA6 := Lib.hid (HA5.out.below hb)
    have e0 := HA6.out.cell (.head _) 0
    have e1 := HA6.out.cell (.head _) 1
    clear hb HA5 HM5 HP5
    go_wp2_with fail
    refine (HMC.out _ HA6.out.fr).mono ?_
    rintro _ w7 ⟨y7, rfl, hm, hb⟩
    have HA7 := Lib.hid (HA6.out.below hb)
    have HM7 := Lib.hid (hm)
    clear hb HA6 hm e0 e1
    go_wp2_with fail
    refine (HLS.out y7 _ HM7.out).mono ?_
    rintro _ w8 ⟨rfl, hb⟩
    have HA8 := Lib.hid (HA7.out.below hb)
    have e0 := HA8.out.cell (.head _) 0
    have e1 := HA8.out.cell (.head _) 1
    clear hb HA7 HM7
    by_cases hfar : 1048576 ≤ lowL m m.nw
    · obtain ⟨hx, hpl⟩ := HFA.out hfar
      subst hx
      clear HFA HNF
      go_wp2_with fail
      refine (HMC.out _ HA8.out.fr).mono ?_
      rintro _ w9 ⟨y9, rfl, hm, hb⟩
      have HA9 := Lib.hid (HA8.out.below hb)
      have HM9 := Lib.hid (hm)
      clear hb HA8 hm e0 e1
      go_wp2_with fail
      refine (HPL.out y9 _ HM9.out).mono ?_
      rintro _ w10 ⟨hb, pa, pc, Q, rfl, _⟩
      have HA10 := Lib.hid (HA9.out.below hb)
      clear hb HA9
      rw [hpl]
      clear hpl
      go_wp2_with (go_at_call 19; refine (awake_any _).mono ?_; rintro _ wz ⟨rfl, hb⟩; have HZ := Lib.hid (HA10.out.below hb); clear hb)
      go_ret
      exact ⟨rfl, HZ.out.fr⟩
    obtain ⟨hx, ht0, htb, hg0, hgk, hz⟩ := HNF.out (by omega)
    subst hx
    have HG0 := Lib.hid hg0
    have HZZ := Lib.hid hz
    clear HFA HNF hg0 hz
    go_wp2_with fail
    refine (HMC.out _ HA8.out.fr).mono ?_
    rintro _ w9 ⟨y9, rfl, hm, hb⟩
    have HA9 := Lib.hid (HA8.out.below hb)
    have HM9 := Lib.hid (hm)
    clear hb HA8 hm e0 e1
    go_wp2_with fail
    refine (HF2.out y9 _ HM9.out).mono ?_
    rintro _ w10 ⟨rfl, hb⟩
    have HA10 := Lib.hid (HA9.out.below hb)
    have e0 := HA10.out.cell (.head _) 0
    have e1 := HA10.out.cell (.head _) 1
    clear hb HA9 HM9
    rw [HG0.out]
    by_cases h0 : lt = 0
    · subst h0
      go_wp2_with (go_at_call 19; refine (awake_any _).mono ?_; rintro _ wz ⟨rfl, hb⟩; have HZ := Lib.hid (HA10.out.below hb); clear hb)
      go_ret
      exact ⟨rfl, HZ.out.fr⟩
    have kz : (lt == 0) = false := by simpa using h0
    have HF3 := Lib.hid (HF3.out (by omega))
    go_wp2_with fail
    refine (HMC.out _ HA10.out.fr).mono ?_
    rintro _ w11 ⟨y11, rfl, hm, hb⟩
    have HA11 := Lib.hid (HA10.out.below hb)
    have HM11 := Lib.hid (hm)
    clear hb HA10 hm e0 e1
    go_wp2_with fail
    refine (HF3.out y11 _ HM11.out).mono ?_
    rintro _ w12 ⟨rfl, hb⟩
    have HA12 := Lib.hid (HA11.out.below hb)
    clear hb HA11 HM11
    rcases HZZ.out (by omega) with h9 | ⟨h9, hgt⟩
    · rw [h9]
      go_wp2_with (go_at_call 19; refine (awake_any _).mono ?_; rintro _ wz ⟨rfl, hb⟩; have HZ := Lib.hid (HA12.out.below hb); clear hb)
      go_ret
      exact ⟨rfl, HZ.out.fr⟩
    · rw [h9]
      go_wp2_with (go_at_call 19; refine (awake_any _).mono ?_; rintro _ wz ⟨rfl, hb⟩; have HZ := Lib.hid (HA12.out.below hb); clear hb)
      go_ret
      exact ⟨rfl, HZ.out.fr⟩
  have hpx := HPX.out.2 hd0
  subst hpx
  have HPQ := Lib.hid (HPP.out ((D.length : Int) - 1) (.inr (by omega)))
  have hdl : 0 < D.length := List.length_pos_iff.2 hd0
  have hdl2 : D.length ≤ 8 := HDL.out
  clear HPP HPX hd0
  go_wp2_with fail
  refine (HMC.out _ HA3.out.fr).mono ?_
  rintro _ w4 ⟨y4, rfl, hm, hb⟩
  have HA4 := Lib.hid (HA3.out.below hb)
  have HM4 := Lib.hid (hm)
  clear hb HA3 hm e0 e1
  go_wp2_with fail
  refine (HPC.out _ HA4.out.fr).mono ?_
  rintro _ w5 ⟨va, vc, V, rfl, hpo, hb⟩
  have HA5 := Lib.hid (HA4.out.below hb)
  have HM5 := Lib.hid (HM4.out.below hb)
  have HP5 := Lib.hid (hpo.pl)
  clear hb HA4 hpo HM4
  go_wp2_with fail
  refine (HPQ.out y4 va vc V _ HM5.out HP5.out).mono ?_
  rintro _ w6 ⟨rfl, hb⟩
  have HA6 := Lib.hid (HA5.out.below hb)
  have e0 := HA6.out.cell (.head _) 0
  have e1 := HA6.out.cell (.head _) 1
  clear hb HA5 HM5 HP5
  go_wp2_with fail
  refine (HMC.out _ HA6.out.fr).mono ?_
  rintro _ w7 ⟨y7, rfl, hm, hb⟩
  have HA7 := Lib.hid (HA6.out.below hb)
  have HM7 := Lib.hid (hm)
  clear hb HA6 hm e0 e1
  go_wp2_with fail
  refine (HLS.out y7 _ HM7.out).mono ?_
  rintro _ w8 ⟨rfl, hb⟩
  have HA8 := Lib.hid (HA7.out.below hb)
  have e0 := HA8.out.cell (.head _) 0
  have e1 := HA8.out.cell (.head _) 1
  clear hb HA7 HM7
  by_cases hfar : 1048576 ≤ lowL m m.nw
  · obtain ⟨hx, hpl⟩ := HFA.out hfar
    subst hx
    clear HFA HNF
    go_wp2_with fail
    refine (HMC.out _ HA8.out.fr).mono ?_
    rintro _ w9 ⟨y9, rfl, hm, hb⟩
    have HA9 := Lib.hid (HA8.out.below hb)
    have HM9 := Lib.hid (hm)
    clear hb HA8 hm e0 e1
    go_wp2_with fail
    refine (HPL.out y9 _ HM9.out).mono ?_
    rintro _ w10 ⟨hb, pa, pc, Q, rfl, _⟩
    have HA10 := Lib.hid (HA9.out.below hb)
    clear hb HA9
    rw [hpl]
    clear hpl
    go_wp2_with (go_at_call 19; refine (awake_any _).mono ?_; rintro _ wz ⟨rfl, hb⟩; have HZ := Lib.hid (HA10.out.below hb); clear hb)
    go_ret
    exact ⟨rfl, HZ.out.fr⟩
  obtain ⟨hx, ht0, htb, hg0, hgk, hz⟩ := HNF.out (by omega)
  subst hx
  have HG0 := Lib.hid hg0
  have HZZ := Lib.hid hz
  clear HFA HNF hg0 hz
  go_wp2_with fail
  refine (HMC.out _ HA8.out.fr).mono ?_
  rintro _ w9 ⟨y9, rfl, hm, hb⟩
  have HA9 := Lib.hid (HA8.out.below hb)
  have HM9 := Lib.hid (hm)
  clear hb HA8 hm e0 e1
  go_wp2_with fail
  refine (HF2.out y9 _ HM9.out).mono ?_
  rintro _ w10 ⟨rfl, hb⟩
  have HA10 := Lib.hid (HA9.out.below hb)
  have e0 := HA10.out.cell (.head _) 0
  have e1 := HA10.out.cell (.head _) 1
  clear hb HA9 HM9
  rw [HG0.out]
  by_cases h0 : lt = 0
  · subst h0
    go_wp2_with (go_at_call 19; refine (awake_any _).mono ?_; rintro _ wz ⟨rfl, hb⟩; have HZ := Lib.hid (HA10.out.below hb); clear hb)
    go_ret
    exact ⟨rfl, HZ.out.fr⟩
  have kz : (lt == 0) = false := by simpa using h0
  have HF3 := Lib.hid (HF3.out (by omega))
  go_wp2_with fail
  refine (HMC.out _ HA10.out.fr).mono ?_
  rintro _ w11 ⟨y11, rfl, hm, hb⟩
  have HA11 := Lib.hid (HA10.out.below hb)
  have HM11 := Lib.hid (hm)
  clear hb HA10 hm e0 e1
  go_wp2_with fail
  refine (HF3.out y11 _ HM11.out).mono ?_
  rintro _ w12 ⟨rfl, hb⟩
  have HA12 := Lib.hid (HA11.out.below hb)
  clear hb HA11 HM11
  rcases HZZ.out (by omega) with h9 | ⟨h9, hgt⟩
  · rw [h9]
    go_wp2_with (go_at_call 19; refine (awake_any _).mono ?_; rintro _ wz ⟨rfl, hb⟩; have HZ := Lib.hid (HA12.out.below hb); clear hb)
    go_ret
    exact ⟨rfl, HZ.out.fr⟩
  · rw [h9]
    go_wp2_with (go_at_call 19; refine (awake_any _).mono ?_; rintro _ wz ⟨rfl, hb⟩; have HZ := Lib.hid (HA12.out.below hb); clear hb)
    go_ret
    exact ⟨rfl, HZ.out.fr⟩
end Go.Proofs.Ytpnkgjkoophckaa
