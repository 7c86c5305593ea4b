/- Walk: WalkFaults' walk. By hand. -/
import Derived.Test.YtpnkgjkoophckaaPF
namespace Go.Proofs.Ytpnkgjkoophckaa
open Go.RowKit Go.Shelf

theorem Faults_un (x : MV) (m : Mp) (a : Option Addr) (n cap : Nat) (U : Nat → LV) (Y : Nat → Wl) (lim : Int) (w : World) (hm : MpIn w x m) (h : PlIn w (.slice a n cap) n U Y) (hn : n ≤ 100000) (hy : ∀ k, k < n → (Y k).nl ≤ 100000 ∧ (Y k).nc ≤ 100000) (hnw : m.nw ≤ 100000) (hnr : m.nr ≤ 100000) :
    Calls Try.prog 62 #[.agg #[.slice x.wa m.nw x.wc, .slice x.ra m.nr x.rc], .slice a n cap, .int .i64 lim] w fun e w' => ∃ a1 n1 c1 a2 n2 c2 a3 n3 c3, e = .returned (.tuple #[.slice a1 n1 c1, .slice a2 n2 c2, .slice a3 n3 c3, .int .i64 (fltE m Y n lim)]) ∧ Hid (fltE m Y n lim ≠ 0 → n1 = 0 ∧ n2 = 0 ∧ n3 = 0) ∧
      Hid (fltE m Y n lim = 0 → (n1 = (misL Y n m.nw).length ∧ n2 = (twiL Y n m.nw).length ∧ n3 = (latL m Y lim n).length) ∧ IntsIn w' (.slice a1 n1 c1) n1 (zL (misL Y n m.nw)) ∧ IntsIn w' (.slice a2 n2 c2) n2 (zL (twiL Y n m.nw)) ∧ IntsIn w' (.slice a3 n3 c3) n3 (zL (latL m Y lim n))) ∧ Below w.heap.size w w' := by
  refine (Faults_any x m a n cap U Y lim w hm h hn hy hnw hnr).mono ?_
  rintro e w' ⟨hb, ⟨h1, rfl⟩ | ⟨h1, a1, c1, a2, c2, a3, c3, rfl, hr⟩⟩
  · exact ⟨none, 0, 0, none, 0, 0, none, 0, 0, rfl, fun _ => ⟨rfl, rfl, rfl⟩, fun h => absurd h h1, hb⟩
  · exact ⟨a1, _, c1, a2, _, c2, a3, _, c3, by rw [h1], fun h => absurd h1 h, fun _ => ⟨⟨rfl, rfl, rfl⟩, rfI hr (i := 0) rfl, rfI hr (i := 1) rfl, rfI hr (i := 2) rfl⟩, hb⟩
/-- The error of the law after some walks. -/
def wN (Y : Nat → Wl) (n j : Nat) : Int := if 8 < n then 3 else if allB (fun k => decide ((Y k).nl ≤ 64)) j = false then 3 else 0
theorem wN_zero (Y : Nat → Wl) (n : Nat) : wN Y n 0 = if 8 < n then 3 else 0 := rfl
theorem wN_succ (Y : Nat → Wl) (n j : Nat) : wN Y n (j + 1) = if 64 < (Y j).nl then 3 else wN Y n j := by
  unfold wN
  by_cases h8 : 8 < n
  · rw [if_pos h8, if_pos h8]; split <;> rfl
  rw [if_neg h8, if_neg h8]
  by_cases h : 64 < (Y j).nl
  · rw [if_pos h, if_pos (allB_false (Nat.lt_succ_self j) (decide_eq_false (by omega)))]
  · rw [if_neg h]
    cases h2 : allB (fun k => decide ((Y k).nl ≤ 64)) j
    · rw [if_pos rfl]
      rw [if_pos]
      cases h3 : allB (fun k => decide ((Y k).nl ≤ 64)) (j + 1)
      · rfl
      · rw [allB_true (fun q hq => allB_iff.1 h3 q (by omega))] at h2; cases h2
    · have h3 : allB (fun k => decide ((Y k).nl ≤ 64)) (j + 1) = true := allB_true fun q hq => by
        rcases Nat.lt_succ_iff_lt_or_eq.1 hq with hq | rfl
        · exact allB_iff.1 h2 q hq
        · exact decide_eq_true (by omega)
      rw [h3]
theorem wN_cases (Y : Nat → Wl) (n j : Nat) : wN Y n j = 0 ∨ wN Y n j = 3 := by
  unfold wN
  split
  · exact .inr rfl
  · split
    · exact .inr rfl
    · exact .inl rfl
theorem wN_plan {m : Mp} (ok : OkM m) (Y : Nat → Wl) (n : Nat) : (wN Y n n = 3 → planE m Y n = 3) ∧ (wN Y n n = 0 → planE m Y n = if isPlanB m Y n = true then 0 else 2) := by
  have hw : allB (fun k => decide (walkE m (Y k) = 0)) n = allB (fun k => isWalkB m (Y k)) n := by
    rw [Bool.eq_iff_iff, allB_iff, allB_iff]
    simp only [decide_eq_true_eq, isWalk_iff ok]
  unfold wN planE isPlanB
  by_cases h8 : 8 < n
  · rw [if_pos h8, if_pos h8]; exact ⟨fun _ => rfl, fun h => absurd h (by decide)⟩
  rw [if_neg h8, if_neg h8, decide_eq_true (show n ≤ 8 by omega), Bool.and_true, hw]
  by_cases h2 : allB (fun k => decide ((Y k).nl ≤ 64)) n = false
  · rw [if_pos h2, if_pos h2]; exact ⟨fun _ => rfl, fun h => absurd h (by decide)⟩
  · rw [if_neg h2, if_neg h2]; exact ⟨fun h => absurd h (by decide), fun _ => rfl⟩
set_option maxRecDepth 100000 in
set_option maxHeartbeats 32000000 in
theorem walkFaults_walk (x : MV) (m : Mp) (a : Option Addr) (n cap : Nat) (U : Nat → LV) (Y : Nat → Wl) (lim many : Int) (w : World) (h : MpLaw w x m) (hp : PlIn w (.slice a n cap) n U Y) :
    Calls Try.prog 14 #[.agg #[.slice x.wa m.nw x.wc, .slice x.ra m.nr x.rc], .slice a n cap, .int .i64 lim, .int .i64 many] w fun e w' => e = .returned (.bool true) ∧ Below w.heap.size w w' := by
  have HTH := Lib.hid (fun W => thin_any x m.nw m.nr W)
  have HSH := Lib.hid (fun W (hW : Below w.heap.size w W) => short_any a n cap U Y W (hp.below hW))
  have HMP := Lib.hid h.l
  have HP := Lib.hid hp
  obtain ⟨tb, htb⟩ : ∃ tb, tb = (decide (m.nw ≤ 11) && decide (m.nr ≤ 24)) := ⟨_, rfl⟩
  have HTB : Hid (tb = true → m.nw ≤ 11 ∧ m.nr ≤ 24) := fun e => by rw [htb] at e; simp only [Bool.and_eq_true, decide_eq_true_eq] at e; exact e
  rw [← htb] at HTH
  obtain ⟨sb, hsb⟩ : ∃ sb, sb = shortB Y n := ⟨_, rfl⟩
  have HSB : Hid (sb = true → n ≤ 11 ∧ ∀ k, k < n → (Y k).nl ≤ 70 ∧ (Y k).nc ≤ 12) := fun e => by rw [hsb] at e; exact shortB_iff.1 e
  rw [← hsb] at HSH
  clear htb hsb h hp
  have HA0 : Hid (BF w (w.alloc (.cells #[.slice x.wa m.nw x.wc, .slice x.ra m.nr x.rc] 25)) [(w.heap.size, #[.slice x.wa m.nw x.wc, .slice x.ra m.nr x.rc], 25)]) := (BF.base w).alloc _ _
  go_enter Try.func14, Try.ntmps14
  go_upto_region 1 with fail
  generalize w.alloc (.cells #[.slice x.wa m.nw x.wc, .slice x.ra m.nr x.rc] 25) = w0 at *
  have c0 := HA0.out.cell (.head _) 0
  have c1 := HA0.out.cell (.head _) 1
  cases tb
  · go_wp2_with (first | (go_at_call 18; refine (HTH.out _).mono ?_; rintro _ w1 ⟨rfl, hb⟩; have HA1 := Lib.hid (HA0.out.below hb); clear hb) | (go_at_call 19; refine (awake_any _).mono ?_; rintro _ w9 ⟨rfl, hb⟩; have HZ := Lib.hid (HA1.out.below hb); clear hb))
    go_ret
    exact ⟨rfl, HZ.out.fr⟩
  cases sb
  · go_wp2_with (first | (go_at_call 18; refine (HTH.out _).mono ?_; rintro _ w1 ⟨rfl, hb⟩; have HA1 := Lib.hid (HA0.out.below hb); clear hb) | (go_at_call 61; refine (HSH.out _ HA1.out.fr).mono ?_; rintro _ w2 ⟨rfl, hb⟩; have HA2 := Lib.hid (HA1.out.below hb); clear hb) | (go_at_call 19; refine (awake_any _).mono ?_; rintro _ w9 ⟨rfl, hb⟩; have HZ := Lib.hid (HA2.out.below hb); clear hb))
    go_ret
    exact ⟨rfl, HZ.out.fr⟩
  obtain ⟨hw11, hr24⟩ := HTB.out rfl
  obtain ⟨hn11, hys⟩ := HSB.out rfl
  have HYS := Lib.hid hys
  have HYB : Hid (∀ k, k < n → (Y k).nl ≤ 100000 ∧ (Y k).nc ≤ 100000) := fun k hk => by have := hys k hk; omega
  have kw1 : m.nw ≤ 100000 := by omega
  have kr1 : m.nr ≤ 100000 := by omega
  have kn1 : n ≤ 100000 := by omega
  have HMC := Lib.hid (fun W (hW : Below w.heap.size w W) => mapC_any x m W (HMP.out.below hW) kw1 kr1)
  have HPC := Lib.hid (fun W (hW : Below w.heap.size w W) => planC_any a n cap U Y W (HP.out.below hW) kn1 HYB.out)
  have HFU := Lib.hid (fun y (va : Option Addr) (vc : Nat) V W (hm : MpIn W y m) (h : PlIn W (.slice va n vc) n V Y) => Faults_un y m va n vc V Y lim W hm h kn1 HYB.out kw1 kr1)
  have HPP := Lib.hid (fun y (va : Option Addr) (vc : Nat) V W (hm : MpIn W y m) (h : PlIn W (.slice va n vc) n V Y) => ProvePlan_any y m va n vc V Y lim many W hm h kn1 HYB.out kw1 kr1)
  have HFT := Lib.hid (fun W (hW : Below w.heap.size w W) => lfault_any x m W (HMP.out.below hW) kw1 kr1)
  have HIP := Lib.hid (fun W (hW : Below w.heap.size w W) => rIsPlan_any x m a n cap U Y W (HMP.out.below hW) (HP.out.below hW) kn1 HYB.out kw1 kr1)
  have HIN := Lib.hid (fun W => rIn_any lim 0 10000 W)
  have HPR : Hid (proveB m Y n lim many = (decide (fltE m Y n lim = 0) && (decide ((misL Y n m.nw).length + (twiL Y n m.nw).length + (latL m Y lim n).length = 0) && decide ((n : Int) ≤ many)))) := rfl
  have HTE : Hid (fltE m Y n lim = if m.fault ≠ 0 then m.fault else if planE m Y n ≠ 0 then planE m Y n else if inB lim 0 10000 = true then 0 else 2) := rfl
  have HWP : Hid (m.fault = 0 → (wN Y n n = 3 → planE m Y n = 3) ∧ (wN Y n n = 0 → planE m Y n = if isPlanB m Y n = true then 0 else 2)) := fun e => wN_plan (okM_of e) Y n
  have HOK : Hid (m.fault = 0 → OkM m) := okM_of
  have HPO : Hid (planE m Y n = 0 → n ≤ 8 ∧ ∀ k, k < n → walkE m (Y k) = 0) := planE_ok
  have HLE : Hid ((misL Y n m.nw).length ≤ m.nw ∧ (twiL Y n m.nw).length ≤ m.nw ∧ (latL m Y lim n).length ≤ n) := ⟨misL_len _ _ _, twiL_len _ _ _, latL_len _ _ _ _⟩
  have HRF : Hid (OkM m → n ≤ 8 → (∀ k, k < n → walkE m (Y k) = 0) → ∀ W, Below w.heap.size w W → Calls Try.prog 49 #[.agg #[.slice x.wa m.nw x.wc, .slice x.ra m.nr x.rc], .slice a n cap, .int .i64 lim] W fun e w' => ∃ a1 c1 a2 c2 a3 c3, e = .returned (.tuple #[.slice a1 (misL Y n m.nw).length c1, .slice a2 (twiL Y n m.nw).length c2, .slice a3 (latL m Y lim n).length c3]) ∧ Rws W.heap.size w' [RF a1 c1 (misL Y n m.nw), RF a2 c2 (twiL Y n m.nw), RF a3 c3 (latL m Y lim n)] ∧ Below W.heap.size W w') := fun ok h8 hwk W hW => rFaults_any ok x a n cap U Y lim W (HMP.out.below hW) (HP.out.below hW) hwk h8 HYB.out
  generalize proveB m Y n lim many = pr at *
  generalize fltE m Y n lim = te at *
  generalize m.fault = ft at *
  generalize planE m Y n = pe at *
  generalize isPlanB m Y n = pb at *
  generalize inB lim 0 10000 = ib at *
  generalize misL Y n m.nw = ML at *
  generalize twiL Y n m.nw = TL at *
  generalize latL m Y lim n = LL at *
  go_wp2_with fail
  refine (HTH.out _).mono ?_
  rintro _ w1 ⟨rfl, hb⟩
  have HA1 := Lib.hid (HA0.out.below hb)
  clear hb
  go_wp2_with fail
  refine (HSH.out _ HA1.out.fr).mono ?_
  rintro _ w2 ⟨rfl, hb⟩
  have HA2 := Lib.hid (HA1.out.below hb)
  have d0 := HA2.out.cell (.head _) 0
  have d1 := HA2.out.cell (.head _) 1
  clear hb HA0 HA1 c0 c1 HTH HSH HTB HSB
  go_wp2_with fail
  refine (HMC.out _ HA2.out.fr).mono ?_
  rintro _ w3 ⟨y3, rfl, hm3, hb⟩
  have HA3 := Lib.hid (HA2.out.below hb)
  have HM3 := Lib.hid hm3
  clear hb hm3 HA2 d0 d1
  go_wp2_with fail
  refine (HPC.out _ HA3.out.fr).mono ?_
  rintro _ w4 ⟨pa4, pc4, V4, rfl, hp4, hb⟩
  have HA4 := Lib.hid (HA3.out.below hb)
  have HM4 := Lib.hid (HM3.out.below hb)
  have HP4 := Lib.hid hp4.pl
  clear hb hp4 HA3 HM3
  go_wp2_with fail
  refine (HFU.out y3 pa4 pc4 V4 _ HM4.out HP4.out).mono ?_
  rintro _ w5 ⟨a1, n1, c1, a2, n2, c2, a3, n3, c3, rfl, HF1, HF2, hb⟩
  have HA5 := Lib.hid (HA4.out.below hb)
  have d0 := HA5.out.cell (.head _) 0
  have d1 := HA5.out.cell (.head _) 1
  clear hb HA4 HM4 HP4 HFU
  go_wp2_with fail
  refine (HMC.out _ HA5.out.fr).mono ?_
  rintro _ w6 ⟨y6, rfl, hm6, hb⟩
  have HA6 := Lib.hid (HA5.out.below hb)
  have HM6 := Lib.hid hm6
  have HB6 := Lib.hid hb
  clear hb hm6 HA5 d0 d1
  go_wp2_with fail
  refine (HPC.out _ HA6.out.fr).mono ?_
  rintro _ w7 ⟨pa7, pc7, V7, rfl, hp7, hb⟩
  have HA7 := Lib.hid (HA6.out.below hb)
  have HM7 := Lib.hid (HM6.out.below hb)
  have HP7 := Lib.hid hp7.pl
  have HB7 := Lib.hid (below_step HB6.out hb)
  clear hb hp7 HA6 HM6 HB6
  go_wp2_with fail
  refine (HPP.out y6 pa7 pc7 V7 _ HM7.out HP7.out).mono ?_
  rintro _ w8 ⟨rfl, hb⟩
  have HA8 := Lib.hid (HA7.out.below hb)
  have HB8 := Lib.hid (below_step HB7.out hb)
  have d0 := HA8.out.cell (.head _) 0
  have d1 := HA8.out.cell (.head _) 1
  clear hb HA7 HM7 HP7 HB7 HPP HMC HPC
  go_wp2_with fail
  refine (HFT.out _ HA8.out.fr).mono ?_
  rintro _ w9 ⟨rfl, hb⟩
  have HA9 := Lib.hid (HA8.out.below hb)
  have HB9 := Lib.hid (below_step HB8.out hb)
  have e0 := HA9.out.cell (.head _) 0
  have e1 := HA9.out.cell (.head _) 1
  clear hb HA8 HB8 HFT d0 d1
  have HOUT : Hid (te ≠ 0 → pr = false ∧ n1 = 0 ∧ n2 = 0 ∧ n3 = 0) := fun h => by
    refine ⟨?_, HF1.out h⟩
    rw [HPR.out, decide_eq_false h]; rfl
  by_cases k1 : ft = 0
  case neg =>
    have kb : (ft == 0) = false := by simpa using k1
    have hte := HTE.out
    rw [if_pos k1] at hte
    obtain ⟨rfl, rfl, rfl, rfl⟩ := HOUT.out (by rw [hte]; exact k1)
    subst hte
    clear HTE HOUT HF1 HF2 HPR
    go_wp2_with (go_at_call 19; refine (awake_any _).mono ?_; rintro _ wz ⟨rfl, hb⟩; have HZ := Lib.hid (HA9.out.below hb); clear hb)
    go_ret
    exact ⟨rfl, HZ.out.fr⟩
  subst k1
  obtain ⟨hwp3, hwp0⟩ := HWP.out rfl
  have HW3 := Lib.hid hwp3
  have HW0 := Lib.hid hwp0
  have HOKM := Lib.hid (HOK.out rfl)
  have HTE2 : Hid (te = if pe ≠ 0 then pe else if ib = true then 0 else 2) := HTE.out
  have HWZ := Lib.hid (wN_zero Y n)
  have HWS := Lib.hid (wN_succ Y n)
  have HWC := Lib.hid (wN_cases Y n)
  clear HTE HWP hwp3 hwp0 HOK e0 e1
  generalize wN Y n = wn at *
  have HST : Hid (wn 0 = if 8 < n then 3 else 0) := HWZ.out
  clear HWZ
  by_cases h8 : 8 < n
  · have k8 : (8 : Int) < (n : Int) := by omega
    have hw3 : ∀ k, wn k = 3 := by
      intro k
      induction k with
      | zero => rw [HST.out, if_pos h8]
      | succ k ih => rw [HWS.out k, ih]; split <;> rfl
    have hte : te = 3 := by rw [HTE2.out, HW3.out (hw3 n)]; rfl
    obtain ⟨rfl, rfl, rfl, rfl⟩ := HOUT.out (by rw [hte]; decide)
    subst hte
    clear hw3 HTE2 HOUT HF1 HF2 HPR HW0 HW3 HST HWS HWC
    go_wp2_with fail
    go_loopw [14, 15] (fun s14 i wr => ∃ k : Nat, i = .int .i64 k ∧ k ≤ n ∧ s14 = .int .i64 3 ∧ BF w wr [(w.heap.size, #[.slice x.wa m.nw x.wc, .slice x.ra m.nr x.rc], 25)]) (fun _ i _ => n - (intOf i).toNat)
    case atStart => exact ⟨0, rfl, Nat.zero_le _, rfl, HA9.out⟩
    case round =>
      clear HA9
      obtain ⟨k, rfl, hk, rfl, hbf⟩ := hrel
      have HA9 := Lib.hid hbf
      clear hbf
      by_cases hlt : k < n
      · obtain ⟨b, off, rfl, hb, x0, x1⟩ := (HP.out.below HA9.out.fr).ps.at hlt
        have ki : (0 : Int) ≤ (k : Int) := by omega
        have kn : (k : Int) < (n : Int) := by omega
        by_cases h64 : 64 < (Y k).nl
        · have k64 : (64 : Int) < ((Y k).nl : Int) := by omega
          go_wp2_with fail
          go_roundw
          case rel => exact ⟨k + 1, by go_num, by omega, rfl, HA9.out⟩
          case measure => simp [intOf]; omega
        · have k64 : ¬ (64 : Int) < ((Y k).nl : Int) := by omega
          go_wp2_with fail
          go_roundw
          case rel => exact ⟨k + 1, by go_num, by omega, rfl, HA9.out⟩
          case measure => simp [intOf]; omega
      · obtain rfl : k = n := by omega
        go_wp2_with (go_at_call 19; refine (awake_any _).mono ?_; rintro _ wz ⟨rfl, hb⟩; have HZ := Lib.hid (HA9.out.below hb); clear hb)
        go_ret
        exact ⟨rfl, HZ.out.fr⟩
  have k8 : ¬ (8 : Int) < (n : Int) := by omega
  have HS0 : Hid (wn 0 = 0) := by unfold Hid; rw [HST.out, if_neg h8]
  clear HST
  go_wp2_with fail
  go_loopw [14, 15] (fun s14 i wr => ∃ k : Nat, i = .int .i64 k ∧ k ≤ n ∧ s14 = .int .i64 (wn k) ∧ wr = w9) (fun _ i _ => n - (intOf i).toNat)
  case atStart => exact ⟨0, rfl, Nat.zero_le _, by rw [HS0.out], rfl⟩
  case round =>
    obtain ⟨k, rfl, hk, rfl, rfl⟩ := hrel
    by_cases hlt : k < n
    · obtain ⟨b, off, rfl, hb, x0, x1⟩ := (HP.out.below HA9.out.fr).ps.at hlt
      have hws := HWS.out k
      have ki : (0 : Int) ≤ (k : Int) := by omega
      have kn : (k : Int) < (n : Int) := by omega
      by_cases h64 : 64 < (Y k).nl
      · have k64 : (64 : Int) < ((Y k).nl : Int) := by omega
        rw [if_pos h64] at hws
        have HWK := Lib.hid hws
        clear hws
        go_wp2_with fail
        go_roundw
        case rel => exact ⟨k + 1, by go_num, by omega, by rw [HWK.out], trivial⟩
        case measure => simp [intOf]; omega
      · have k64 : ¬ (64 : Int) < ((Y k).nl : Int) := by omega
        rw [if_neg h64] at hws
        have HWK := Lib.hid hws
        clear hws
        go_wp2_with fail
        go_roundw
        case rel => exact ⟨k + 1, by go_num, by omega, by rw [HWK.out], trivial⟩
        case measure => simp [intOf]; omega
    · obtain rfl : k = n := by omega
      rcases HWC.out k with e | e
      case inr =>
        have hpe := HW3.out e
        have hte : te = 3 := by rw [HTE2.out, hpe]; rfl
        obtain ⟨rfl, rfl, rfl, rfl⟩ := HOUT.out (by rw [hte]; decide)
        rw [e]
        subst hte
        clear hpe e HTE2 HOUT HF1 HF2 HPR HW0 HW3
        go_wp2_with (go_at_call 19; refine (awake_any _).mono ?_; rintro _ wz ⟨rfl, hb⟩; have HZ := Lib.hid (HA9.out.below hb); clear hb)
        go_ret
        exact ⟨rfl, HZ.out.fr⟩
      have hpe := HW0.out e
      rw [e]
      have e0 := HA9.out.cell (.head _) 0
      have e1 := HA9.out.cell (.head _) 1
      clear e HW0 HW3
      cases pb
      · have hte : te = 2 := by rw [HTE2.out, hpe]; rfl
        obtain ⟨rfl, rfl, rfl, rfl⟩ := HOUT.out (by rw [hte]; decide)
        subst hte
        clear hpe HTE2 HOUT HF1 HF2 HPR
        go_wp2_with (first | (go_at_call 48; refine (HIP.out _ HA9.out.fr).mono ?_; rintro _ wp ⟨rfl, hb⟩; have HAP := Lib.hid (HA9.out.below hb); clear hb) | (go_at_call 19; refine (awake_any _).mono ?_; rintro _ wz ⟨rfl, hb⟩; have HZ := Lib.hid (HAP.out.below hb); clear hb))
        go_ret
        exact ⟨rfl, HZ.out.fr⟩
      have hpe0 : pe = 0 := hpe
      clear hpe
      have HTE3 : Hid (te = if ib = true then 0 else 2) := by unfold Hid; rw [HTE2.out, hpe0]; rfl
      cases ib
      · have hte : te = 2 := HTE3.out
        obtain ⟨rfl, rfl, rfl, rfl⟩ := HOUT.out (by rw [hte]; decide)
        subst hte
        clear HTE2 HTE3 HOUT HF1 HF2 HPR hpe0
        go_wp2_with (first | (go_at_call 48; refine (HIP.out _ HA9.out.fr).mono ?_; rintro _ wp ⟨rfl, hb⟩; have HAP := Lib.hid (HA9.out.below hb); clear hb) | (go_at_call 24; refine (HIN.out _).mono ?_; rintro _ _ ⟨rfl, rfl⟩) | (go_at_call 19; refine (awake_any _).mono ?_; rintro _ wz ⟨rfl, hb⟩; have HZ := Lib.hid (HAP.out.below hb); clear hb))
        go_ret
        exact ⟨rfl, HZ.out.fr⟩
      have hte : te = 0 := HTE3.out
      subst hte
      obtain ⟨⟨rfl, rfl, rfl⟩, hi1, hi2, hi3⟩ := HF2.out rfl
      obtain ⟨h8, hwk⟩ := HPO.out hpe0
      have HRFW := Lib.hid (HRF.out HOKM.out h8 hwk)
      have HG0 := Lib.hid (hi1.below HB9.out)
      have HG1 := Lib.hid (hi2.below HB9.out)
      have HG2 := Lib.hid (hi3.below HB9.out)
      have hprr : pr = (decide (ML.length + TL.length + LL.length = 0) && decide ((k : Int) ≤ many)) := HPR.out
      have HPR2 := Lib.hid hprr
      have hle := HLE.out
      clear HTE2 HTE3 HOUT HF1 HF2 HPR hi1 hi2 hi3 hprr HRF HOKM HPO hwk hpe0 HLE
      go_wp2_with fail
      refine (HIP.out _ HA9.out.fr).mono ?_
      rintro _ wp ⟨rfl, hb⟩
      have HAP := Lib.hid (HA9.out.below hb)
      have HH0 := Lib.hid (HG0.out.below hb)
      have HH1 := Lib.hid (HG1.out.below hb)
      have HH2 := Lib.hid (HG2.out.below hb)
      have f0 := HAP.out.cell (.head _) 0
      have f1 := HAP.out.cell (.head _) 1
      clear hb HA9 HB9 HG0 HG1 HG2 e0 e1
      go_wp2_with (go_at_call 24; refine (HIN.out _).mono ?_; rintro _ _ ⟨rfl, rfl⟩)
      refine (HRFW.out _ HAP.out.fr).mono ?_
      rintro _ wr ⟨b1, d1, b2, d2, b3, d3, rfl, hrw, hb⟩
      have HAR := Lib.hid (HAP.out.below hb)
      have HI0 := Lib.hid (HH0.out.below hb)
      have HI1 := Lib.hid (HH1.out.below hb)
      have HI2 := Lib.hid (HH2.out.below hb)
      have HX0 := Lib.hid (rfI hrw (i := 0) rfl)
      have HX1 := Lib.hid (rfI hrw (i := 1) rfl)
      have HX2 := Lib.hid (rfI hrw (i := 2) rfl)
      have HL0 : Hid (ML.length ≤ 100000) := by show ML.length ≤ 100000; omega
      have HL1 : Hid (TL.length ≤ 100000) := by show TL.length ≤ 100000; omega
      have HL2 : Hid (LL.length ≤ 100000) := by show LL.length ≤ 100000; omega
      have T0 : True := trivial
      clear hb hrw HAP HH0 HH1 HH2 f0 f1 HRFW
      by_cases hs : ML.length + TL.length + LL.length = 0
      · have ks : ((ML.length : Int) + (TL.length : Int) + (LL.length : Int) == 0) = true := by simp; omega
        by_cases hm : (k : Int) ≤ many
        · have hpr : pr = true := by rw [HPR2.out, decide_eq_true hs, decide_eq_true hm]; rfl
          subst hpr
          clear HPR2 hs
          go_wp2_with (first | (go_at_call 29; have qq := T0; clear qq T0; refine (ints_eq a1 b1 ML.length c1 d1 (zL ML) (zL ML) _ (HL0.out) (HI0.out.below (Below.refl _ _)) (HX0.out.below (Below.refl _ _)) (fun _ _ => rfl)).mono ?_; rintro _ wi0 ⟨rfl, hb⟩; have Hwi0 := Lib.hid (below_step (Below.refl _ _) hb); clear hb; have T1 : True := trivial) | (go_at_call 29; have qq := T1; clear qq T1; refine (ints_eq a2 b2 TL.length c2 d2 (zL TL) (zL TL) _ (HL1.out) (HI1.out.below Hwi0.out) (HX1.out.below Hwi0.out) (fun _ _ => rfl)).mono ?_; rintro _ wi1 ⟨rfl, hb⟩; have Hwi1 := Lib.hid (below_step Hwi0.out hb); clear hb; have T2 : True := trivial) | (go_at_call 29; have qq := T2; clear qq T2; refine (ints_eq a3 b3 LL.length c3 d3 (zL LL) (zL LL) _ (HL2.out) (HI2.out.below Hwi1.out) (HX2.out.below Hwi1.out) (fun _ _ => rfl)).mono ?_; rintro _ wi2 ⟨rfl, hb⟩; have Hwi2 := Lib.hid (below_step Hwi1.out hb); clear hb; have T3 : True := trivial) | (go_at_call 19; refine (awake_any _).mono ?_; rintro _ wz ⟨rfl, hb⟩; have HZ := Lib.hid (HAR.out.below (below_step Hwi2.out hb)); clear hb))
          go_ret
          exact ⟨rfl, HZ.out.fr⟩
        · have hpr : pr = false := by rw [HPR2.out, decide_eq_false hm, Bool.and_false]
          subst hpr
          clear HPR2 hs
          go_wp2_with (first | (go_at_call 29; have qq := T0; clear qq T0; refine (ints_eq a1 b1 ML.length c1 d1 (zL ML) (zL ML) _ (HL0.out) (HI0.out.below (Below.refl _ _)) (HX0.out.below (Below.refl _ _)) (fun _ _ => rfl)).mono ?_; rintro _ wi0 ⟨rfl, hb⟩; have Hwi0 := Lib.hid (below_step (Below.refl _ _) hb); clear hb; have T1 : True := trivial) | (go_at_call 29; have qq := T1; clear qq T1; refine (ints_eq a2 b2 TL.length c2 d2 (zL TL) (zL TL) _ (HL1.out) (HI1.out.below Hwi0.out) (HX1.out.below Hwi0.out) (fun _ _ => rfl)).mono ?_; rintro _ wi1 ⟨rfl, hb⟩; have Hwi1 := Lib.hid (below_step Hwi0.out hb); clear hb; have T2 : True := trivial) | (go_at_call 29; have qq := T2; clear qq T2; refine (ints_eq a3 b3 LL.length c3 d3 (zL LL) (zL LL) _ (HL2.out) (HI2.out.below Hwi1.out) (HX2.out.below Hwi1.out) (fun _ _ => rfl)).mono ?_; rintro _ wi2 ⟨rfl, hb⟩; have Hwi2 := Lib.hid (below_step Hwi1.out hb); clear hb; have T3 : True := trivial) | (go_at_call 19; refine (awake_any _).mono ?_; rintro _ wz ⟨rfl, hb⟩; have HZ := Lib.hid (HAR.out.below (below_step Hwi2.out hb)); clear hb))
          go_ret
          exact ⟨ret_bool (by simp; omega), HZ.out.fr⟩
      · have ks : ((ML.length : Int) + (TL.length : Int) + (LL.length : Int) == 0) = false := by simp; omega
        have hpr : pr = false := by rw [HPR2.out, decide_eq_false hs]; rfl
        subst hpr
        clear HPR2 hs
        go_wp2_with (first | (go_at_call 29; have qq := T0; clear qq T0; refine (ints_eq a1 b1 ML.length c1 d1 (zL ML) (zL ML) _ (HL0.out) (HI0.out.below (Below.refl _ _)) (HX0.out.below (Below.refl _ _)) (fun _ _ => rfl)).mono ?_; rintro _ wi0 ⟨rfl, hb⟩; have Hwi0 := Lib.hid (below_step (Below.refl _ _) hb); clear hb; have T1 : True := trivial) | (go_at_call 29; have qq := T1; clear qq T1; refine (ints_eq a2 b2 TL.length c2 d2 (zL TL) (zL TL) _ (HL1.out) (HI1.out.below Hwi0.out) (HX1.out.below Hwi0.out) (fun _ _ => rfl)).mono ?_; rintro _ wi1 ⟨rfl, hb⟩; have Hwi1 := Lib.hid (below_step Hwi0.out hb); clear hb; have T2 : True := trivial) | (go_at_call 29; have qq := T2; clear qq T2; refine (ints_eq a3 b3 LL.length c3 d3 (zL LL) (zL LL) _ (HL2.out) (HI2.out.below Hwi1.out) (HX2.out.below Hwi1.out) (fun _ _ => rfl)).mono ?_; rintro _ wi2 ⟨rfl, hb⟩; have Hwi2 := Lib.hid (below_step Hwi1.out hb); clear hb; have T3 : True := trivial) | (go_at_call 19; refine (awake_any _).mono ?_; rintro _ wz ⟨rfl, hb⟩; have HZ := Lib.hid (HAR.out.below (below_step Hwi2.out hb)); clear hb))
        go_ret
        exact ⟨rfl, HZ.out.fr⟩
end Go.Proofs.Ytpnkgjkoophckaa
