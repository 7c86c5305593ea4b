/- Walk: WalkTours' walk. Printed by gen_vu.py. -/
import Derived.Test.YtpnkgjkoophckaaVT
namespace Go.Proofs.Ytpnkgjkoophckaa
open Go.RowKit Go.Shelf Go.Maps

def BwS (A B : World) : Prop := Below A.heap.size A B
theorem BwS.below {A B C : World} (h : BwS A B) (hb : Below B.heap.size B C) : BwS A C := below_step h hb
theorem tour_sh (x : MV) (m : Mp) (a : Option Addr) (n cap : Nat) (z : Nat → Int) (w : World) (h : MpIn w x m) (hz : IntsIn w (.slice a n cap) n z) (hnw : m.nw ≤ 100000) (hnr : m.nr ≤ 100000) (hn : n ≤ 100000) :
    Calls Try.prog 20 #[.agg #[.slice x.wa m.nw x.wc, .slice x.ra m.nr x.rc], .slice a n cap] w fun e w' => Below w.heap.size w w' ∧ ∃ (v : LV) (n1 n2 : Nat) (tv : Int), e = .returned (.tuple #[.agg #[.slice v.ra n1 v.rc, .slice v.ca n2 v.cc], .int .i64 tv, .int .i64 (tourE m z n)]) ∧ (tourE m z n ≠ 0 → n1 = 0 ∧ n2 = 0 ∧ tv = 0) ∧ (tourE m z n = 0 → n1 = (tourL m (orL z n)).length ∧ n2 = (plc (orL z n)).length ∧ tv = lgM m (orL z n) ∧ WlIn w' v (tourY m (orL z n))) := by
  refine (Tour_any x m a n cap z w h hz hnw hnr hn).mono ?_
  rintro e w' ⟨hb, h⟩
  refine ⟨hb, ?_⟩
  rcases h with ⟨h0, rfl⟩ | ⟨h0, y, rfl, ho⟩
  · exact ⟨⟨none, 0, none, 0⟩, 0, 0, 0, rfl, fun _ => ⟨rfl, rfl, rfl⟩, fun e => absurd e h0⟩
  · exact ⟨y, _, _, _, by rw [h0], fun e => absurd h0 e, fun _ => ⟨rfl, rfl, rfl, ⟨nL_ints (Rws.own ho 0 _ rfl), nL_ints (Rws.own ho 1 _ rfl)⟩⟩⟩
set_option maxRecDepth 100000 in
set_option maxHeartbeats 32000000 in
theorem walkTours_walk (x : MV) (m : Mp) (a : Option Addr) (n cap : Nat) (z : Nat → Int) (w : World) (h : MpLaw w x m) (hz : IntsIn w (.slice a n cap) n z) (hn : n ≤ maxLen) :
    Calls Try.prog 3 #[.agg #[.slice x.wa m.nw x.wc, .slice x.ra m.nr x.rc], .slice a n cap] w fun e w' => e = .returned (.bool true) ∧ Below w.heap.size w w' := by
  have hbw := h.bw; have hbr := h.br
  unfold maxLen at hbw hbr hn
  have HTH := Lib.hid (fun W => thin_any x m.nw m.nr W)
  have HMP := Lib.hid h.l
  have HZI := Lib.hid hz
  obtain ⟨tb, htb⟩ : ∃ tb, tb = (decide (m.nw ≤ 11) && decide (m.nr ≤ 24)) := ⟨_, rfl⟩
  have HTB : Hid (tb = true → m.nw ≤ 11 ∧ m.nr ≤ 24) := fun e => by rw [htb] at e; simp only [Bool.and_eq_true, decide_eq_true_eq] at e; exact e
  rw [← htb] at HTH
  clear htb h hz
  have HA0 : Hid (BF w (w.alloc (.cells #[.slice x.wa m.nw x.wc, .slice x.ra m.nr x.rc] 25)) [(w.heap.size, #[.slice x.wa m.nw x.wc, .slice x.ra m.nr x.rc], 25)]) := (BF.base w).alloc _ _
  go_enter Try.func3, Try.ntmps3
  go_upto_region 1 with fail
  generalize w.alloc (.cells #[.slice x.wa m.nw x.wc, .slice x.ra m.nr x.rc] 25) = w0 at *
  have c0 := HA0.out.cell (.head _) 0
  have c1 := HA0.out.cell (.head _) 1
  cases tb
  · go_wp2_with (first | (go_at_call 18; refine (HTH.out _).mono ?_; rintro _ w1 ⟨rfl, hb⟩; have HA1 := Lib.hid (HA0.out.below hb); clear hb) | (go_at_call 19; refine (awake_any _).mono ?_; rintro _ w9 ⟨rfl, hb⟩; have HZ := Lib.hid (HA1.out.below hb); clear hb))
    go_ret
    exact ⟨rfl, HZ.out.fr⟩
  by_cases hn12 : n ≤ 12
  case neg =>
    have kq : ((n : Int) > 12) := by omega
    go_wp2_with (first | (go_at_call 18; refine (HTH.out _).mono ?_; rintro _ w1 ⟨rfl, hb⟩; have HA1 := Lib.hid (HA0.out.below hb); clear hb) | (go_at_call 19; refine (awake_any _).mono ?_; rintro _ w9 ⟨rfl, hb⟩; have HZ := Lib.hid (HA1.out.below hb); clear hb))
    go_ret
    exact ⟨rfl, HZ.out.fr⟩
  have kq12 : ¬ ((n : Int) > 12) := by omega
  obtain ⟨hw11, hr24⟩ := HTB.out rfl
  have kw1 : m.nw ≤ 100000 := by omega
  have kr1 : m.nr ≤ 100000 := by omega
  have HMC := Lib.hid (fun W (hW : Below w.heap.size w W) => mapC_any x m W (HMP.out.below hW) kw1 kr1)
  have HLC := Lib.hid (fun W (hW : Below w.heap.size w W) => listC_any a n cap z W (by omega) (HZI.out.below hW))
  have HTO := Lib.hid (fun (y : MV) pa pc W (hW : MpIn W y m) (hz : IntsIn W (.slice pa n pc) n z) => tour_sh y m pa n pc z W hW hz kw1 kr1 (by omega))
  have HFA := Lib.hid (fun W (hW : Below w.heap.size w W) => lfault_any x m W (HMP.out.below hW) kw1 kr1)
  have HIN : Hid (∀ v W, Calls Try.prog 24 #[.int .i64 v, .int .i64 0, .int .i64 ((m.nw : Int) - 1)] W fun e w' => e = .returned (.bool (inB v 0 ((m.nw : Int) - 1))) ∧ w' = W) := fun v W => (rIn_any v 0 ((m.nw : Int) - 1) W).mono fun e w' h => ⟨h.1, h.2.symm⟩
  have HTE : Hid (tourE m z n = if m.fault ≠ 0 then m.fault else if placesB m z n = true then (if 1048576 ≤ lgM m (orL z n) then 7 else 0) else 2) := rfl
  have HOK := Lib.hid (okM_of (m := m))
  have kwr : IntKind.i64.wrap ((m.nw : Int) - 1) = (m.nw : Int) - 1 := IntWalk.i64_in _ (by omega)
  obtain ⟨ft, hft⟩ : ∃ ft, ft = m.fault := ⟨_, rfl⟩
  rw [← hft] at HFA HTE HOK
  clear hft
  obtain ⟨te, hte⟩ : ∃ te, te = tourE m z n := ⟨_, rfl⟩
  rw [← hte] at HTO HTE
  clear hte
  go_wp2_with (first | (go_at_call 18; refine (HTH.out _).mono ?_; rintro _ w1 ⟨rfl, hb⟩; have HA1 := Lib.hid (HA0.out.below hb); have d0 := HA1.out.cell (.head _) 0; have d1 := HA1.out.cell (.head _) 1; clear hb))
  refine (HMC.out _ HA1.out.fr).mono ?_
  rintro _ w2 ⟨y, rfl, hm, hb⟩
  have HA2 := Lib.hid (HA1.out.below hb)
  have HM2 := Lib.hid hm
  clear hm hb c0 c1 d0 d1 HA0 HA1 HTH
  go_wp2_with fail
  refine (HLC.out _ HA2.out.fr).mono ?_
  rintro _ w3 ⟨pa, pc, rfl, ho, hb⟩
  have HA3 := Lib.hid (HA2.out.below hb)
  have HM3 := Lib.hid (HM2.out.below hb)
  have HZ3 := Lib.hid (IntsAt.own ho).toIn
  clear hb ho HA2 HM2 HLC HMC
  go_wp2_with fail
  refine (HTO.out y pa pc _ HM3.out HZ3.out).mono ?_
  rintro _ w4 ⟨hb, ⟨va, vb, vc, vd⟩, n1, n2, tv, rfl, ht1, ht2⟩
  have HA4 := Lib.hid ((HA3.out.below hb).alloc #[.slice va n1 vb, .slice vc n2 vd] 30)
  have HT1 := Lib.hid ht1
  have HT2 := Lib.hid (fun e => And.intro (ht2 e).1 (And.intro (ht2 e).2.1 (And.intro (ht2 e).2.2.1 ((ht2 e).2.2.2.below (below_alloc w4 (.cells #[.slice va n1 vb, .slice vc n2 vd] 30))))))
  clear hb ht1 ht2 HA3 HM3 HZ3 HTO
  go_upto_region 4 with fail
  generalize hw5 : (w4.alloc (.cells #[.slice va n1 vb, .slice vc n2 vd] 30)) = w5 at *
  clear hw5
  generalize w4.heap.size = RB at *
  have c0 := HA4.out.cell (.tail _ (.head _)) 0
  have c1 := HA4.out.cell (.tail _ (.head _)) 1
  go_wp2_with (go_at_call 23; refine (HFA.out _ HA4.out.fr).mono ?_; rintro _ w6 ⟨rfl, hb⟩; have HA6 := Lib.hid (HA4.out.below hb); have HB6 := Lib.hid hb; clear hb)
  clear c0 c1 HA4 HFA
  go_loopw [8, 9, 10] (fun s8 s9 i wr => ∃ k : Nat, i = .int .i64 k ∧ k ≤ n ∧ s8 = .int .i64 ft ∧ s9 = .int .i64 (orL z k : Nat) ∧ (ft ≠ 0 → k = 0) ∧ (∀ j, j < k → inB (z j) 0 ((m.nw : Int) - 1) = true ∧ (j = 0 ∨ z (j - 1) < z j)) ∧ Below w5.heap.size w5 wr ∧ BF w wr [(RB, #[.slice va n1 vb, .slice vc n2 vd], 30), (w.heap.size, #[.slice x.wa m.nw x.wc, .slice x.ra m.nr x.rc], 25)]) (fun _ _ i _ => n - (intOf i).toNat)
  case atStart => exact ⟨0, rfl, Nat.zero_le _, rfl, rfl, fun _ => rfl, fun j hj => absurd hj (Nat.not_lt_zero j), HB6.out, HA6.out⟩
  case round =>
    clear HA6 HB6
    obtain ⟨k, rfl, hk, rfl, rfl, hf0, hpre, hbw5, hbf⟩ := hrel
    have HA1 := Lib.hid hbf
    have HB1 := Lib.hid hbw5
    have HPRE := Lib.hid hpre
    have HF0 := Lib.hid hf0
    clear hbf hbw5 hpre hf0
    have c0 := HA1.out.cell (.tail _ (.head _)) 0
    have c1 := HA1.out.cell (.tail _ (.head _)) 1
    by_cases k1 : ft = 0
    case neg =>
      obtain rfl := HF0.out k1
      have kb : (ft == 0) = false := by simp [k1]
      have kb2 : (ft != 0) = true := by simp [k1]
      have he : te = ft := by rw [HTE.out, if_pos k1]
      subst he
      obtain ⟨e1, e2, e3⟩ := HT1.out k1
      subst e1 e2 e3
      have d0 := HA1.out.cell (.head _) 0
      have d1 := HA1.out.cell (.head _) 1
      clear HT1 HT2 HTE HF0 HOK
      by_cases hlt : 0 < n
      · have kn : ((0 : Int) < (n : Int)) := by omega
        go_wp2_with (go_at_call 19; refine (awake_any _).mono ?_; rintro _ w9 ⟨rfl, hb⟩; have HZ := Lib.hid (HA1.out.below hb); clear hb)
        go_ret
        exact ⟨rfl, HZ.out.fr⟩
      · have kn : ¬ ((0 : Int) < (n : Int)) := by omega
        go_wp2_with (go_at_call 19; refine (awake_any _).mono ?_; rintro _ w9 ⟨rfl, hb⟩; have HZ := Lib.hid (HA1.out.below hb); clear hb)
        go_ret
        exact ⟨rfl, HZ.out.fr⟩
    subst k1
    have hok := HOK.out rfl
    have HTE2 : Hid (te = if placesB m z n = true then (if 1048576 ≤ lgM m (orL z n) then 7 else 0) else 2) := HTE.out
    have hnw8 := hok.nw
    clear HTE HF0 HOK
    by_cases hlt : k < n
    · have hsz : orL z k < 2 ^ m.nw := orL_lt k (fun j hj => by have := (HPRE.out j hj).1; simp only [inB, Bool.and_eq_true, decide_eq_true_eq] at this; omega)
      have hs8 : orL z k < 256 := two8 hok hsz
      have HBAD : Hid (¬ (inB (z k) 0 ((m.nw : Int) - 1) = true ∧ (k = 0 ∨ z (k - 1) < z k)) → te = 2) := fun hno => by
        rw [HTE2.out, if_neg (fun hp => hno ?_)]
        unfold placesB at hp
        rw [Bool.and_eq_true] at hp
        exact ⟨allB_iff.1 hp.2 k hlt, rises_iff.1 hp.1 k hlt⟩
      have HNX : Hid (inB (z k) 0 ((m.nw : Int) - 1) = true → (k = 0 ∨ z (k - 1) < z k) → ∀ j, j < k + 1 → inB (z j) 0 ((m.nw : Int) - 1) = true ∧ (j = 0 ∨ z (j - 1) < z j)) := fun a1 a2 j hj => by
        rcases Nat.lt_succ_iff_lt_or_eq.1 hj with h1 | rfl
        · exact HPRE.out j h1
        · exact ⟨a1, a2⟩
      have HIK : Hid (∀ W, Calls Try.prog 24 #[.int .i64 (z k), .int .i64 0, .int .i64 ((m.nw : Int) - 1)] W fun e w' => e = .returned (.bool (inB (z k) 0 ((m.nw : Int) - 1))) ∧ w' = W) := fun W => HIN.out (z k) W
      have HIB : Hid (inB (z k) 0 ((m.nw : Int) - 1) = true → 0 ≤ z k ∧ z k < m.nw) := fun h => by simp only [inB, Bool.and_eq_true, decide_eq_true_eq] at h; omega
      have DR : Hid (∀ n0, BF w (wr.drewN n0) [(RB, #[.slice va n1 vb, .slice vc n2 vd], 30), (w.heap.size, #[.slice x.wa m.nw x.wc, .slice x.ra m.nr x.rc], 25)]) := fun n0 => HA1.out.below (below_drewN wr n0)
      obtain ⟨b, off, rfl, hb, x0⟩ := HZI.out.at hlt
      have y0 := kept HA1.out.fr hb x0
      have ki : (0 : Int) ≤ (k : Int) := by omega
      have kj : (k : Int) < (n : Int) := by omega
      have HOQ : Hid (∀ q : Nat, z k = q → q < 8 → bits BinOp.or IntKind.i64 ((orL z k : Nat) : Int) (wrap64 (2 ^ q)) = ((orL z k ||| 2 ^ q : Nat) : Int)) := fun q _ hq8 => bit_or ⟨orL z k, hs8⟩ ⟨q, hq8⟩
      have HOS0 : Hid (orL z (k + 1) = orL z k ||| 2 ^ (z k).toNat) := rfl
      clear x0 hb
      obtain ⟨zk, hzk⟩ : ∃ zk, zk = z k := ⟨_, rfl⟩
      rw [← hzk] at HBAD HNX HIK HIB y0 HOQ HOS0
      clear hzk
      generalize inB zk 0 ((m.nw : Int) - 1) = hb1 at *
      cases hb1
      · have hT2 : te = 2 := HBAD.out (fun h => absurd h.1 (by decide))
        clear HBAD HNX HIB HOQ HOS0 HTE2
        subst hT2
        obtain ⟨e1, e2, e3⟩ := HT1.out (by decide)
        subst e1 e2 e3
        clear HT1 HT2
        go_upto_region 8 with fail
        go_quiet ((go_at_call 24; exact Calls.quiet_of_same (HIK.out _)))
        have HD := Lib.hid (DR.out nq)
        have d0 := HD.out.cell (.head _) 0
        have d1 := HD.out.cell (.head _) 1
        go_wp2_with (go_at_call 19; refine (awake_any _).mono ?_; rintro _ w9 ⟨rfl, hb⟩; have HZ := Lib.hid (HD.out.below hb); clear hb)
        go_ret
        exact ⟨rfl, HZ.out.fr⟩
      · have hzb := HIB.out rfl
        obtain ⟨q, rfl⟩ : ∃ q : Nat, zk = q := ⟨zk.toNat, by omega⟩
        have hq8 : q < 8 := by omega
        have HOR : Hid (bits BinOp.or IntKind.i64 ((orL z k : Nat) : Int) (wrap64 (2 ^ q)) = ((orL z k ||| 2 ^ q : Nat) : Int)) := HOQ.out q rfl hq8
        have HOS : Hid (orL z (k + 1) = orL z k ||| 2 ^ q) := HOS0.out
        have qi : (0 : Int) ≤ (q : Int) := by omega
        clear HOQ HOS0 HIB
        by_cases k0 : k = 0
        · have HNX2 := Lib.hid (HNX.out rfl (.inl k0))
          subst k0
          have HNX := HNX2
          clear HNX2 HBAD
          rw [Nat.add_zero] at y0
          go_upto_region 8 with fail
          go_quiet ((go_at_call 24; exact Calls.quiet_of_same (HIK.out _)))
          go_wp2_with fail
          go_roundw
          case rel => exact ⟨1, rfl, by omega, rfl, by rw [HOS.out]; first | exact congrArg (Value.int IntKind.i64) HOR.out | exact HOR.out, fun h => absurd rfl h, HNX.out, HB1.out.trans (below_drewS _ _ _), DR.out _⟩
          case measure => simp [intOf]; omega
        · have kp : ((k : Int) > 0) := by omega
          have kz := Lib.hid k0
          have kp2 : 0 < k := by omega
          obtain ⟨b', off', e', hb', x1⟩ := HZI.out.at (k := k - 1) (by omega)
          cases e'
          have y1 := kept HA1.out.fr hb' x1
          obtain ⟨cp, hcp⟩ : ∃ cp, cp = z (k - 1) := ⟨_, rfl⟩
          rw [← hcp] at y1 HBAD HNX
          clear hcp x1 hb'
          have kl : ((k - 1 : Nat) : Int) = (k : Int) - 1 := by omega
          have kw : IntKind.i64.wrap ((k : Int) - 1) = ((k - 1 : Nat) : Int) := (IntWalk.i64_in _ (by omega)).trans kl.symm
          have kj1 : ((k - 1 : Nat) : Int) < (n : Int) := by omega
          clear kl
          obtain ⟨kk, hkk⟩ : ∃ kk, kk = k - 1 := ⟨_, rfl⟩
          rw [← hkk] at kw kj1 y1
          clear hkk
          by_cases hlc : cp < (q : Int)
          · have kle : ¬ ((q : Int) ≤ cp) := by omega
            have HNX := Lib.hid (HNX.out rfl (.inr hlc))
            clear HBAD
            go_upto_region 8 with fail
            go_quiet ((go_at_call 24; exact Calls.quiet_of_same (HIK.out _)))
            go_wp2_with fail
            go_roundw
            case rel => exact ⟨k + 1, by go_num, by omega, rfl, by rw [HOS.out]; first | exact congrArg (Value.int IntKind.i64) HOR.out | exact HOR.out, fun h => absurd rfl h, HNX.out, HB1.out.trans (below_drewS _ _ _), DR.out _⟩
            case measure => simp [intOf]; omega
          · have kle : (q : Int) ≤ cp := by omega
            have hT2 : te = 2 := HBAD.out (fun h => by rcases h.2 with h | h; exact kz.out h; exact hlc h)
            clear HBAD HNX HTE2 HOR HOS
            subst hT2
            obtain ⟨e1, e2, e3⟩ := HT1.out (by decide)
            subst e1 e2 e3
            clear HT1 HT2
            go_upto_region 8 with fail
            go_quiet ((go_at_call 24; exact Calls.quiet_of_same (HIK.out _)))
            have HD := Lib.hid (DR.out nq)
            have d0 := HD.out.cell (.head _) 0
            have d1 := HD.out.cell (.head _) 1
            go_wp2_with (go_at_call 19; refine (awake_any _).mono ?_; rintro _ w9 ⟨rfl, hb⟩; have HZ := Lib.hid (HD.out.below hb); clear hb)
            go_ret
            exact ⟨rfl, HZ.out.fr⟩
    · obtain rfl : k = n := by omega
      have hsz : orL z k < 2 ^ m.nw := orL_lt k (fun j hj => by have := (HPRE.out j hj).1; simp only [inB, Bool.and_eq_true, decide_eq_true_eq] at this; omega)
      have hpb : placesB m z k = true := by unfold placesB; rw [Bool.and_eq_true]; exact ⟨rises_iff.2 (fun j hj => (HPRE.out j hj).2), allB_iff.2 (fun j hj => (HPRE.out j hj).1)⟩
      have HTE3 : Hid (te = if 1048576 ≤ lgM m (orL z k) then 7 else 0) := by have h := HTE2.out; rw [if_pos hpb] at h; exact h
      have HAL := Lib.hid (fun W (hW : Below w.heap.size w W) => rAll_any hok x W (HMP.out.below hW))
      have HTU := Lib.hid (fun W (hW : Below w.heap.size w W) => rTour_any hok x hsz W (HMP.out.below hW))
      have htw := tour_walk hok hsz
      obtain ⟨hp1, hp2⟩ := plc_list hok hpb
      have hlb := lgM_bd hok hsz
      have hrs : lgM m (orL z k) < 1048576 → rsT m 0 (orL z k) < 1048576 := fun h => by rcases lgM_fin hok hsz with h1 | h1 <;> omega
      have htu : tuM m (orL z k) = min (lgM m (orL z k)) 1048576 := rfl
      obtain ⟨tu, hTU⟩ : ∃ tu, tu = tuM m (orL z k) := ⟨_, rfl⟩
      rw [← hTU] at HTU htu
      obtain ⟨Y, hY⟩ : ∃ Y, Y = tourY m (orL z k) := ⟨_, rfl⟩
      have hy1 : Y.nl = (tourL m (orL z k)).length := by rw [hY]; rfl
      have hy2 : Y.nc = (plc (orL z k)).length := by rw [hY]; rfl
      have hy3 : Y.ct = zL (plc (orL z k)) := by rw [hY]; rfl
      rw [← hY, ← hy1, ← hy2] at HT2
      rw [← hY] at htw
      rw [← hy2] at hp1
      rw [← hy3] at hp2
      have hnl : lgM m (orL z k) < 1048576 → Y.nl ≤ 64 := fun h => by
        have h1 := (htw (hrs h)).1
        simp only [isWalkB, Bool.and_eq_true, decide_eq_true_eq] at h1
        exact h1.1
      clear hTU hY hy1 hy2 hy3 HTE2
      obtain ⟨lg, hlg⟩ : ∃ lg, lg = lgM m (orL z k) := ⟨_, rfl⟩
      rw [← hlg] at HT2 HTE3 htw hlb hrs htu hnl
      have HY1 := Lib.hid (fun h => htw (hrs h))
      have HNL := Lib.hid hnl
      have HTM := Lib.hid htu
      clear hlg htw hrs hnl htu
      obtain ⟨nl, rt, nc, ct⟩ := Y
      simp only at hp1 hp2 HT2 HNL
      subst hp1
      have HCT := Lib.hid hp2
      clear hp2
      have kq : ¬ ((nc : Int) < (nc : Int)) := by omega
      go_upto_region 13 with fail
      have HAX : Hid (BF w wr.drew [(RB, #[.slice va n1 vb, .slice vc n2 vd], 30), (w.heap.size, #[.slice x.wa m.nw x.wc, .slice x.ra m.nr x.rc], 25)]) := HA1.out.below (Below.refl _ _).drew
      have HBX : Hid (BwS w5 wr.drew) := HB1.out.trans (below_drewS _ _ 1)
      clear HA1 HB1 c0 c1
      refine wp_region_Z (S := fun X => X.cell? ⟨w.heap.size, 0, none⟩ = some (.slice x.wa m.nw x.wc) ∧ X.cell? ⟨w.heap.size, 1, none⟩ = some (.slice x.ra m.nr x.rc)) (by kernel_rfl) (⟨HAX.out.cell (.tail _ (.head _)) 0, HAX.out.cell (.tail _ (.head _)) 1⟩) (fun hS => ?_)
      generalize wr.drew = X at *
      refine tk [0, 1, 3] ?_
      repeat (refine tkZ (oi := ⟨_, _, _, _, _, _⟩) (v := ?_) rfl (by kernel_rfl) (by rfl) (fun _ _ _ h => h) hS ?_ ?_; rotate_left; (· rintro W' ⟨z0, z1⟩; go_simp; try with_reducible rfl); try simp only [Act.put, putA, putZ, putS])
      refine tk0 ?_
      refine wpAnyZ_next (rs := [2]) (by kernel_rfl) (by simp) ?_
      refine NextZ.cons (o := ⟨some 80, _, _, _, _, _⟩) rfl (fun K hK => ?_) NextZ.nil
      go_simp
      refine (HAL.out X HAX.out.fr).mono ?_
      rintro _ X0 ⟨rfl, hb0⟩
      (try go_wp2_with fail)
      have HA0 := Lib.hid (HAX.out.below hb0)
      have HB0 := Lib.hid (HBX.out.below hb0)
      refine hK.out _ _ (⟨HA0.out.cell (.tail _ (.head _)) 0, HA0.out.cell (.tail _ (.head _)) 1⟩) (fun hS => ?_)
      clear hK K
      try simp only [Act.put, putA, putZ, putS]
      clear hb0
      refine wpAnyZ_next (rs := [4]) (by kernel_rfl) (by simp) ?_
      refine NextZ.cons (o := ⟨some 82, _, _, _, _, _⟩) rfl (fun K hK => ?_) NextZ.nil
      go_simp
      refine (HTU.out X0 HA0.out.fr).mono ?_
      rintro _ X1 ⟨rfl, hb1⟩
      (try go_wp2_with fail)
      have HA1 := Lib.hid (HA0.out.below hb1)
      have HB1 := Lib.hid (HB0.out.below hb1)
      refine hK.out _ _ (⟨HA1.out.cell (.tail _ (.head _)) 0, HA1.out.cell (.tail _ (.head _)) 1⟩) (fun hS => ?_)
      clear hK K
      try simp only [Act.put, putA, putZ, putS]
      clear hb1
      refine tZ 5 (oi := ⟨_, _, _, _, _, _⟩) (v := ?_) rfl (by kernel_rfl) (by rfl) (fun _ _ _ h => h) hS ?_ ?_
      rotate_left
      · rintro W' ⟨z0, z1⟩; go_simp; try with_reducible rfl
      try simp only [Act.put, putA, putZ, putS]
      refine wpAnyZ_done (by kernel_rfl) ?_ _
      have HA2 := Lib.hid (HA1.out)
      have HB2 := Lib.hid (HB1.out)
      generalize X1 = w8 at *
      by_cases hfar : 1048576 ≤ lg
      · have hT7 : te = 7 := by rw [HTE3.out, if_pos hfar]
        subst hT7
        obtain ⟨e1, e2, e3⟩ := HT1.out (by decide)
        subst e1 e2 e3
        have kf : (tu ≥ 1048576) := by have := HTM.out; omega
        have d0 := HA2.out.cell (.head _) 0
        have d1 := HA2.out.cell (.head _) 1
        clear HT1 HT2 HTE3 HY1 HNL HTM
        go_wp2_with (go_at_call 19; refine (awake_any _).mono ?_; rintro _ w9 ⟨rfl, hb⟩; have HZ := Lib.hid (HA2.out.below hb); clear hb)
        go_ret
        exact ⟨rfl, HZ.out.fr⟩
      · have hT0 : te = 0 := by rw [HTE3.out, if_neg hfar]
        subst hT0
        obtain ⟨e1, e2, e3, hwl⟩ := HT2.out rfl
        subst e1 e2 e3
        obtain ⟨hw1, hw2⟩ := HY1.out (by omega)
        have hnl := HNL.out (by omega)
        have hTU : tu = tv := by have := HTM.out; omega
        subst hTU
        have kf : ¬ (tu ≥ 1048576) := hfar
        have HUL := Lib.hid (hwl.below HB2.out)
        have HBK := Lib.hid (fun W (hW : WlIn W ⟨va, vb, vc, vd⟩ ⟨n1, rt, n2, ct⟩) => backC_any va vc n1 vb n2 vd rt ct W hW.rt hW.ct (by omega) (by omega))
        have HIW : Hid (∀ W, Below w.heap.size w W → ∀ u : LV, WlIn W u ⟨n1, rt, n2, ct⟩ → Calls Try.prog 27 #[.agg #[.slice x.wa m.nw x.wc, .slice x.ra m.nr x.rc], .agg #[.slice u.ra n1 u.rc, .slice u.ca n2 u.cc]] W fun e w' => e = .returned (.bool true) ∧ Below W.heap.size W w') := fun W hW u hu => by
          have h := rWalk_any x m u ⟨n1, rt, n2, ct⟩ W (HMP.out.below hW) hu (by show n1 ≤ 100000; omega) (by show n2 ≤ 100000; omega) kw1 kr1
          rw [hw1] at h
          exact h
        have HLO : Hid (∀ W, Below w.heap.size w W → ∀ u : LV, WlIn W u ⟨n1, rt, n2, ct⟩ → Calls Try.prog 30 #[.agg #[.slice x.wa m.nw x.wc, .slice x.ra m.nr x.rc], .agg #[.slice u.ra n1 u.rc, .slice u.ca n2 u.cc]] W fun e w' => e = .returned (.int .i64 tu) ∧ Below W.heap.size W w') := fun W hW u hu => by
          have h := rLongest_any hok x u ⟨n1, rt, n2, ct⟩ W (HMP.out.below hW) hu (wlOk_of hok ((isWalk_iff hok _).1 hw1)) (by show n2 ≤ 100000; omega)
          rw [hw2] at h
          exact h
        have HIQ := Lib.hid (fun W (hW : Below w.heap.size w W) (hu : WlIn W ⟨va, vb, vc, vd⟩ ⟨n1, rt, n2, ct⟩) => ints_eq vc a n2 vd cap ct z W (by omega) hu.ct (HZI.out.below hW) HCT.out)
        clear HT1 HT2 HTE3 HY1 HNL HTM hw1 hw2 hwl hpb hsz HPRE HAL HTU hok HB2
        go_upto_region 18 with fail
        have HAY : Hid (BF w w8.drew [(RB, #[.slice va n1 vb, .slice vc n2 vd], 30), (w.heap.size, #[.slice x.wa m.nw x.wc, .slice x.ra m.nr x.rc], 25)]) := HA2.out.below (Below.refl _ _).drew
        have HUX := Lib.hid (HUL.out.below (Below.refl w8.heap.size w8).drew)
        clear HA2 HUL
        refine wp_region_Z (S := fun X => X.cell? ⟨RB, 0, none⟩ = some (.slice va n1 vb) ∧ X.cell? ⟨RB, 1, none⟩ = some (.slice vc n2 vd) ∧ X.cell? ⟨w.heap.size, 0, none⟩ = some (.slice x.wa m.nw x.wc) ∧ X.cell? ⟨w.heap.size, 1, none⟩ = some (.slice x.ra m.nr x.rc)) (by kernel_rfl) (⟨HAY.out.cell (.head _) 0, HAY.out.cell (.head _) 1, HAY.out.cell (.tail _ (.head _)) 0, HAY.out.cell (.tail _ (.head _)) 1⟩) (fun hS => ?_)
        generalize w8.drew = X1 at *
        refine tk [0, 1, 2, 3, 4, 5, 6, 7, 8, 9] ?_
        repeat (refine tkZ (oi := ⟨_, _, _, _, _, _⟩) (v := ?_) rfl (by kernel_rfl) (by rfl) (fun _ _ _ h => h) hS ?_ ?_; rotate_left; (· rintro W' ⟨z0, z1, z2, z3⟩; go_simp; try with_reducible rfl); try simp only [Act.put, putA, putZ, putS])
        refine tk0 ?_
        refine wpAnyZ_next (rs := [10]) (by kernel_rfl) (by simp) ?_
        refine NextZ.cons (o := ⟨some 117, _, _, _, _, _⟩) rfl (fun K hK => ?_) NextZ.nil
        go_simp
        refine (HBK.out X1 HUX.out).mono ?_
        rintro _ X0 ⟨a1, d1, a2, d2, rfl, hw0, hv0, hb0⟩
        (try go_wp2_with fail)
        have HA0 := Lib.hid (HAY.out.below hb0)
        have HU0 := Lib.hid (HUX.out.below hb0)
        have HW0 := Lib.hid (hw0)
        have HQ0 := Lib.hid (hv0)
        refine hK.out _ _ (⟨HA0.out.cell (.head _) 0, HA0.out.cell (.head _) 1, HA0.out.cell (.tail _ (.head _)) 0, HA0.out.cell (.tail _ (.head _)) 1⟩) (fun hS => ?_)
        clear hK K
        try simp only [Act.put, putA, putZ, putS]
        clear hb0 hw0 hv0
        refine wpAnyZ_next (rs := [11]) (by kernel_rfl) (by simp) ?_
        refine NextZ.cons (o := ⟨some 118, _, _, _, _, _⟩) rfl (fun K hK => ?_) NextZ.nil
        go_simp
        refine (HIW.out X0 HA0.out.fr ⟨a1, d1, a2, d2⟩ ⟨HW0.out, HQ0.out⟩).mono ?_
        rintro _ X1 ⟨rfl, hb1⟩
        (try go_wp2_with fail)
        have HA1 := Lib.hid (HA0.out.below hb1)
        have HU1 := Lib.hid (HU0.out.below hb1)
        refine hK.out _ _ (⟨HA1.out.cell (.head _) 0, HA1.out.cell (.head _) 1, HA1.out.cell (.tail _ (.head _)) 0, HA1.out.cell (.tail _ (.head _)) 1⟩) (fun hS => ?_)
        clear hK K
        try simp only [Act.put, putA, putZ, putS]
        clear hb1
        refine tk [12, 13, 14, 15, 16] ?_
        repeat (refine tkZ (oi := ⟨_, _, _, _, _, _⟩) (v := ?_) rfl (by kernel_rfl) (by rfl) (fun _ _ _ h => h) hS ?_ ?_; rotate_left; (· rintro W' ⟨z0, z1, z2, z3⟩; go_simp; try with_reducible rfl); try simp only [Act.put, putA, putZ, putS])
        refine tk0 ?_
        refine wpAnyZ_next (rs := [17]) (by kernel_rfl) (by simp) ?_
        refine NextZ.cons (o := ⟨some 124, _, _, _, _, _⟩) rfl (fun K hK => ?_) NextZ.nil
        go_simp
        refine (HIQ.out X1 HA1.out.fr HU1.out).mono ?_
        rintro _ X2 ⟨rfl, hb2⟩
        (try go_wp2_with fail)
        have HA2 := Lib.hid (HA1.out.below hb2)
        have HU2 := Lib.hid (HU1.out.below hb2)
        refine hK.out _ _ (⟨HA2.out.cell (.head _) 0, HA2.out.cell (.head _) 1, HA2.out.cell (.tail _ (.head _)) 0, HA2.out.cell (.tail _ (.head _)) 1⟩) (fun hS => ?_)
        clear hK K
        try simp only [Act.put, putA, putZ, putS]
        clear hb2
        refine tk [18, 19, 20, 21, 24] ?_
        repeat (refine tkZ (oi := ⟨_, _, _, _, _, _⟩) (v := ?_) rfl (by kernel_rfl) (by rfl) (fun _ _ _ h => h) hS ?_ ?_; rotate_left; (· rintro W' ⟨z0, z1, z2, z3⟩; go_simp; try with_reducible rfl); try simp only [Act.put, putA, putZ, putS])
        refine tk0 ?_
        refine wpAnyZ_next (rs := [22]) (by kernel_rfl) (by simp) ?_
        refine NextZ.cons (o := ⟨some 129, _, _, _, _, _⟩) rfl (fun K hK => ?_) NextZ.nil
        go_simp
        refine (HBK.out X2 HU2.out).mono ?_
        rintro _ X3 ⟨b1, f1, b2, f2, rfl, hw3, hv3, hb3⟩
        (try go_wp2_with fail)
        have HA3 := Lib.hid (HA2.out.below hb3)
        have HU3 := Lib.hid (HU2.out.below hb3)
        have HW3 := Lib.hid (hw3)
        have HQ3 := Lib.hid (hv3)
        refine hK.out _ _ (⟨HA3.out.cell (.head _) 0, HA3.out.cell (.head _) 1, HA3.out.cell (.tail _ (.head _)) 0, HA3.out.cell (.tail _ (.head _)) 1⟩) (fun hS => ?_)
        clear hK K
        try simp only [Act.put, putA, putZ, putS]
        clear hb3 hw3 hv3
        refine wpAnyZ_next (rs := [23]) (by kernel_rfl) (by simp) ?_
        refine NextZ.cons (o := ⟨some 130, _, _, _, _, _⟩) rfl (fun K hK => ?_) NextZ.nil
        go_simp
        refine (HLO.out X3 HA3.out.fr ⟨b1, f1, b2, f2⟩ ⟨HW3.out, HQ3.out⟩).mono ?_
        rintro _ X4 ⟨rfl, hb4⟩
        (try go_wp2_with fail)
        have HA4 := Lib.hid (HA3.out.below hb4)
        have HU4 := Lib.hid (HU3.out.below hb4)
        refine hK.out _ _ (⟨HA4.out.cell (.head _) 0, HA4.out.cell (.head _) 1, HA4.out.cell (.tail _ (.head _)) 0, HA4.out.cell (.tail _ (.head _)) 1⟩) (fun hS => ?_)
        clear hK K
        try simp only [Act.put, putA, putZ, putS]
        clear hb4
        refine tk [25, 26, 27] ?_
        repeat (refine tkZ (oi := ⟨_, _, _, _, _, _⟩) (v := ?_) rfl (by kernel_rfl) (by rfl) (fun _ _ _ h => h) hS ?_ ?_; rotate_left; (· rintro W' ⟨z0, z1, z2, z3⟩; go_simp; try with_reducible rfl); try simp only [Act.put, putA, putZ, putS])
        refine tk0 ?_
        refine wpAnyZ_next (rs := [28]) (by kernel_rfl) (by simp) ?_
        refine NextZ.cons (o := ⟨some 135, _, _, _, _, _⟩) rfl (fun K hK => ?_) NextZ.nil
        go_simp
        refine (awake_any _).mono ?_
        rintro _ X5 ⟨rfl, hb5⟩
        (try go_wp2_with fail)
        have HA5 := Lib.hid (HA4.out.below hb5)
        have HU5 := Lib.hid (HU4.out.below hb5)
        refine hK.out _ _ (⟨HA5.out.cell (.head _) 0, HA5.out.cell (.head _) 1, HA5.out.cell (.tail _ (.head _)) 0, HA5.out.cell (.tail _ (.head _)) 1⟩) (fun hS => ?_)
        clear hK K
        try simp only [Act.put, putA, putZ, putS]
        clear hb5
        refine tk [29, 30] ?_
        repeat (refine tkZ (oi := ⟨_, _, _, _, _, _⟩) (v := ?_) rfl (by kernel_rfl) (by rfl) (fun _ _ _ h => h) hS ?_ ?_; rotate_left; (· rintro W' ⟨z0, z1, z2, z3⟩; go_simp; try with_reducible rfl); try simp only [Act.put, putA, putZ, putS])
        refine tk0 ?_
        refine wpAnyZ_done (by kernel_rfl) ?_ _
        go_wp2
        go_ret
        exact ⟨rfl, HA5.out.fr⟩
end Go.Proofs.Ytpnkgjkoophckaa
