/- Walk: WalkTimes' walk. Printed by gen_vj.py. -/
import Derived.Test.YtpnkgjkoophckaaVH
import Derived.Test.YtpnkgjkoophckaaVI
namespace Go.Proofs.Ytpnkgjkoophckaa
open Go.RowKit Go.Shelf Go.Maps

theorem eql_zero (a b : Int) (h : a = 0 ∧ b = 0) (W : World) : (binOp .eql 100 (.agg #[.int .i64 a, .int .i64 b]) (.agg #[.int .i64 0, .int .i64 0])).run Try.prog W = .ok (.bool true) W := by
  obtain ⟨rfl, rfl⟩ := h; exact eql_same 0 0 W
theorem neq_same (a b : Int) (W : World) : (binOp .neq 100 (.agg #[.int .i64 a, .int .i64 b]) (.agg #[.int .i64 a, .int .i64 b])).run Try.prog W = .ok (.bool false) W := by
  rw [run_neq_struct, eq_range]; simp
set_option maxRecDepth 100000 in
set_option maxHeartbeats 64000000 in
theorem walkTimes_walk (x : MV) (m : Mp) (u : LV) (y : Wl) (t : TVL) (w : World) (h : MpLaw w x m) (hu : WlIn w u y) (hnl : y.nl ≤ maxLen) (hnc : y.nc ≤ maxLen) (ht1 : IntsIn w (.slice t.z.wa t.nw t.z.wc) t.nw t.tw) (ht2 : IntsIn w (.slice t.z.ra t.nr t.z.rc) t.nr t.tr) (hl1 : t.nw ≤ maxLen) (hl2 : t.nr ≤ maxLen) :
    Calls Try.prog 12 #[.agg #[.slice x.wa m.nw x.wc, .slice x.ra m.nr x.rc], .agg #[.slice u.ra y.nl u.rc, .slice u.ca y.nc u.cc], .agg #[.slice t.z.wa t.nw t.z.wc, .slice t.z.ra t.nr t.z.rc]] w fun e w' => e = .returned (.bool true) ∧ Below w.heap.size w w' := by
  obtain ⟨i0, hi0, hiz0, hiz1, hiz2⟩ := info_parts Try.infoRangeW
  have hbw := h.bw; have hbr := h.br
  unfold maxLen at hnl hnc hl1 hl2 hbw hbr
  have HTH := Lib.hid (fun W => thin_any x m.nw m.nr W)
  have HSM := Lib.hid (fun W => small_any u y W)
  have HMP := Lib.hid h.l
  have HUU := Lib.hid hu
  obtain ⟨⟨ta, tc, sa, sc⟩, n1, n2, tw, tr⟩ := t
  simp only at *
  have HT1 := Lib.hid ht1; have HT2 := Lib.hid ht2
  obtain ⟨tb, htb⟩ : ∃ tb, tb = (decide (m.nw ≤ 11) && decide (m.nr ≤ 24)) := ⟨_, rfl⟩
  obtain ⟨sb, hsb⟩ : ∃ sb, sb = (decide (y.nl ≤ 70) && decide (y.nc ≤ 12)) := ⟨_, rfl⟩
  have HTB : Hid (tb = true → m.nw ≤ 11 ∧ m.nr ≤ 24) := fun e => by rw [htb] at e; simp only [Bool.and_eq_true, decide_eq_true_eq] at e; exact e
  have HSB : Hid (sb = true → y.nl ≤ 70 ∧ y.nc ≤ 12) := fun e => by rw [hsb] at e; simp only [Bool.and_eq_true, decide_eq_true_eq] at e; exact e
  rw [← htb] at HTH
  rw [← hsb] at HSM
  clear htb hsb h hu ht1 ht2
  obtain ⟨ua, uc, va, vc⟩ := u
  obtain ⟨nl, rt, nc, ct⟩ := y
  simp only at *
  have HA0 : Hid (BF w (((w.alloc (.cells #[.slice x.wa m.nw x.wc, .slice x.ra m.nr x.rc] 25)).alloc (.cells #[.slice ua nl uc, .slice va nc vc] 49)).alloc (.cells #[.slice ta n1 tc, .slice sa n2 sc] 71)) [(w.heap.size, #[.slice x.wa m.nw x.wc, .slice x.ra m.nr x.rc], 25), (w.heap.size + 1, #[.slice ua nl uc, .slice va nc vc], 49), (w.heap.size + 2, #[.slice ta n1 tc, .slice sa n2 sc], 71)]) := BF.made3 _ _ _ _ _ _ _
  have HC6 := Lib.hid (fun X (hX : BF w X [(w.heap.size, #[.slice x.wa m.nw x.wc, .slice x.ra m.nr x.rc], 25), (w.heap.size + 1, #[.slice ua nl uc, .slice va nc vc], 49), (w.heap.size + 2, #[.slice ta n1 tc, .slice sa n2 sc], 71)]) => And.intro (And.intro (hX.cell (.head _) 0) (hX.cell (.head _) 1)) (And.intro (And.intro (hX.cell (.tail _ (.head _)) 0) (hX.cell (.tail _ (.head _)) 1)) (And.intro (hX.cell (.tail _ (.tail _ (.head _))) 0) (hX.cell (.tail _ (.tail _ (.head _))) 1))))
  go_enter Try.func12, Try.ntmps12
  go_upto_region 1 with fail
  generalize (((w.alloc (.cells #[.slice x.wa m.nw x.wc, .slice x.ra m.nr x.rc] 25)).alloc (.cells #[.slice ua nl uc, .slice va nc vc] 49)).alloc (.cells #[.slice ta n1 tc, .slice sa n2 sc] 71)) = w0 at *
  obtain ⟨⟨c0, c1⟩, ⟨c2, c3⟩, c4, c5⟩ := HC6.out _ HA0.out
  cases tb
  · go_wp2_with (first | (go_at_call 18; refine (HTH.out _).mono ?_; rintro _ w1 ⟨rfl, hb⟩; have HA1 := Lib.hid (HA0.out.below hb); clear hb) | (go_at_call 19; refine (awake_any _).mono ?_; rintro _ w9 ⟨rfl, hb⟩; have HZ := Lib.hid (HA1.out.below hb); clear hb))
    go_ret
    exact ⟨rfl, HZ.out.fr⟩
  cases sb
  · go_wp2_with (first | (go_at_call 18; refine (HTH.out _).mono ?_; rintro _ w1 ⟨rfl, hb⟩; have HA1 := Lib.hid (HA0.out.below hb); obtain ⟨⟨d0, d1⟩, ⟨d2, d3⟩, d4, d5⟩ := HC6.out _ HA1.out; clear hb) | (go_at_call 50; refine (HSM.out _).mono ?_; rintro _ w2 ⟨rfl, hb⟩; have HA2 := Lib.hid (HA1.out.below hb); clear hb) | (go_at_call 19; refine (awake_any _).mono ?_; rintro _ w9 ⟨rfl, hb⟩; have HZ := Lib.hid (HA2.out.below hb); clear hb))
    go_ret
    exact ⟨rfl, HZ.out.fr⟩
  by_cases q1 : n1 ≤ 30
  case neg =>
    have kq : ((n1 : Int) > 30) := by omega
    go_wp2_with (first | (go_at_call 18; refine (HTH.out _).mono ?_; rintro _ w1 ⟨rfl, hb⟩; have HA1 := Lib.hid (HA0.out.below hb); obtain ⟨⟨d0, d1⟩, ⟨d2, d3⟩, d4, d5⟩ := HC6.out _ HA1.out; clear hb) | (go_at_call 50; refine (HSM.out _).mono ?_; rintro _ w2 ⟨rfl, hb⟩; have HA2 := Lib.hid (HA1.out.below hb); obtain ⟨⟨e0, e1⟩, ⟨e2, e3⟩, e4, e5⟩ := HC6.out _ HA2.out; clear hb) | (go_at_call 19; refine (awake_any _).mono ?_; rintro _ w9 ⟨rfl, hb⟩; have HZ := Lib.hid (HA2.out.below hb); clear hb))
    go_ret
    exact ⟨rfl, HZ.out.fr⟩
  have kq1 : ¬ ((n1 : Int) > 30) := by omega
  by_cases q2 : n2 ≤ 30
  case neg =>
    have kq : ((n2 : Int) > 30) := by omega
    go_wp2_with (first | (go_at_call 18; refine (HTH.out _).mono ?_; rintro _ w1 ⟨rfl, hb⟩; have HA1 := Lib.hid (HA0.out.below hb); obtain ⟨⟨d0, d1⟩, ⟨d2, d3⟩, d4, d5⟩ := HC6.out _ HA1.out; clear hb) | (go_at_call 50; refine (HSM.out _).mono ?_; rintro _ w2 ⟨rfl, hb⟩; have HA2 := Lib.hid (HA1.out.below hb); obtain ⟨⟨e0, e1⟩, ⟨e2, e3⟩, e4, e5⟩ := HC6.out _ HA2.out; clear hb) | (go_at_call 19; refine (awake_any _).mono ?_; rintro _ w9 ⟨rfl, hb⟩; have HZ := Lib.hid (HA2.out.below hb); clear hb))
    go_ret
    exact ⟨rfl, HZ.out.fr⟩
  have kq2 : ¬ ((n2 : Int) > 30) := by omega
  obtain ⟨hw11, hr24⟩ := HTB.out rfl
  obtain ⟨hl70, hc12⟩ := HSB.out rfl
  have kw1 : m.nw ≤ 100000 := by omega
  have kr1 : m.nr ≤ 100000 := by omega
  have HMC := Lib.hid (fun W (hW : Below w.heap.size w W) => mapC_any x m W (HMP.out.below hW) kw1 kr1)
  have HWC := Lib.hid (fun W (hW : Below w.heap.size w W) => walkC_any ua va nl uc nc vc rt ct W (HUU.out.below hW).rt (HUU.out.below hW).ct (by omega) (by omega))
  have HTC := Lib.hid (fun W (hW : Below w.heap.size w W) => truthC_any ta sa n1 tc n2 sc tw tr W (HT1.out.below hW) (HT2.out.below hW) (by omega) (by omega))
  have HTI := Lib.hid (fun (y : MV) (u : LV) (t : TV) W (hW : MpIn W y m) (hU : WlIn W u ⟨nl, rt, nc, ct⟩) h1 h2 => Time_any y m u ⟨nl, rt, nc, ct⟩ t n1 n2 tw tr W hW hU h1 h2 kw1 kr1 (by show nl ≤ 100000; omega) (by show nc ≤ 100000; omega))
  have HBO := Lib.hid (fun (y : MV) (u : LV) W (hW : MpIn W y m) (hU : WlIn W u ⟨nl, rt, nc, ct⟩) => bounds_any y m u ⟨nl, rt, nc, ct⟩ W hW hU kw1 kr1 (by show nl ≤ 100000; omega) (by show nc ≤ 100000; omega))
  have HCK := Lib.hid (fun (y : MV) W (hW : MpIn W y m) => check_any y m W hW kw1 kr1)
  have HFA := Lib.hid (fun W (hW : Below w.heap.size w W) => lfault_any x m W (HMP.out.below hW) kw1 kr1)
  have HIW := Lib.hid (fun W (hW : Below w.heap.size w W) => rWalk_any x m ⟨ua, uc, va, vc⟩ ⟨nl, rt, nc, ct⟩ W (HMP.out.below hW) (HUU.out.below hW) (by show nl ≤ 100000; omega) (by show nc ≤ 100000; omega) kw1 kr1)
  have HQU := Lib.hid (fun W (hW : Below w.heap.size w W) => rQuick_any x m W (HMP.out.below hW) kw1 kr1)
  have HSL := Lib.hid (fun W (hW : Below w.heap.size w W) => rSlow_any x m W (HMP.out.below hW) kw1 kr1)
  have HIT := Lib.hid (fun W (hW : Below w.heap.size w W) => rTruth_any x m ⟨ta, tc, sa, sc⟩ n1 n2 tw tr W (HMP.out.below hW) (HT1.out.below hW) (HT2.out.below hW) kw1 kr1)
  have HRT : Hid (m.fault = 0 → walkE m ⟨nl, rt, nc, ct⟩ = 0 → ∀ (t : TV) (tw tr : Nat → Int), TrBd m tw tr → ∀ W, Below w.heap.size w W → TrIn W t m tw tr → Calls Try.prog 57 #[.agg #[.slice x.wa m.nw x.wc, .slice x.ra m.nr x.rc], .agg #[.slice ua nl uc, .slice va nc vc], .agg #[.slice t.wa m.nw t.wc, .slice t.ra m.nr t.rc]] W fun e w' => e = .returned (.int .i64 (timeZ m ⟨nl, rt, nc, ct⟩ tw tr)) ∧ Below W.heap.size W w') := fun e1 e2 t tw tr hb W hW ht => rTime_any x m ⟨ua, uc, va, vc⟩ ⟨nl, rt, nc, ct⟩ t tw tr W (HMP.out.below hW) (HUU.out.below hW) ht (wlOk_of (okM_of e1) e2) kr1 (by show nc ≤ 100000; omega) hb
  have HIE : Hid (m.fault = 0 → (isWalkB m ⟨nl, rt, nc, ct⟩ = true ↔ walkE m ⟨nl, rt, nc, ct⟩ = 0)) := fun e => isWalk_iff (okM_of e) _
  have HWE : Hid (walkE m ⟨nl, rt, nc, ct⟩ = if 64 < nl then 3 else if walkOk m ⟨nl, rt, nc, ct⟩ = true then 0 else 2) := rfl
  have HTE : Hid (timeE m ⟨nl, rt, nc, ct⟩ n1 n2 tw tr = if m.fault ≠ 0 then m.fault else if walkE m ⟨nl, rt, nc, ct⟩ ≠ 0 then walkE m ⟨nl, rt, nc, ct⟩ else if truthB m n1 n2 tw tr = true then 0 else 2) := rfl
  have HTV : Hid (timeV m ⟨nl, rt, nc, ct⟩ n1 n2 tw tr = if timeE m ⟨nl, rt, nc, ct⟩ n1 n2 tw tr = 0 then timeZ m ⟨nl, rt, nc, ct⟩ tw tr else 0) := rfl
  have HBE : Hid (boundsE m ⟨nl, rt, nc, ct⟩ = if m.fault ≠ 0 then m.fault else walkE m ⟨nl, rt, nc, ct⟩) := rfl
  have HBR : Hid (boundsR m ⟨nl, rt, nc, ct⟩ = if boundsE m ⟨nl, rt, nc, ct⟩ = 0 then (timeZ m ⟨nl, rt, nc, ct⟩ (fun i => (m.wk i).1) (fun i => (m.rt i).1), timeZ m ⟨nl, rt, nc, ct⟩ (fun i => (m.wk i).2) (fun i => (m.rt i).2)) else (0, 0)) := rfl
  have HTT : Hid (m.fault = 0 → truthB m n1 n2 tw tr = true → n1 = m.nw ∧ n2 = m.nr ∧ TrBd m tw tr) := fun e1 e3 => by
    have ok := okM_of e1
    unfold truthB at e3
    simp only [Bool.and_eq_true, decide_eq_true_eq] at e3
    obtain ⟨r1, r2, a1, a2⟩ := e3
    exact ⟨r1, r2, ⟨fun i hi => by have := allB_iff.1 a1 i hi; have := ok.wk i hi; simp only [inB, Bool.and_eq_true, decide_eq_true_eq] at *; omega, fun i hi => by have := allB_iff.1 a2 i hi; have := ok.rt i hi; simp only [inB, Bool.and_eq_true, decide_eq_true_eq] at *; omega⟩⟩
  have HQL : Hid (m.fault = 0 → TrBd m (fun i => (m.wk i).1) (fun i => (m.rt i).1) ∧ TrBd m (fun i => (m.wk i).2) (fun i => (m.rt i).2)) := fun e => ⟨trBd_low (okM_of e), trBd_high (okM_of e)⟩
  simp only at HTI HBO HIW HIT
  generalize boundsR m ⟨nl, rt, nc, ct⟩ = br at *
  obtain ⟨bl, bh⟩ := br
  simp only at HBO HBR
  generalize boundsE m ⟨nl, rt, nc, ct⟩ = be at *
  generalize timeV m ⟨nl, rt, nc, ct⟩ n1 n2 tw tr = tv at *
  generalize timeE m ⟨nl, rt, nc, ct⟩ n1 n2 tw tr = te at *
  generalize walkE m ⟨nl, rt, nc, ct⟩ = we at *
  generalize walkOk m ⟨nl, rt, nc, ct⟩ = wo at *
  generalize isWalkB m ⟨nl, rt, nc, ct⟩ = iw at *
  generalize truthB m n1 n2 tw tr = trb at *
  obtain ⟨ft, hft⟩ : ∃ ft, ft = m.fault := ⟨_, rfl⟩
  rw [← hft] at HRT HIE HTE HBE HTT HQL HCK HFA
  clear hft
  go_upto_region 4 with (first | (go_at_call 18; refine (HTH.out _).mono ?_; rintro _ w1 ⟨rfl, hb⟩; have HA1 := Lib.hid (HA0.out.below hb); obtain ⟨⟨d0, d1⟩, ⟨d2, d3⟩, d4, d5⟩ := HC6.out _ HA1.out; clear hb) | (go_at_call 50; refine (HSM.out _).mono ?_; rintro _ w2 ⟨rfl, hb⟩; have HA2 := Lib.hid (HA1.out.below hb); obtain ⟨⟨e0, e1⟩, ⟨e2, e3⟩, e4, e5⟩ := HC6.out _ HA2.out; clear hb) | (go_at_call 21; refine (HMC.out _ HA2.out.fr).mono ?_; rintro _ w3 ⟨y3, rfl, hm, hb⟩; have HA3 := Lib.hid (HA2.out.below hb); have HM3 := Lib.hid hm; clear hm hb) | (go_at_call 51; refine (HCK.out y3 _ HM3.out).mono ?_; rintro _ wr4 ⟨rfl, hb⟩; have HB4 := Lib.hid (HA3.out.below hb); clear hb))
  clear HA0 HA1 HA2 HA3 HM3 HTH HSM HC6 c0 c1 c2 c3 c4 c5 d0 d1 d2 d3 d4 d5 e0 e1 e2 e3 e4 e5 HCK
  go_cut [8, 9] (fun s1 s2 wx => s1 = .int .i64 tv ∧ s2 = .int .i64 te ∧ BF w wx [(w.heap.size, #[.slice x.wa m.nw x.wc, .slice x.ra m.nr x.rc], 25), (w.heap.size + 1, #[.slice ua nl uc, .slice va nc vc], 49), (w.heap.size + 2, #[.slice ta n1 tc, .slice sa n2 sc], 71)])
  case first =>
    have HAX : Hid (BF w wr4.drew [(w.heap.size, #[.slice x.wa m.nw x.wc, .slice x.ra m.nr x.rc], 25), (w.heap.size + 1, #[.slice ua nl uc, .slice va nc vc], 49), (w.heap.size + 2, #[.slice ta n1 tc, .slice sa n2 sc], 71)]) := HB4.out.below (Below.refl _ _).drew
    refine wp_region_Z (S := fun X => X.cell? ⟨w.heap.size, 0, none⟩ = some (.slice x.wa m.nw x.wc) ∧ X.cell? ⟨w.heap.size, 1, none⟩ = some (.slice x.ra m.nr x.rc) ∧ X.cell? ⟨w.heap.size + 1, 0, none⟩ = some (.slice ua nl uc) ∧ X.cell? ⟨w.heap.size + 1, 1, none⟩ = some (.slice va nc vc) ∧ X.cell? ⟨w.heap.size + 2, 0, none⟩ = some (.slice ta n1 tc) ∧ X.cell? ⟨w.heap.size + 2, 1, none⟩ = some (.slice sa n2 sc)) (by kernel_rfl) (⟨HAX.out.cell (.head _) 0, HAX.out.cell (.head _) 1, HAX.out.cell (.tail _ (.head _)) 0, HAX.out.cell (.tail _ (.head _)) 1, HAX.out.cell (.tail _ (.tail _ (.head _))) 0, HAX.out.cell (.tail _ (.tail _ (.head _))) 1⟩) (fun hS => ?_)
    generalize wr4.drew = X at *
    refine tk [0, 2, 4] ?_
    repeat (refine tkZ (oi := ⟨_, _, _, _, _, _⟩) (v := ?_) rfl (by kernel_rfl) (by rfl) (fun _ _ _ h => h) hS ?_ ?_; rotate_left; (· rintro W' ⟨z0, z1, z2, z3, z4, z5⟩; go_simp; try with_reducible rfl); try simp only [Act.put, putA, putZ, putS])
    refine tk0 ?_
    refine wpAnyZ_next (rs := [1]) (by kernel_rfl) (by simp) ?_
    refine NextZ.cons (o := ⟨some 39, _, _, _, _, _⟩) rfl (fun K hK => ?_) NextZ.nil
    go_simp
    refine (HMC.out X HAX.out.fr).mono ?_
    rintro _ X0 ⟨y0, rfl, hm0, hb0⟩
    (try go_wp2_with fail)
    have HA0 := Lib.hid (HAX.out.below hb0)
    have HM0 := Lib.hid (hm0)
    refine hK.out _ _ (⟨HA0.out.cell (.head _) 0, HA0.out.cell (.head _) 1, HA0.out.cell (.tail _ (.head _)) 0, HA0.out.cell (.tail _ (.head _)) 1, HA0.out.cell (.tail _ (.tail _ (.head _))) 0, HA0.out.cell (.tail _ (.tail _ (.head _))) 1⟩) (fun hS => ?_)
    clear hK K
    try simp only [Act.put, putA, putZ, putS]
    clear hb0 hm0
    refine wpAnyZ_next (rs := [3]) (by kernel_rfl) (by simp) ?_
    refine NextZ.cons (o := ⟨some 41, _, _, _, _, _⟩) rfl (fun K hK => ?_) NextZ.nil
    go_simp
    refine (HWC.out X0 HA0.out.fr).mono ?_
    rintro _ X1 ⟨a1, d1, a2, d2, rfl, hw1, hv1, hb1⟩
    (try go_wp2_with fail)
    have HA1 := Lib.hid (HA0.out.below hb1)
    have HM1 := Lib.hid (HM0.out.below hb1)
    have HW1 := Lib.hid (hw1)
    have HV1 := Lib.hid (hv1)
    refine hK.out _ _ (⟨HA1.out.cell (.head _) 0, HA1.out.cell (.head _) 1, HA1.out.cell (.tail _ (.head _)) 0, HA1.out.cell (.tail _ (.head _)) 1, HA1.out.cell (.tail _ (.tail _ (.head _))) 0, HA1.out.cell (.tail _ (.tail _ (.head _))) 1⟩) (fun hS => ?_)
    clear hK K
    try simp only [Act.put, putA, putZ, putS]
    clear hb1 hw1 hv1
    refine wpAnyZ_next (rs := [5]) (by kernel_rfl) (by simp) ?_
    refine NextZ.cons (o := ⟨some 43, _, _, _, _, _⟩) rfl (fun K hK => ?_) NextZ.nil
    go_simp
    refine (HTC.out X1 HA1.out.fr).mono ?_
    rintro _ X2 ⟨b1, f1, b2, f2, rfl, hp2, hq2, hb2⟩
    (try go_wp2_with fail)
    have HA2 := Lib.hid (HA1.out.below hb2)
    have HM2 := Lib.hid (HM1.out.below hb2)
    have HW2 := Lib.hid (HW1.out.below hb2)
    have HV2 := Lib.hid (HV1.out.below hb2)
    have HP2 := Lib.hid (hp2)
    have HQ2 := Lib.hid (hq2)
    refine hK.out _ _ (⟨HA2.out.cell (.head _) 0, HA2.out.cell (.head _) 1, HA2.out.cell (.tail _ (.head _)) 0, HA2.out.cell (.tail _ (.head _)) 1, HA2.out.cell (.tail _ (.tail _ (.head _))) 0, HA2.out.cell (.tail _ (.tail _ (.head _))) 1⟩) (fun hS => ?_)
    clear hK K
    try simp only [Act.put, putA, putZ, putS]
    clear hb2 hp2 hq2
    refine wpAnyZ_next (rs := [6]) (by kernel_rfl) (by simp) ?_
    refine NextZ.cons (o := ⟨some 44, _, _, _, _, _⟩) rfl (fun K hK => ?_) NextZ.nil
    go_simp
    refine (HTI.out y0 ⟨a1, d1, a2, d2⟩ ⟨b1, f1, b2, f2⟩ _ HM2.out ⟨HW2.out, HV2.out⟩ HP2.out HQ2.out).mono ?_
    rintro _ X3 ⟨rfl, hb3⟩
    (try go_wp2_with fail)
    have HA3 := Lib.hid (HA2.out.below hb3)
    refine hK.out _ _ (⟨HA3.out.cell (.head _) 0, HA3.out.cell (.head _) 1, HA3.out.cell (.tail _ (.head _)) 0, HA3.out.cell (.tail _ (.head _)) 1, HA3.out.cell (.tail _ (.tail _ (.head _))) 0, HA3.out.cell (.tail _ (.tail _ (.head _))) 1⟩) (fun hS => ?_)
    clear hK K
    try simp only [Act.put, putA, putZ, putS]
    clear hb3
    refine tk [7, 8, 9, 10, 11] ?_
    repeat (refine tkZ (oi := ⟨_, _, _, _, _, _⟩) (v := ?_) rfl (by kernel_rfl) (by rfl) (fun _ _ _ h => h) hS ?_ ?_; rotate_left; (· rintro W' ⟨z0, z1, z2, z3, z4, z5⟩; go_simp; try with_reducible rfl); try simp only [Act.put, putA, putZ, putS])
    refine tk0 ?_
    refine wpAnyZ_done (by kernel_rfl) ?_ _
    go_wp2_with fail
    go_meet
    exact ⟨rfl, rfl, HA3.out⟩
  case rest =>
    obtain ⟨rfl, rfl, hbf⟩ := hcut
    rename World => wr5
    have HB5 := Lib.hid hbf
    clear hbf HB4
    go_upto_region 5 with fail
    go_cut [10, 11] (fun s7 s8 wx => ∃ RB, s7 = .pointer (some ⟨RB, 0, none⟩) ∧ s8 = .int .i64 be ∧ BF w wx [(RB, #[.int .i64 bl, .int .i64 bh], 100), (w.heap.size, #[.slice x.wa m.nw x.wc, .slice x.ra m.nr x.rc], 25), (w.heap.size + 1, #[.slice ua nl uc, .slice va nc vc], 49), (w.heap.size + 2, #[.slice ta n1 tc, .slice sa n2 sc], 71)])
    case first =>
      have HAX : Hid (BF w wr5.drew [(w.heap.size, #[.slice x.wa m.nw x.wc, .slice x.ra m.nr x.rc], 25), (w.heap.size + 1, #[.slice ua nl uc, .slice va nc vc], 49), (w.heap.size + 2, #[.slice ta n1 tc, .slice sa n2 sc], 71)]) := HB5.out.below (Below.refl _ _).drew
      refine wp_region_Z (S := fun X => X.cell? ⟨w.heap.size, 0, none⟩ = some (.slice x.wa m.nw x.wc) ∧ X.cell? ⟨w.heap.size, 1, none⟩ = some (.slice x.ra m.nr x.rc) ∧ X.cell? ⟨w.heap.size + 1, 0, none⟩ = some (.slice ua nl uc) ∧ X.cell? ⟨w.heap.size + 1, 1, none⟩ = some (.slice va nc vc)) (by kernel_rfl) (⟨HAX.out.cell (.head _) 0, HAX.out.cell (.head _) 1, HAX.out.cell (.tail _ (.head _)) 0, HAX.out.cell (.tail _ (.head _)) 1⟩) (fun hS => ?_)
      generalize wr5.drew = X at *
      refine tk [0, 2] ?_
      repeat (refine tkZ (oi := ⟨_, _, _, _, _, _⟩) (v := ?_) rfl (by kernel_rfl) (by rfl) (fun _ _ _ h => h) hS ?_ ?_; rotate_left; (· rintro W' ⟨z0, z1, z2, z3⟩; go_simp; try with_reducible rfl); try simp only [Act.put, putA, putZ, putS])
      refine tk0 ?_
      refine wpAnyZ_next (rs := [1, 8]) (by kernel_rfl) (by simp) ?_
      refine NextZ.cons (o := ⟨some 49, _, _, _, _, _⟩) rfl (fun K hK => ?_) ?_
      ·
       go_simp
       refine (HMC.out X HAX.out.fr).mono ?_
       rintro _ X0 ⟨y0, rfl, hm0, hb0⟩
       (try go_wp2_with fail)
       have HA0 := Lib.hid (HAX.out.below hb0)
       have HM0 := Lib.hid (hm0)
       refine hK.out _ _ (⟨HA0.out.cell (.head _) 0, HA0.out.cell (.head _) 1, HA0.out.cell (.tail _ (.head _)) 0, HA0.out.cell (.tail _ (.head _)) 1⟩) (fun hS => ?_)
       clear hK K
       try simp only [Act.put, putA, putZ, putS]
       clear hb0 hm0
       refine wpAnyZ_next (rs := [3, 8]) (by kernel_rfl) (by simp) ?_
       refine NextZ.cons (o := ⟨some 51, _, _, _, _, _⟩) rfl (fun K hK => ?_) ?_
       ·
        go_simp
        refine (HWC.out X0 HA0.out.fr).mono ?_
        rintro _ X1 ⟨a1, d1, a2, d2, rfl, hw1, hv1, hb1⟩
        (try go_wp2_with fail)
        have HA1 := Lib.hid (HA0.out.below hb1)
        have HM1 := Lib.hid (HM0.out.below hb1)
        have HW1 := Lib.hid (hw1)
        have HV1 := Lib.hid (hv1)
        refine hK.out _ _ (⟨HA1.out.cell (.head _) 0, HA1.out.cell (.head _) 1, HA1.out.cell (.tail _ (.head _)) 0, HA1.out.cell (.tail _ (.head _)) 1⟩) (fun hS => ?_)
        clear hK K
        try simp only [Act.put, putA, putZ, putS]
        clear hb1 hw1 hv1
        refine wpAnyZ_next (rs := [4, 8]) (by kernel_rfl) (by simp) ?_
        refine NextZ.cons (o := ⟨some 52, _, _, _, _, _⟩) rfl (fun K hK => ?_) ?_
        ·
         go_simp
         refine (HBO.out y0 ⟨a1, d1, a2, d2⟩ _ HM1.out ⟨HW1.out, HV1.out⟩).mono ?_
         rintro _ X2 ⟨rfl, hb2⟩
         (try go_wp2_with fail)
         have HA2 := Lib.hid (HA1.out.below hb2)
         refine hK.out _ _ (⟨HA2.out.cell (.head _) 0, HA2.out.cell (.head _) 1, HA2.out.cell (.tail _ (.head _)) 0, HA2.out.cell (.tail _ (.head _)) 1⟩) (fun hS => ?_)
         clear hK K
         try simp only [Act.put, putA, putZ, putS]
         clear hb2
         refine tk [5, 6, 7] ?_
         repeat (refine tkZ (oi := ⟨_, _, _, _, _, _⟩) (v := ?_) rfl (by kernel_rfl) (by rfl) (fun _ _ _ h => h) hS ?_ ?_; rotate_left; (· rintro W' ⟨z0, z1, z2, z3⟩; go_simp; try with_reducible rfl); try simp only [Act.put, putA, putZ, putS])
         refine tk0 ?_
         refine wpAnyZ_next (rs := [8]) (by kernel_rfl) (by simp) ?_
         refine NextZ.cons (o := ⟨some 10, _, _, _, _, _⟩) rfl (fun K hK => ?_) NextZ.nil
         go_simp
         have HA3 := Lib.hid (HA2.out.alloc #[.int .i64 0, .int .i64 0] 100)
         have hn3M := (HA2.out.lt (.head _)).2
         have hn3Y := (HA2.out.lt (.tail _ (.head _))).2
         have hn3T := (HA2.out.lt (.tail _ (.tail _ (.head _)))).2
         have hn3_ := HA2.out.fr.size
         refine hK.out _ _ (⟨HA3.out.cell (.tail _ (.head _)) 0, HA3.out.cell (.tail _ (.head _)) 1, HA3.out.cell (.tail _ (.tail _ (.head _))) 0, HA3.out.cell (.tail _ (.tail _ (.head _))) 1⟩) (fun hS => ?_)
         clear hK K
         try simp only [Act.put, putA, putZ, putS]
         generalize X2.heap.size = B3 at *
         generalize (X2.alloc (.cells #[.int .i64 0, .int .i64 0] 100)) = X3 at *
         refine wpAnyZ_next (rs := [9]) (by kernel_rfl) (by simp) ?_
         refine NextZ.cons (o := ⟨none, _, _, _, _, _⟩) rfl (fun K hK => ?_) NextZ.nil
         have e0 := HA3.out.cell (.head _) 0
         have e1 := HA3.out.cell (.head _) 1
         have f0 := HA3.out.thaw (.head _) 0
         have f1 := HA3.out.thaw (.head _) 1
         have HA4 := Lib.hid (BF.set2 HA3.out (.head _) (.int .i64 bl) (.int .i64 bh) (L' := [(w.heap.size, #[.slice x.wa m.nw x.wc, .slice x.ra m.nr x.rc], 25), (w.heap.size + 1, #[.slice ua nl uc, .slice va nc vc], 49), (w.heap.size + 2, #[.slice ta n1 tc, .slice sa n2 sc], 71)]) (List.forall_mem_cons.2 ⟨⟨show w.heap.size ≠ B3 by omega, (.tail _ (.head _))⟩, List.forall_mem_cons.2 ⟨⟨show w.heap.size + 1 ≠ B3 by omega, (.tail _ (.tail _ (.head _)))⟩, List.forall_mem_cons.2 ⟨⟨show w.heap.size + 2 ≠ B3 by omega, (.tail _ (.tail _ (.tail _ (.head _))))⟩, List.forall_mem_nil _⟩⟩⟩))
         go_simp
         refine hK.out _ _ (⟨HA4.out.cell (.tail _ (.head _)) 0, HA4.out.cell (.tail _ (.head _)) 1, HA4.out.cell (.tail _ (.tail _ (.head _))) 0, HA4.out.cell (.tail _ (.tail _ (.head _))) 1⟩) (fun hS => ?_)
         clear hK K
         (try simp only [Act.put])
         clear e0 e1 f0 f1
         refine tZ 10 (oi := ⟨_, _, _, _, _, _⟩) (v := ?_) rfl (by kernel_rfl) (by rfl) (fun _ _ _ h => h) hS ?_ ?_
         rotate_left
         · rintro W' ⟨z0, z1, z2, z3⟩; go_simp; try with_reducible rfl
         try simp only [Act.put, putA, putZ, putS]
         refine wpAnyZ_done (by kernel_rfl) ?_ _
         go_wp2_with fail
         go_meet
         exact ⟨B3, rfl, rfl, HA4.out.sub (List.forall_mem_cons.2 ⟨(.head _), List.forall_mem_cons.2 ⟨(.tail _ (.head _)), List.forall_mem_cons.2 ⟨(.tail _ (.tail _ (.head _))), List.forall_mem_cons.2 ⟨(.tail _ (.tail _ (.tail _ (.head _)))), List.forall_mem_nil _⟩⟩⟩⟩)⟩
        refine NextZ.cons (o := ⟨some 10, _, _, _, _, _⟩) rfl (fun K hK => ?_) NextZ.nil
        have HM5 := Lib.hid (HM1.out.below (below_alloc X1 (.cells #[.int .i64 0, .int .i64 0] 100)))
        have HW5 := Lib.hid (HW1.out.below (below_alloc X1 (.cells #[.int .i64 0, .int .i64 0] 100)))
        have HV5 := Lib.hid (HV1.out.below (below_alloc X1 (.cells #[.int .i64 0, .int .i64 0] 100)))
        go_simp
        have HA5 := Lib.hid (HA1.out.alloc #[.int .i64 0, .int .i64 0] 100)
        have hn5M := (HA1.out.lt (.head _)).2
        have hn5Y := (HA1.out.lt (.tail _ (.head _))).2
        have hn5T := (HA1.out.lt (.tail _ (.tail _ (.head _)))).2
        have hn5_ := HA1.out.fr.size
        refine hK.out _ _ (⟨HA5.out.cell (.tail _ (.head _)) 0, HA5.out.cell (.tail _ (.head _)) 1, HA5.out.cell (.tail _ (.tail _ (.head _))) 0, HA5.out.cell (.tail _ (.tail _ (.head _))) 1⟩) (fun hS => ?_)
        clear hK K
        try simp only [Act.put, putA, putZ, putS]
        generalize X1.heap.size = B5 at *
        generalize (X1.alloc (.cells #[.int .i64 0, .int .i64 0] 100)) = X5 at *
        refine wpAnyZ_next (rs := [4]) (by kernel_rfl) (by simp) ?_
        refine NextZ.cons (o := ⟨some 52, _, _, _, _, _⟩) rfl (fun K hK => ?_) NextZ.nil
        go_simp
        refine (HBO.out y0 ⟨a1, d1, a2, d2⟩ _ HM5.out ⟨HW5.out, HV5.out⟩).mono ?_
        rintro _ X6 ⟨rfl, hb6⟩
        (try go_wp2_with fail)
        have HA6 := Lib.hid (HA5.out.below hb6)
        refine hK.out _ _ (⟨HA6.out.cell (.tail _ (.head _)) 0, HA6.out.cell (.tail _ (.head _)) 1, HA6.out.cell (.tail _ (.tail _ (.head _))) 0, HA6.out.cell (.tail _ (.tail _ (.head _))) 1⟩) (fun hS => ?_)
        clear hK K
        try simp only [Act.put, putA, putZ, putS]
        clear hb6
        refine tk [5, 6, 7] ?_
        repeat (refine tkZ (oi := ⟨_, _, _, _, _, _⟩) (v := ?_) rfl (by kernel_rfl) (by rfl) (fun _ _ _ h => h) hS ?_ ?_; rotate_left; (· rintro W' ⟨z0, z1, z2, z3⟩; go_simp; try with_reducible rfl); try simp only [Act.put, putA, putZ, putS])
        refine tk0 ?_
        refine wpAnyZ_next (rs := [9]) (by kernel_rfl) (by simp) ?_
        refine NextZ.cons (o := ⟨none, _, _, _, _, _⟩) rfl (fun K hK => ?_) NextZ.nil
        have e0 := HA6.out.cell (.head _) 0
        have e1 := HA6.out.cell (.head _) 1
        have f0 := HA6.out.thaw (.head _) 0
        have f1 := HA6.out.thaw (.head _) 1
        have HA7 := Lib.hid (BF.set2 HA6.out (.head _) (.int .i64 bl) (.int .i64 bh) (L' := [(w.heap.size, #[.slice x.wa m.nw x.wc, .slice x.ra m.nr x.rc], 25), (w.heap.size + 1, #[.slice ua nl uc, .slice va nc vc], 49), (w.heap.size + 2, #[.slice ta n1 tc, .slice sa n2 sc], 71)]) (List.forall_mem_cons.2 ⟨⟨show w.heap.size ≠ B5 by omega, (.tail _ (.head _))⟩, List.forall_mem_cons.2 ⟨⟨show w.heap.size + 1 ≠ B5 by omega, (.tail _ (.tail _ (.head _)))⟩, List.forall_mem_cons.2 ⟨⟨show w.heap.size + 2 ≠ B5 by omega, (.tail _ (.tail _ (.tail _ (.head _))))⟩, List.forall_mem_nil _⟩⟩⟩))
        go_simp
        refine hK.out _ _ (⟨HA7.out.cell (.tail _ (.head _)) 0, HA7.out.cell (.tail _ (.head _)) 1, HA7.out.cell (.tail _ (.tail _ (.head _))) 0, HA7.out.cell (.tail _ (.tail _ (.head _))) 1⟩) (fun hS => ?_)
        clear hK K
        (try simp only [Act.put])
        clear e0 e1 f0 f1
        refine tZ 10 (oi := ⟨_, _, _, _, _, _⟩) (v := ?_) rfl (by kernel_rfl) (by rfl) (fun _ _ _ h => h) hS ?_ ?_
        rotate_left
        · rintro W' ⟨z0, z1, z2, z3⟩; go_simp; try with_reducible rfl
        try simp only [Act.put, putA, putZ, putS]
        refine wpAnyZ_done (by kernel_rfl) ?_ _
        go_wp2_with fail
        go_meet
        exact ⟨B5, rfl, rfl, HA7.out.sub (List.forall_mem_cons.2 ⟨(.head _), List.forall_mem_cons.2 ⟨(.tail _ (.head _)), List.forall_mem_cons.2 ⟨(.tail _ (.tail _ (.head _))), List.forall_mem_cons.2 ⟨(.tail _ (.tail _ (.tail _ (.head _)))), List.forall_mem_nil _⟩⟩⟩⟩)⟩
       refine NextZ.cons (o := ⟨some 10, _, _, _, _, _⟩) rfl (fun K hK => ?_) NextZ.nil
       have HM8 := Lib.hid (HM0.out.below (below_alloc X0 (.cells #[.int .i64 0, .int .i64 0] 100)))
       go_simp
       have HA8 := Lib.hid (HA0.out.alloc #[.int .i64 0, .int .i64 0] 100)
       have hn8M := (HA0.out.lt (.head _)).2
       have hn8Y := (HA0.out.lt (.tail _ (.head _))).2
       have hn8T := (HA0.out.lt (.tail _ (.tail _ (.head _)))).2
       have hn8_ := HA0.out.fr.size
       refine hK.out _ _ (⟨HA8.out.cell (.tail _ (.head _)) 0, HA8.out.cell (.tail _ (.head _)) 1, HA8.out.cell (.tail _ (.tail _ (.head _))) 0, HA8.out.cell (.tail _ (.tail _ (.head _))) 1⟩) (fun hS => ?_)
       clear hK K
       try simp only [Act.put, putA, putZ, putS]
       generalize X0.heap.size = B8 at *
       generalize (X0.alloc (.cells #[.int .i64 0, .int .i64 0] 100)) = X8 at *
       refine wpAnyZ_next (rs := [3]) (by kernel_rfl) (by simp) ?_
       refine NextZ.cons (o := ⟨some 51, _, _, _, _, _⟩) rfl (fun K hK => ?_) NextZ.nil
       go_simp
       refine (HWC.out X8 HA8.out.fr).mono ?_
       rintro _ X9 ⟨a1, d1, a2, d2, rfl, hw9, hv9, hb9⟩
       (try go_wp2_with fail)
       have HA9 := Lib.hid (HA8.out.below hb9)
       have HM9 := Lib.hid (HM8.out.below hb9)
       have HW9 := Lib.hid (hw9)
       have HV9 := Lib.hid (hv9)
       refine hK.out _ _ (⟨HA9.out.cell (.tail _ (.head _)) 0, HA9.out.cell (.tail _ (.head _)) 1, HA9.out.cell (.tail _ (.tail _ (.head _))) 0, HA9.out.cell (.tail _ (.tail _ (.head _))) 1⟩) (fun hS => ?_)
       clear hK K
       try simp only [Act.put, putA, putZ, putS]
       clear hb9 hw9 hv9
       refine wpAnyZ_next (rs := [4]) (by kernel_rfl) (by simp) ?_
       refine NextZ.cons (o := ⟨some 52, _, _, _, _, _⟩) rfl (fun K hK => ?_) NextZ.nil
       go_simp
       refine (HBO.out y0 ⟨a1, d1, a2, d2⟩ _ HM9.out ⟨HW9.out, HV9.out⟩).mono ?_
       rintro _ X10 ⟨rfl, hb10⟩
       (try go_wp2_with fail)
       have HA10 := Lib.hid (HA9.out.below hb10)
       refine hK.out _ _ (⟨HA10.out.cell (.tail _ (.head _)) 0, HA10.out.cell (.tail _ (.head _)) 1, HA10.out.cell (.tail _ (.tail _ (.head _))) 0, HA10.out.cell (.tail _ (.tail _ (.head _))) 1⟩) (fun hS => ?_)
       clear hK K
       try simp only [Act.put, putA, putZ, putS]
       clear hb10
       refine tk [5, 6, 7] ?_
       repeat (refine tkZ (oi := ⟨_, _, _, _, _, _⟩) (v := ?_) rfl (by kernel_rfl) (by rfl) (fun _ _ _ h => h) hS ?_ ?_; rotate_left; (· rintro W' ⟨z0, z1, z2, z3⟩; go_simp; try with_reducible rfl); try simp only [Act.put, putA, putZ, putS])
       refine tk0 ?_
       refine wpAnyZ_next (rs := [9]) (by kernel_rfl) (by simp) ?_
       refine NextZ.cons (o := ⟨none, _, _, _, _, _⟩) rfl (fun K hK => ?_) NextZ.nil
       have e0 := HA10.out.cell (.head _) 0
       have e1 := HA10.out.cell (.head _) 1
       have f0 := HA10.out.thaw (.head _) 0
       have f1 := HA10.out.thaw (.head _) 1
       have HA11 := Lib.hid (BF.set2 HA10.out (.head _) (.int .i64 bl) (.int .i64 bh) (L' := [(w.heap.size, #[.slice x.wa m.nw x.wc, .slice x.ra m.nr x.rc], 25), (w.heap.size + 1, #[.slice ua nl uc, .slice va nc vc], 49), (w.heap.size + 2, #[.slice ta n1 tc, .slice sa n2 sc], 71)]) (List.forall_mem_cons.2 ⟨⟨show w.heap.size ≠ B8 by omega, (.tail _ (.head _))⟩, List.forall_mem_cons.2 ⟨⟨show w.heap.size + 1 ≠ B8 by omega, (.tail _ (.tail _ (.head _)))⟩, List.forall_mem_cons.2 ⟨⟨show w.heap.size + 2 ≠ B8 by omega, (.tail _ (.tail _ (.tail _ (.head _))))⟩, List.forall_mem_nil _⟩⟩⟩))
       go_simp
       refine hK.out _ _ (⟨HA11.out.cell (.tail _ (.head _)) 0, HA11.out.cell (.tail _ (.head _)) 1, HA11.out.cell (.tail _ (.tail _ (.head _))) 0, HA11.out.cell (.tail _ (.tail _ (.head _))) 1⟩) (fun hS => ?_)
       clear hK K
       (try simp only [Act.put])
       clear e0 e1 f0 f1
       refine tZ 10 (oi := ⟨_, _, _, _, _, _⟩) (v := ?_) rfl (by kernel_rfl) (by rfl) (fun _ _ _ h => h) hS ?_ ?_
       rotate_left
       · rintro W' ⟨z0, z1, z2, z3⟩; go_simp; try with_reducible rfl
       try simp only [Act.put, putA, putZ, putS]
       refine wpAnyZ_done (by kernel_rfl) ?_ _
       go_wp2_with fail
       go_meet
       exact ⟨B8, rfl, rfl, HA11.out.sub (List.forall_mem_cons.2 ⟨(.head _), List.forall_mem_cons.2 ⟨(.tail _ (.head _)), List.forall_mem_cons.2 ⟨(.tail _ (.tail _ (.head _))), List.forall_mem_cons.2 ⟨(.tail _ (.tail _ (.tail _ (.head _)))), List.forall_mem_nil _⟩⟩⟩⟩)⟩
      refine NextZ.cons (o := ⟨some 10, _, _, _, _, _⟩) rfl (fun K hK => ?_) NextZ.nil
      go_simp
      have HA12 := Lib.hid (HAX.out.alloc #[.int .i64 0, .int .i64 0] 100)
      have hn12M := (HAX.out.lt (.head _)).2
      have hn12Y := (HAX.out.lt (.tail _ (.head _))).2
      have hn12T := (HAX.out.lt (.tail _ (.tail _ (.head _)))).2
      have hn12_ := HAX.out.fr.size
      refine hK.out _ _ (⟨HA12.out.cell (.tail _ (.head _)) 0, HA12.out.cell (.tail _ (.head _)) 1, HA12.out.cell (.tail _ (.tail _ (.head _))) 0, HA12.out.cell (.tail _ (.tail _ (.head _))) 1⟩) (fun hS => ?_)
      clear hK K
      try simp only [Act.put, putA, putZ, putS]
      generalize X.heap.size = B12 at *
      generalize (X.alloc (.cells #[.int .i64 0, .int .i64 0] 100)) = X12 at *
      refine wpAnyZ_next (rs := [1]) (by kernel_rfl) (by simp) ?_
      refine NextZ.cons (o := ⟨some 49, _, _, _, _, _⟩) rfl (fun K hK => ?_) NextZ.nil
      go_simp
      refine (HMC.out X12 HA12.out.fr).mono ?_
      rintro _ X13 ⟨y13, rfl, hm13, hb13⟩
      (try go_wp2_with fail)
      have HA13 := Lib.hid (HA12.out.below hb13)
      have HM13 := Lib.hid (hm13)
      refine hK.out _ _ (⟨HA13.out.cell (.tail _ (.head _)) 0, HA13.out.cell (.tail _ (.head _)) 1, HA13.out.cell (.tail _ (.tail _ (.head _))) 0, HA13.out.cell (.tail _ (.tail _ (.head _))) 1⟩) (fun hS => ?_)
      clear hK K
      try simp only [Act.put, putA, putZ, putS]
      clear hb13 hm13
      refine wpAnyZ_next (rs := [3]) (by kernel_rfl) (by simp) ?_
      refine NextZ.cons (o := ⟨some 51, _, _, _, _, _⟩) rfl (fun K hK => ?_) NextZ.nil
      go_simp
      refine (HWC.out X13 HA13.out.fr).mono ?_
      rintro _ X14 ⟨a1, d1, a2, d2, rfl, hw14, hv14, hb14⟩
      (try go_wp2_with fail)
      have HA14 := Lib.hid (HA13.out.below hb14)
      have HM14 := Lib.hid (HM13.out.below hb14)
      have HW14 := Lib.hid (hw14)
      have HV14 := Lib.hid (hv14)
      refine hK.out _ _ (⟨HA14.out.cell (.tail _ (.head _)) 0, HA14.out.cell (.tail _ (.head _)) 1, HA14.out.cell (.tail _ (.tail _ (.head _))) 0, HA14.out.cell (.tail _ (.tail _ (.head _))) 1⟩) (fun hS => ?_)
      clear hK K
      try simp only [Act.put, putA, putZ, putS]
      clear hb14 hw14 hv14
      refine wpAnyZ_next (rs := [4]) (by kernel_rfl) (by simp) ?_
      refine NextZ.cons (o := ⟨some 52, _, _, _, _, _⟩) rfl (fun K hK => ?_) NextZ.nil
      go_simp
      refine (HBO.out y13 ⟨a1, d1, a2, d2⟩ _ HM14.out ⟨HW14.out, HV14.out⟩).mono ?_
      rintro _ X15 ⟨rfl, hb15⟩
      (try go_wp2_with fail)
      have HA15 := Lib.hid (HA14.out.below hb15)
      refine hK.out _ _ (⟨HA15.out.cell (.tail _ (.head _)) 0, HA15.out.cell (.tail _ (.head _)) 1, HA15.out.cell (.tail _ (.tail _ (.head _))) 0, HA15.out.cell (.tail _ (.tail _ (.head _))) 1⟩) (fun hS => ?_)
      clear hK K
      try simp only [Act.put, putA, putZ, putS]
      clear hb15
      refine tk [5, 6, 7] ?_
      repeat (refine tkZ (oi := ⟨_, _, _, _, _, _⟩) (v := ?_) rfl (by kernel_rfl) (by rfl) (fun _ _ _ h => h) hS ?_ ?_; rotate_left; (· rintro W' ⟨z0, z1, z2, z3⟩; go_simp; try with_reducible rfl); try simp only [Act.put, putA, putZ, putS])
      refine tk0 ?_
      refine wpAnyZ_next (rs := [9]) (by kernel_rfl) (by simp) ?_
      refine NextZ.cons (o := ⟨none, _, _, _, _, _⟩) rfl (fun K hK => ?_) NextZ.nil
      have e0 := HA15.out.cell (.head _) 0
      have e1 := HA15.out.cell (.head _) 1
      have f0 := HA15.out.thaw (.head _) 0
      have f1 := HA15.out.thaw (.head _) 1
      have HA16 := Lib.hid (BF.set2 HA15.out (.head _) (.int .i64 bl) (.int .i64 bh) (L' := [(w.heap.size, #[.slice x.wa m.nw x.wc, .slice x.ra m.nr x.rc], 25), (w.heap.size + 1, #[.slice ua nl uc, .slice va nc vc], 49), (w.heap.size + 2, #[.slice ta n1 tc, .slice sa n2 sc], 71)]) (List.forall_mem_cons.2 ⟨⟨show w.heap.size ≠ B12 by omega, (.tail _ (.head _))⟩, List.forall_mem_cons.2 ⟨⟨show w.heap.size + 1 ≠ B12 by omega, (.tail _ (.tail _ (.head _)))⟩, List.forall_mem_cons.2 ⟨⟨show w.heap.size + 2 ≠ B12 by omega, (.tail _ (.tail _ (.tail _ (.head _))))⟩, List.forall_mem_nil _⟩⟩⟩))
      go_simp
      refine hK.out _ _ (⟨HA16.out.cell (.tail _ (.head _)) 0, HA16.out.cell (.tail _ (.head _)) 1, HA16.out.cell (.tail _ (.tail _ (.head _))) 0, HA16.out.cell (.tail _ (.tail _ (.head _))) 1⟩) (fun hS => ?_)
      clear hK K
      (try simp only [Act.put])
      clear e0 e1 f0 f1
      refine tZ 10 (oi := ⟨_, _, _, _, _, _⟩) (v := ?_) rfl (by kernel_rfl) (by rfl) (fun _ _ _ h => h) hS ?_ ?_
      rotate_left
      · rintro W' ⟨z0, z1, z2, z3⟩; go_simp; try with_reducible rfl
      try simp only [Act.put, putA, putZ, putS]
      refine wpAnyZ_done (by kernel_rfl) ?_ _
      go_wp2_with fail
      go_meet
      exact ⟨B12, rfl, rfl, HA16.out.sub (List.forall_mem_cons.2 ⟨(.head _), List.forall_mem_cons.2 ⟨(.tail _ (.head _)), List.forall_mem_cons.2 ⟨(.tail _ (.tail _ (.head _))), List.forall_mem_cons.2 ⟨(.tail _ (.tail _ (.tail _ (.head _)))), List.forall_mem_nil _⟩⟩⟩⟩)⟩
    case rest =>
      obtain ⟨RB, rfl, rfl, hbf⟩ := hcut
      rename World => wr6
      have HB6 := Lib.hid hbf
      clear hbf HB5
      have HCA := Lib.hid (fun X (hX : BF w X [(RB, #[.int .i64 bl, .int .i64 bh], 100), (w.heap.size, #[.slice x.wa m.nw x.wc, .slice x.ra m.nr x.rc], 25), (w.heap.size + 1, #[.slice ua nl uc, .slice va nc vc], 49), (w.heap.size + 2, #[.slice ta n1 tc, .slice sa n2 sc], 71)]) => And.intro (And.intro (hX.cell (.head _) 0) (hX.cell (.head _) 1)) (And.intro (And.intro (hX.cell (.tail _ (.head _)) 0) (hX.cell (.tail _ (.head _)) 1)) (And.intro (And.intro (hX.cell (.tail _ (.tail _ (.head _))) 0) (hX.cell (.tail _ (.tail _ (.head _))) 1)) (And.intro (hX.cell (.tail _ (.tail _ (.tail _ (.head _)))) 0) (hX.cell (.tail _ (.tail _ (.tail _ (.head _)))) 1)))))
      obtain ⟨⟨c0, c1⟩, ⟨c2, c3⟩, ⟨c4, c5⟩, c6, c7⟩ := HCA.out _ HB6.out
      clear HTI HBO HMC HWC HTC
      by_cases k1 : ft = 0
      case neg =>
        have kb : (ft != 0) = true := by simp [k1]
        have h1 : te = ft := by rw [HTE.out, if_pos k1]
        have h2 : be = ft := by rw [HBE.out, if_pos k1]
        subst h1 h2
        have h3 : tv = 0 := by rw [HTV.out, if_neg k1]
        have h4 := HBR.out
        rw [if_neg k1] at h4
        cases h4
        subst h3
        have HEZ := Lib.hid (fun W => eql_same 0 0 W)
        clear HTE HBE HTV HBR HRT HIE HTT HQL HWE
        go_wp2_with (first | (go_at_call 23; refine (HFA.out _ HB6.out.fr).mono ?_; rintro _ w7 ⟨rfl, hb⟩; have HB7 := Lib.hid (HB6.out.below hb); obtain ⟨⟨d0, d1⟩, ⟨d2, d3⟩, ⟨d4, d5⟩, d6, d7⟩ := HCA.out _ HB7.out; clear hb) | (go_at_call 19; refine (awake_any _).mono ?_; rintro _ w9 ⟨rfl, hb⟩; have HZ := Lib.hid (HB7.out.below hb); clear hb))
        go_ret
        exact ⟨rfl, HZ.out.fr⟩
      subst k1
      have HTE2 : Hid (te = if we ≠ 0 then we else if trb = true then 0 else 2) := HTE.out
      have h2 : be = we := HBE.out
      subst h2
      clear HTE HBE
      by_cases k64 : 64 < nl
      · have k6 : ((nl : Int) > 64) := by omega
        have hwe : be = 3 := by rw [HWE.out, if_pos k64]
        subst hwe
        have h1 : te = 3 := by rw [HTE2.out, if_pos (by decide)]
        subst h1
        have h3 : tv = 0 := by rw [HTV.out, if_neg (by decide)]
        have h4 := HBR.out
        rw [if_neg (by decide)] at h4
        cases h4
        subst h3
        have HEZ := Lib.hid (fun W => eql_same 0 0 W)
        clear HTE2 HTV HBR HRT HIE HTT HQL HWE
        go_wp2_with (first | (go_at_call 23; refine (HFA.out _ HB6.out.fr).mono ?_; rintro _ w7 ⟨rfl, hb⟩; have HB7 := Lib.hid (HB6.out.below hb); obtain ⟨⟨d0, d1⟩, ⟨d2, d3⟩, ⟨d4, d5⟩, d6, d7⟩ := HCA.out _ HB7.out; clear hb) | (go_at_call 19; refine (awake_any _).mono ?_; rintro _ w9 ⟨rfl, hb⟩; have HZ := Lib.hid (HB7.out.below hb); clear hb))
        go_ret
        exact ⟨rfl, HZ.out.fr⟩
      have k6 : ¬ ((nl : Int) > 64) := by omega
      have HWE2 : Hid (be = if wo = true then 0 else 2) := by have h := HWE.out; rw [if_neg k64] at h; exact h
      clear HWE k64
      cases iw
      · have hwe : be = 2 := by
          have h := HWE2.out
          cases wo
          · exact h
          · exact absurd ((HIE.out rfl).2 h) (by decide)
        subst hwe
        have h1 : te = 2 := by rw [HTE2.out, if_pos (by decide)]
        subst h1
        have h3 : tv = 0 := by rw [HTV.out, if_neg (by decide)]
        have h4 := HBR.out
        rw [if_neg (by decide)] at h4
        cases h4
        subst h3
        have HEZ := Lib.hid (fun W => eql_same 0 0 W)
        clear HTE2 HTV HBR HRT HIE HTT HQL HWE2
        go_wp2_with (first | (go_at_call 23; refine (HFA.out _ HB6.out.fr).mono ?_; rintro _ w7 ⟨rfl, hb⟩; have HB7 := Lib.hid (HB6.out.below hb); obtain ⟨⟨d0, d1⟩, ⟨d2, d3⟩, ⟨d4, d5⟩, d6, d7⟩ := HCA.out _ HB7.out; clear hb) | (go_at_call 27; refine (HIW.out _ HB7.out.fr).mono ?_; rintro _ w8 ⟨rfl, hb⟩; have HB8 := Lib.hid (HB7.out.below hb); obtain ⟨⟨e0, e1⟩, ⟨e2, e3⟩, ⟨e4, e5⟩, e6, e7⟩ := HCA.out _ HB8.out; clear hb) | (go_at_call 19; refine (awake_any _).mono ?_; rintro _ w9 ⟨rfl, hb⟩; have HZ := Lib.hid (HB8.out.below hb); clear hb))
        go_ret
        exact ⟨rfl, HZ.out.fr⟩
      have hwe : be = 0 := (HIE.out rfl).1 rfl
      subst hwe
      have HTE3 : Hid (te = if trb = true then 0 else 2) := HTE2.out
      have h4 := HBR.out
      rw [if_pos rfl] at h4
      obtain ⟨hq1, hs1⟩ := HQL.out rfl
      have HRQ := Lib.hid (fun W hW (t : TV) ht => HRT.out rfl rfl t _ _ hq1 W hW ht)
      have HRS := Lib.hid (fun W hW (t : TV) ht => HRT.out rfl rfl t _ _ hs1 W hW ht)
      have h5 := congrArg Prod.fst h4
      have h6 := congrArg Prod.snd h4
      simp only at h5 h6
      rw [← h5] at HRQ
      rw [← h6] at HRS
      clear h4 h5 h6 HBR HTE2 HWE2 HIE HQL hq1 hs1
      go_upto_region 16 with (first | (go_at_call 23; refine (HFA.out _ HB6.out.fr).mono ?_; rintro _ w7 ⟨rfl, hb⟩; have HB7 := Lib.hid (HB6.out.below hb); obtain ⟨⟨d0, d1⟩, ⟨d2, d3⟩, ⟨d4, d5⟩, d6, d7⟩ := HCA.out _ HB7.out; clear hb) | (go_at_call 27; refine (HIW.out _ HB7.out.fr).mono ?_; rintro _ wr16 ⟨rfl, hb⟩; have HB16 := Lib.hid (HB7.out.below hb); clear hb))
      clear c0 c1 c2 c3 c4 c5 c6 c7 d0 d1 d2 d3 d4 d5 d6 d7 HB6 HB7 HFA HIW
      have HNE := Lib.hid (fun W => neq_same bl bh W)
      have HAX : Hid (BF w wr16.drew [(RB, #[.int .i64 bl, .int .i64 bh], 100), (w.heap.size, #[.slice x.wa m.nw x.wc, .slice x.ra m.nr x.rc], 25), (w.heap.size + 1, #[.slice ua nl uc, .slice va nc vc], 49), (w.heap.size + 2, #[.slice ta n1 tc, .slice sa n2 sc], 71)]) := HB16.out.below (Below.refl _ _).drew
      refine wp_region_Z (S := fun X => X.cell? ⟨RB, 0, none⟩ = some (.int .i64 bl) ∧ X.cell? ⟨RB, 1, none⟩ = some (.int .i64 bh) ∧ X.cell? ⟨w.heap.size, 0, none⟩ = some (.slice x.wa m.nw x.wc) ∧ X.cell? ⟨w.heap.size, 1, none⟩ = some (.slice x.ra m.nr x.rc) ∧ X.cell? ⟨w.heap.size + 1, 0, none⟩ = some (.slice ua nl uc) ∧ X.cell? ⟨w.heap.size + 1, 1, none⟩ = some (.slice va nc vc)) (by kernel_rfl) (⟨HAX.out.cell (.head _) 0, HAX.out.cell (.head _) 1, HAX.out.cell (.tail _ (.head _)) 0, HAX.out.cell (.tail _ (.head _)) 1, HAX.out.cell (.tail _ (.tail _ (.head _))) 0, HAX.out.cell (.tail _ (.tail _ (.head _))) 1⟩) (fun hS => ?_)
      generalize wr16.drew = X at *
      refine tk [0, 1, 2, 3, 4, 5, 6, 9, 10, 11] ?_
      repeat (refine tkZ (oi := ⟨_, _, _, _, _, _⟩) (v := ?_) rfl (by kernel_rfl) (by rfl) (fun _ _ _ h => h) hS ?_ ?_; rotate_left; (· rintro W' ⟨z0, z1, z2, z3, z4, z5⟩; go_simp; try with_reducible rfl); try simp only [Act.put, putA, putZ, putS])
      refine tk0 ?_
      refine wpAnyZ_next (rs := [7]) (by kernel_rfl) (by simp) ?_
      refine NextZ.cons (o := ⟨some 102, _, _, _, _, _⟩) rfl (fun K hK => ?_) NextZ.nil
      go_simp
      refine (HQU.out X HAX.out.fr).mono ?_
      rintro _ X0 ⟨⟨g1, g2, g3, g4⟩, rfl, ht0, hb0⟩
      (try go_wp2_with fail)
      have HA0 := Lib.hid (HAX.out.below hb0)
      have HG0 := Lib.hid (ht0.tr)
      refine hK.out _ _ (⟨HA0.out.cell (.head _) 0, HA0.out.cell (.head _) 1, HA0.out.cell (.tail _ (.head _)) 0, HA0.out.cell (.tail _ (.head _)) 1, HA0.out.cell (.tail _ (.tail _ (.head _))) 0, HA0.out.cell (.tail _ (.tail _ (.head _))) 1⟩) (fun hS => ?_)
      clear hK K
      try simp only [Act.put, putA, putZ, putS]
      clear hb0 ht0
      refine wpAnyZ_next (rs := [8]) (by kernel_rfl) (by simp) ?_
      refine NextZ.cons (o := ⟨some 103, _, _, _, _, _⟩) rfl (fun K hK => ?_) NextZ.nil
      go_simp
      refine (HRQ.out X0 HA0.out.fr ⟨g1, g2, g3, g4⟩ HG0.out).mono ?_
      rintro _ X1 ⟨rfl, hb1⟩
      (try go_wp2_with fail)
      have HA1 := Lib.hid (HA0.out.below hb1)
      refine hK.out _ _ (⟨HA1.out.cell (.head _) 0, HA1.out.cell (.head _) 1, HA1.out.cell (.tail _ (.head _)) 0, HA1.out.cell (.tail _ (.head _)) 1, HA1.out.cell (.tail _ (.tail _ (.head _))) 0, HA1.out.cell (.tail _ (.tail _ (.head _))) 1⟩) (fun hS => ?_)
      clear hK K
      try simp only [Act.put, putA, putZ, putS]
      clear hb1
      refine wpAnyZ_next (rs := [12]) (by kernel_rfl) (by simp) ?_
      refine NextZ.cons (o := ⟨some 107, _, _, _, _, _⟩) rfl (fun K hK => ?_) NextZ.nil
      go_simp
      refine (HSL.out X1 HA1.out.fr).mono ?_
      rintro _ X2 ⟨⟨h1, h2, h3, h4⟩, rfl, ht2, hb2⟩
      (try go_wp2_with fail)
      have HA2 := Lib.hid (HA1.out.below hb2)
      have HH2 := Lib.hid (ht2.tr)
      refine hK.out _ _ (⟨HA2.out.cell (.head _) 0, HA2.out.cell (.head _) 1, HA2.out.cell (.tail _ (.head _)) 0, HA2.out.cell (.tail _ (.head _)) 1, HA2.out.cell (.tail _ (.tail _ (.head _))) 0, HA2.out.cell (.tail _ (.tail _ (.head _))) 1⟩) (fun hS => ?_)
      clear hK K
      try simp only [Act.put, putA, putZ, putS]
      clear hb2 ht2
      refine wpAnyZ_next (rs := [13]) (by kernel_rfl) (by simp) ?_
      refine NextZ.cons (o := ⟨some 108, _, _, _, _, _⟩) rfl (fun K hK => ?_) NextZ.nil
      go_simp
      refine (HRS.out X2 HA2.out.fr ⟨h1, h2, h3, h4⟩ HH2.out).mono ?_
      rintro _ X3 ⟨rfl, hb3⟩
      (try go_wp2_with fail)
      have HA3 := Lib.hid (HA2.out.below hb3)
      refine hK.out _ _ (⟨HA3.out.cell (.head _) 0, HA3.out.cell (.head _) 1, HA3.out.cell (.tail _ (.head _)) 0, HA3.out.cell (.tail _ (.head _)) 1, HA3.out.cell (.tail _ (.tail _ (.head _))) 0, HA3.out.cell (.tail _ (.tail _ (.head _))) 1⟩) (fun hS => ?_)
      clear hK K
      try simp only [Act.put, putA, putZ, putS]
      clear hb3
      refine wpAnyZ_next (rs := [14]) (by kernel_rfl) (by simp) ?_
      refine NextZ.cons (o := ⟨some 109, _, _, _, _, _⟩) rfl (fun K hK => ?_) NextZ.nil
      go_simp
      refine (between_any _ _ _).mono ?_
      rintro _ X4 ⟨rfl, hb4⟩
      (try go_wp2_with fail)
      have HA4 := Lib.hid (HA3.out.below hb4)
      refine hK.out _ _ (⟨HA4.out.cell (.head _) 0, HA4.out.cell (.head _) 1, HA4.out.cell (.tail _ (.head _)) 0, HA4.out.cell (.tail _ (.head _)) 1, HA4.out.cell (.tail _ (.tail _ (.head _))) 0, HA4.out.cell (.tail _ (.tail _ (.head _))) 1⟩) (fun hS => ?_)
      clear hK K
      try simp only [Act.put, putA, putZ, putS]
      clear hb4
      refine tk [15, 16] ?_
      repeat (refine tkZ (oi := ⟨_, _, _, _, _, _⟩) (v := ?_) rfl (by kernel_rfl) (by rfl) (fun _ _ _ h => h) hS ?_ ?_; rotate_left; (· rintro W' ⟨z0, z1, z2, z3, z4, z5⟩; go_simp; try with_reducible rfl); try simp only [Act.put, putA, putZ, putS])
      refine tk0 ?_
      refine wpAnyZ_done (by kernel_rfl) ?_ _
      have HB17 := Lib.hid (HA4.out)
      generalize X4 = w17 at *
      clear hS HRQ HRS HQU HSL HNE
      obtain ⟨⟨c0, c1⟩, ⟨c2, c3⟩, ⟨c4, c5⟩, c6, c7⟩ := HCA.out _ HB17.out
      cases trb
      · have h1 : te = 2 := HTE3.out
        subst h1
        have h3 : tv = 0 := by rw [HTV.out, if_neg (by decide)]
        subst h3
        clear HTE3 HTV HTT HRT
        go_wp2_with (first | (go_at_call 59; refine (HIT.out _ HB17.out.fr).mono ?_; rintro _ w8 ⟨rfl, hb⟩; have HB8 := Lib.hid (HB17.out.below hb); clear hb) | (go_at_call 19; refine (awake_any _).mono ?_; rintro _ w9 ⟨rfl, hb⟩; have HZ := Lib.hid (HB8.out.below hb); clear hb))
        go_ret
        exact ⟨rfl, HZ.out.fr⟩
      · have h1 : te = 0 := HTE3.out
        subst h1
        have h3 := HTV.out
        rw [if_pos rfl] at h3
        obtain ⟨rfl, rfl, hbd⟩ := HTT.out (by first | rfl | trivial) (by first | rfl | trivial)
        have HRR := Lib.hid (fun W (hW : Below w.heap.size w W) => HRT.out (by first | rfl | trivial) (by first | rfl | trivial) ⟨ta, tc, sa, sc⟩ tw tr hbd W hW ⟨HT1.out.below hW, HT2.out.below hW⟩)
        simp only at HRR
        rw [← h3] at HRR
        clear HTE3 HTV HTT HRT h3 hbd
        go_wp2_with (first | (go_at_call 59; refine (HIT.out _ HB17.out.fr).mono ?_; rintro _ w8 ⟨rfl, hb⟩; have HB8 := Lib.hid (HB17.out.below hb); obtain ⟨⟨d0, d1⟩, ⟨d2, d3⟩, ⟨d4, d5⟩, d6, d7⟩ := HCA.out _ HB8.out; clear hb) | (go_at_call 57; refine (HRR.out _ HB8.out.fr).mono ?_; rintro _ w9 ⟨rfl, hb⟩; have HB9 := Lib.hid (HB8.out.below hb); clear hb) | (go_at_call 19; refine (awake_any _).mono ?_; rintro _ w10 ⟨rfl, hb⟩; have HZ := Lib.hid (HB9.out.below hb); clear hb))
        go_ret
        exact ⟨rfl, HZ.out.fr⟩
end Go.Proofs.Ytpnkgjkoophckaa
