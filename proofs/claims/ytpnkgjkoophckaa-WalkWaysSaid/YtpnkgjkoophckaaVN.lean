/- Walk: WalkWays' walk. Printed by gen_vn.py. -/
import Derived.Test.YtpnkgjkoophckaaVM
import Derived.Test.YtpnkgjkoophckaaVL
namespace Go.Proofs.Ytpnkgjkoophckaa
open Go.RowKit Go.Shelf Go.Maps

set_option maxRecDepth 100000 in
set_option maxHeartbeats 32000000 in
theorem walkWays_walk (x : MV) (m : Mp) (a b : Int) (w : World) (h : MpLaw w x m) :
    Calls Try.prog 7 #[.agg #[.slice x.wa m.nw x.wc, .slice x.ra m.nr x.rc], .int .i64 a, .int .i64 b] w fun e w' => e = .returned (.bool true) ∧ Below w.heap.size w w' := by
  have hbw := h.bw; have hbr := h.br
  unfold maxLen at hbw hbr
  have HTH := Lib.hid (fun W => thin_any x m.nw m.nr W)
  have HMP := Lib.hid h.l
  obtain ⟨tb, htb⟩ : ∃ tb, tb = (decide (m.nw ≤ 11) && decide (m.nr ≤ 24)) := ⟨_, rfl⟩
  have HTB : Hid (tb = true → m.nw ≤ 11 ∧ m.nr ≤ 24) := fun e => by rw [htb] at e; simp only [Bool.and_eq_true, decide_eq_true_eq] at e; exact e
  rw [← htb] at HTH
  clear htb h
  have HA0 : Hid (BF w (w.alloc (.cells #[.slice x.wa m.nw x.wc, .slice x.ra m.nr x.rc] 25)) [(w.heap.size, #[.slice x.wa m.nw x.wc, .slice x.ra m.nr x.rc], 25)]) := (BF.base w).alloc _ _
  go_enter Try.func7, Try.ntmps7
  go_upto_region 1 with fail
  generalize w.alloc (.cells #[.slice x.wa m.nw x.wc, .slice x.ra m.nr x.rc] 25) = w0 at *
  have c0 := HA0.out.cell (.head _) 0
  have c1 := HA0.out.cell (.head _) 1
  cases tb
  · go_wp2_with (first | (go_at_call 18; refine (HTH.out _).mono ?_; rintro _ w1 ⟨rfl, hb⟩; have HA1 := Lib.hid (HA0.out.below hb); clear hb) | (go_at_call 19; refine (awake_any _).mono ?_; rintro _ w9 ⟨rfl, hb⟩; have HZ := Lib.hid (HA1.out.below hb); clear hb))
    go_ret
    exact ⟨rfl, HZ.out.fr⟩
  obtain ⟨hw11, hr24⟩ := HTB.out rfl
  have kw1 : m.nw ≤ 100000 := by omega
  have kr1 : m.nr ≤ 100000 := by omega
  have HMC := Lib.hid (fun W (hW : Below w.heap.size w W) => mapC_any x m W (HMP.out.below hW) kw1 kr1)
  have HWA := Lib.hid (fun (y : MV) W (hW : MpIn W y m) => Way_any y m a b W hW kw1 kr1)
  unfold GivesY at HWA
  have HFA := Lib.hid (fun W (hW : Below w.heap.size w W) => lfault_any x m W (HMP.out.below hW) kw1 kr1)
  have HI1 := Lib.hid (fun W => rIn_any a 0 ((m.nw : Int) - 1) W)
  have HI2 := Lib.hid (fun W => rIn_any b 0 ((m.nw : Int) - 1) W)
  have HWE : Hid (wayE m a b = if m.fault ≠ 0 then m.fault else if (inB a 0 ((m.nw : Int) - 1) && inB b 0 ((m.nw : Int) - 1)) = true then (if 1048576 ≤ tmA m a.toNat b.toNat then 7 else 0) else 2) := rfl
  have HIA : Hid (inB a 0 ((m.nw : Int) - 1) = true → ∃ k : Nat, a = k ∧ k < m.nw) := fun h => by simp only [inB, Bool.and_eq_true, decide_eq_true_eq] at h; exact ⟨a.toNat, by omega, by omega⟩
  have HIB : Hid (inB b 0 ((m.nw : Int) - 1) = true → ∃ k : Nat, b = k ∧ k < m.nw) := fun h => by simp only [inB, Bool.and_eq_true, decide_eq_true_eq] at h; exact ⟨b.toNat, by omega, by omega⟩
  have HOK := Lib.hid (okM_of (m := m))
  have kwr : IntKind.i64.wrap ((m.nw : Int) - 1) = (m.nw : Int) - 1 := IntWalk.i64_in _ (by omega)
  generalize inB a 0 ((m.nw : Int) - 1) = p1 at *
  generalize inB b 0 ((m.nw : Int) - 1) = p2 at *
  obtain ⟨ft, hft⟩ : ∃ ft, ft = m.fault := ⟨_, rfl⟩
  rw [← hft] at HFA HWE HOK
  clear hft
  go_wp2_with (first | (go_at_call 18; refine (HTH.out _).mono ?_; rintro _ w1 ⟨rfl, hb⟩; have HA1 := Lib.hid (HA0.out.below hb); have d0 := HA1.out.cell (.head _) 0; have d1 := HA1.out.cell (.head _) 1; clear hb))
  refine (HMC.out _ HA1.out.fr).mono ?_
  rintro _ w2 ⟨y, rfl, hm, hb⟩
  have HA2 := Lib.hid (HA1.out.below hb)
  have HM2 := Lib.hid hm
  clear hm hb c0 c1 d0 d1 HA0 HA1 HTH
  go_wp2_with fail
  refine (HWA.out y _ HM2.out).mono ?_
  rintro _ w3 ⟨hb, hwy⟩
  have HA3 := Lib.hid (HA2.out.below hb)
  have HSB := Lib.hid hb
  clear hb HM2 HMC HWA
  have c0 := HA3.out.cell (.head _) 0
  have c1 := HA3.out.cell (.head _) 1
  by_cases k1 : ft = 0
  case neg =>
    have kb : (ft != 0) = true := by simp [k1]
    have kb2 : (ft == 0) = false := by simp [k1]
    have he : wayE m a b = ft := by rw [HWE.out, if_pos k1]
    rw [he] at hwy
    rcases hwy with ⟨_, rfl⟩ | ⟨h0, _⟩
    · clear HWE he HIA HIB HOK
      go_wp2_with (first | (go_at_call 23; refine (HFA.out _ HA3.out.fr).mono ?_; rintro _ w4 ⟨rfl, hb⟩; have HA4 := Lib.hid (HA3.out.below hb); have d0 := HA4.out.cell (.head _) 0; have d1 := HA4.out.cell (.head _) 1; clear hb) | (go_at_call 19; refine (awake_any _).mono ?_; rintro _ w9 ⟨rfl, hb⟩; have HZ := Lib.hid (HA4.out.below hb); clear hb))
      go_ret
      exact ⟨rfl, HZ.out.fr⟩
    · exact absurd h0 k1
  subst k1
  have hok := HOK.out rfl
  have HWE2 : Hid (wayE m a b = if (p1 && p2) = true then (if 1048576 ≤ tmA m a.toNat b.toNat then 7 else 0) else 2) := HWE.out
  clear HWE HOK
  have T1 : True := trivial
  cases p1
  · have he : wayE m a b = 2 := HWE2.out
    rw [he] at hwy
    rcases hwy with ⟨_, rfl⟩ | ⟨h0, _⟩
    · clear HWE2 he HIA HIB hok
      go_wp2_with (first | (go_at_call 23; refine (HFA.out _ HA3.out.fr).mono ?_; rintro _ w4 ⟨rfl, hb⟩; have HA4 := Lib.hid (HA3.out.below hb); have d0 := HA4.out.cell (.head _) 0; have d1 := HA4.out.cell (.head _) 1; clear hb) | (go_at_call 24; refine (HI1.out _).mono ?_; rintro _ _ ⟨rfl, rfl⟩) | (go_at_call 19; refine (awake_any _).mono ?_; rintro _ w9 ⟨rfl, hb⟩; have HZ := Lib.hid (HA4.out.below hb); clear hb))
      go_ret
      exact ⟨rfl, HZ.out.fr⟩
    · exact absurd h0 (by decide)
  cases p2
  · have he : wayE m a b = 2 := HWE2.out
    rw [he] at hwy
    rcases hwy with ⟨_, rfl⟩ | ⟨h0, _⟩
    · clear HWE2 he HIA HIB hok
      go_wp2_with (first | (go_at_call 23; refine (HFA.out _ HA3.out.fr).mono ?_; rintro _ w4 ⟨rfl, hb⟩; have HA4 := Lib.hid (HA3.out.below hb); have d0 := HA4.out.cell (.head _) 0; have d1 := HA4.out.cell (.head _) 1; clear hb) | (go_at_call 24; have qq := T1; clear qq T1; refine (HI1.out _).mono ?_; rintro _ _ ⟨rfl, rfl⟩; have T2 : True := trivial) | (go_at_call 24; have qq := T2; clear qq T2; refine (HI2.out _).mono ?_; rintro _ _ ⟨rfl, rfl⟩; have T3 : True := trivial) | (go_at_call 19; refine (awake_any _).mono ?_; rintro _ w9 ⟨rfl, hb⟩; have HZ := Lib.hid (HA4.out.below hb); clear hb))
      go_ret
      exact ⟨rfl, HZ.out.fr⟩
    · exact absurd h0 (by decide)
  obtain ⟨ka, rfl, hka⟩ := HIA.out rfl
  obtain ⟨kb, rfl, hkb⟩ := HIB.out rfl
  have HWE3 : Hid (wayE m (ka : Int) (kb : Int) = if 1048576 ≤ tmA m ka kb then 7 else 0) := HWE2.out
  rw [Int.toNat_natCast, Int.toNat_natCast] at hwy
  have HRW := Lib.hid (fun W (hW : Below w.heap.size w W) => rWay_any hok x hka hkb W (HMP.out.below hW))
  have HSL := Lib.hid (fun W (hW : Below w.heap.size w W) => rSlow_any x m W (HMP.out.below hW) kw1 kr1)
  have HWP := Lib.hid (fun hf => wayL_pl hok hkb _ ka hka (Nat.lt_succ_self _) hf)
  have HPS := Lib.hid (fun l K (p : Pl m ka l kb K) => And.intro (p.isPath hok hka) (p.spec hok))
  have HW8 := Lib.hid (fun hf => wayL_8 hok hka hkb hf)
  have hRB := trBd_high hok
  have HPT0 := Lib.hid (fun W (hW : Below w.heap.size w W) la n lc z hz hn => rPath_any x m la n lc z (ka : Int) (kb : Int) W (HMP.out.below hW) hz hn kw1 kr1)
  have HAG0 := Lib.hid (fun W (hW : Below w.heap.size w W) (t : TV) la n lc z hz (ht : TrIn W t m (fun i => (m.wk i).2) (fun i => (m.rt i).2)) hn hrd => rAlong_any x m la n lc z t m.nw (fun i => (m.rt i).2) W (HMP.out.below hW) hz ht.rd hn kr1 hrd hRB.rd)
  obtain ⟨tm, htm⟩ : ∃ tm, tm = tmA m ka kb := ⟨_, rfl⟩
  rw [← htm] at HWE3 hwy HRW HWP HW8
  clear htm HWE2 HIA HIB hok
  by_cases hfar : 1048576 ≤ tm
  · rw [if_pos hfar] at HWE3
    rw [HWE3.out] at hwy
    have kf : (tm ≥ 1048576) := hfar
    rcases hwy with ⟨_, rfl⟩ | ⟨h0, _⟩
    · clear HWE3 HWP HPS HW8 HPT0 HAG0 hRB
      go_wp2_with (first | (go_at_call 23; refine (HFA.out _ HA3.out.fr).mono ?_; rintro _ w4 ⟨rfl, hb⟩; have HA4 := Lib.hid (HA3.out.below hb); have d0 := HA4.out.cell (.head _) 0; have d1 := HA4.out.cell (.head _) 1; clear hb) | (go_at_call 24; have qq := T1; clear qq T1; refine (HI1.out _).mono ?_; rintro _ _ ⟨rfl, rfl⟩; have T2 : True := trivial) | (go_at_call 24; have qq := T2; clear qq T2; refine (HI2.out _).mono ?_; rintro _ _ ⟨rfl, rfl⟩; have T3 : True := trivial) | (go_at_call 38; refine (HRW.out _ HA4.out.fr).mono ?_; rintro _ w5 ⟨rfl, hb⟩; have HA5 := Lib.hid (HA4.out.below hb); clear hb) | (go_at_call 19; refine (awake_any _).mono ?_; rintro _ w9 ⟨rfl, hb⟩; have HZ := Lib.hid (HA5.out.below hb); clear hb))
      go_ret
      exact ⟨rfl, HZ.out.fr⟩
    · exact absurd h0 (by decide)
  rw [if_neg hfar] at HWE3
  rw [HWE3.out] at hwy
  have kf : ¬ (tm ≥ 1048576) := hfar
  rcases hwy with ⟨h0, _⟩ | ⟨_, g, gc, rfl, how⟩
  · exact absurd rfl h0
  obtain ⟨l, hl, hp⟩ := HWP.out (by omega)
  have h8 := HW8.out (by omega)
  rw [hl] at h8 how ⊢
  obtain ⟨s1, s2, s3, s4⟩ := HPS.out l tm hp
  have HLI : Hid (IntsIn w3 (.slice (some ⟨g, 0, none⟩) (ka :: l).length gc) (ka :: l).length (zL (ka :: l))) := nL_ints how
  have hlen : (ka :: l).length = l.length + 1 := List.length_cons
  rw [hlen] at HLI h8 ⊢
  have HPT : Hid (∀ X, Below w.heap.size w X → IntsIn X (.slice (some ⟨g, 0, none⟩) (l.length + 1) gc) (l.length + 1) (zL (ka :: l)) → Calls Try.prog 39 #[.agg #[.slice x.wa m.nw x.wc, .slice x.ra m.nr x.rc], .slice (some ⟨g, 0, none⟩) (l.length + 1) gc, .int .i64 (ka : Int), .int .i64 (kb : Int)] X fun e w' => e = .returned (.bool true) ∧ Below X.heap.size X w') := fun X hX hz => by
    have h := HPT0.out X hX _ _ _ _ hz (by omega)
    rw [s1] at h
    exact h
  have HAG : Hid (∀ X, Below w.heap.size w X → ∀ t : TV, IntsIn X (.slice (some ⟨g, 0, none⟩) (l.length + 1) gc) (l.length + 1) (zL (ka :: l)) → TrIn X t m (fun i => (m.wk i).2) (fun i => (m.rt i).2) → Calls Try.prog 40 #[.agg #[.slice x.wa m.nw x.wc, .slice x.ra m.nr x.rc], .slice (some ⟨g, 0, none⟩) (l.length + 1) gc, .agg #[.slice t.wa m.nw t.wc, .slice t.ra m.nr t.rc]] X fun e w' => e = .returned (.int .i64 tm) ∧ Below X.heap.size X w') := fun X hX t hz ht => by
    have h := HAG0.out X hX t _ _ _ _ hz ht (by omega) (fun k hk => s3 k (by omega))
    rw [Nat.add_sub_cancel, s4] at h
    exact h
  obtain ⟨n1, hn1⟩ : ∃ n1, l.length + 1 = n1 := ⟨_, rfl⟩
  obtain ⟨zz, hzz⟩ : ∃ zz, zL (ka :: l) = zz := ⟨_, rfl⟩
  rw [hn1, hzz] at HPT HAG HLI
  rw [hn1] at h8 ⊢
  clear HWE3 HWP HPS HW8 HPT0 HAG0 hRB hl hp s1 s2 s3 s4 how hn1 hzz hlen
  go_upto_region 11 with (first | (go_at_call 23; refine (HFA.out _ HA3.out.fr).mono ?_; rintro _ w4 ⟨rfl, hb⟩; have HA4 := Lib.hid (HA3.out.below hb); have HL4 := Lib.hid (HLI.out.below hb); have d0 := HA4.out.cell (.head _) 0; have d1 := HA4.out.cell (.head _) 1; clear hb) | (go_at_call 24; have qq := T1; clear qq T1; refine (HI1.out _).mono ?_; rintro _ _ ⟨rfl, rfl⟩; have T2 : True := trivial) | (go_at_call 24; have qq := T2; clear qq T2; refine (HI2.out _).mono ?_; rintro _ _ ⟨rfl, rfl⟩; have T3 : True := trivial) | (go_at_call 38; refine (HRW.out _ HA4.out.fr).mono ?_; rintro _ w5 ⟨rfl, hb⟩; have HA5 := Lib.hid (HA4.out.below hb); have HL5 := Lib.hid (HL4.out.below hb); clear hb))
  have HAX : Hid (BF w w5.drew [(w.heap.size, #[.slice x.wa m.nw x.wc, .slice x.ra m.nr x.rc], 25)]) := HA5.out.below (Below.refl _ _).drew
  have HLX := Lib.hid (HL5.out.below (Below.refl w5.heap.size w5).drew)
  clear c0 c1 d0 d1 HA3 HA4 HA5 HLI HL4 HL5
  refine wp_region_Z (S := fun X => X.cell? ⟨w.heap.size, 0, none⟩ = some (.slice x.wa m.nw x.wc) ∧ X.cell? ⟨w.heap.size, 1, none⟩ = some (.slice x.ra m.nr x.rc)) (by kernel_rfl) (⟨HAX.out.cell (.head _) 0, HAX.out.cell (.head _) 1⟩) (fun hS => ?_)
  generalize w5.drew = X at *
  refine tk [0, 1, 2, 3, 4, 5, 6] ?_
  repeat (refine tkZ (oi := ⟨_, _, _, _, _, _⟩) (v := ?_) rfl (by kernel_rfl) (by rfl) (fun _ _ _ h => h) hS ?_ ?_; rotate_left; (· rintro W' ⟨z0, z1⟩; go_simp; try with_reducible rfl); try simp only [Act.put, putA, putZ, putS])
  refine tk0 ?_
  refine wpAnyZ_next (rs := [7]) (by kernel_rfl) (by simp) ?_
  refine NextZ.cons (o := ⟨some 78, _, _, _, _, _⟩) rfl (fun K hK => ?_) NextZ.nil
  go_simp
  refine (HRW.out X HAX.out.fr).mono ?_
  rintro _ X0 ⟨rfl, hb0⟩
  (try go_wp2_with fail)
  have HA0 := Lib.hid (HAX.out.below hb0)
  have HL0 := Lib.hid (HLX.out.below hb0)
  refine hK.out _ _ (⟨HA0.out.cell (.head _) 0, HA0.out.cell (.head _) 1⟩) (fun hS => ?_)
  clear hK K
  try simp only [Act.put, putA, putZ, putS]
  clear hb0
  refine tk [8, 9, 10, 11, 12, 13, 14] ?_
  repeat (refine tkZ (oi := ⟨_, _, _, _, _, _⟩) (v := ?_) rfl (by kernel_rfl) (by rfl) (fun _ _ _ h => h) hS ?_ ?_; rotate_left; (· rintro W' ⟨z0, z1⟩; go_simp; try with_reducible rfl); try simp only [Act.put, putA, putZ, putS])
  refine tk0 ?_
  refine wpAnyZ_next (rs := [15]) (by kernel_rfl) (by simp) ?_
  refine NextZ.cons (o := ⟨some 86, _, _, _, _, _⟩) rfl (fun K hK => ?_) NextZ.nil
  go_simp
  refine (HPT.out X0 HA0.out.fr HL0.out).mono ?_
  rintro _ X1 ⟨rfl, hb1⟩
  (try go_wp2_with fail)
  have HA1 := Lib.hid (HA0.out.below hb1)
  have HL1 := Lib.hid (HL0.out.below hb1)
  refine hK.out _ _ (⟨HA1.out.cell (.head _) 0, HA1.out.cell (.head _) 1⟩) (fun hS => ?_)
  clear hK K
  try simp only [Act.put, putA, putZ, putS]
  clear hb1
  refine tk [16, 17, 18, 19, 20, 23] ?_
  repeat (refine tkZ (oi := ⟨_, _, _, _, _, _⟩) (v := ?_) rfl (by kernel_rfl) (by rfl) (fun _ _ _ h => h) hS ?_ ?_; rotate_left; (· rintro W' ⟨z0, z1⟩; go_simp; try with_reducible rfl); try simp only [Act.put, putA, putZ, putS])
  refine tk0 ?_
  refine wpAnyZ_next (rs := [21]) (by kernel_rfl) (by simp) ?_
  refine NextZ.cons (o := ⟨some 92, _, _, _, _, _⟩) rfl (fun K hK => ?_) NextZ.nil
  go_simp
  refine (HSL.out X1 HA1.out.fr).mono ?_
  rintro _ X2 ⟨⟨h1, h2, h3, h4⟩, rfl, ht2, hb2⟩
  (try go_wp2_with fail)
  have HA2 := Lib.hid (HA1.out.below hb2)
  have HL2 := Lib.hid (HL1.out.below hb2)
  have HT2 := Lib.hid (ht2.tr)
  refine hK.out _ _ (⟨HA2.out.cell (.head _) 0, HA2.out.cell (.head _) 1⟩) (fun hS => ?_)
  clear hK K
  try simp only [Act.put, putA, putZ, putS]
  clear hb2 ht2
  refine wpAnyZ_next (rs := [22]) (by kernel_rfl) (by simp) ?_
  refine NextZ.cons (o := ⟨some 93, _, _, _, _, _⟩) rfl (fun K hK => ?_) NextZ.nil
  go_simp
  refine (HAG.out X2 HA2.out.fr ⟨h1, h2, h3, h4⟩ HL2.out HT2.out).mono ?_
  rintro _ X3 ⟨rfl, hb3⟩
  (try go_wp2_with fail)
  have HA3 := Lib.hid (HA2.out.below hb3)
  refine hK.out _ _ (⟨HA3.out.cell (.head _) 0, HA3.out.cell (.head _) 1⟩) (fun hS => ?_)
  clear hK K
  try simp only [Act.put, putA, putZ, putS]
  clear hb3
  refine tk [24, 25, 26] ?_
  repeat (refine tkZ (oi := ⟨_, _, _, _, _, _⟩) (v := ?_) rfl (by kernel_rfl) (by rfl) (fun _ _ _ h => h) hS ?_ ?_; rotate_left; (· rintro W' ⟨z0, z1⟩; go_simp; try with_reducible rfl); try simp only [Act.put, putA, putZ, putS])
  refine tk0 ?_
  refine wpAnyZ_next (rs := [27]) (by kernel_rfl) (by simp) ?_
  refine NextZ.cons (o := ⟨some 98, _, _, _, _, _⟩) rfl (fun K hK => ?_) NextZ.nil
  go_simp
  refine (awake_any _).mono ?_
  rintro _ X4 ⟨rfl, hb4⟩
  (try go_wp2_with fail)
  have HA4 := Lib.hid (HA3.out.below hb4)
  refine hK.out _ _ (⟨HA4.out.cell (.head _) 0, HA4.out.cell (.head _) 1⟩) (fun hS => ?_)
  clear hK K
  try simp only [Act.put, putA, putZ, putS]
  clear hb4
  refine tk [28, 29] ?_
  repeat (refine tkZ (oi := ⟨_, _, _, _, _, _⟩) (v := ?_) rfl (by kernel_rfl) (by rfl) (fun _ _ _ h => h) hS ?_ ?_; rotate_left; (· rintro W' ⟨z0, z1⟩; go_simp; try with_reducible rfl); try simp only [Act.put, putA, putZ, putS])
  refine tk0 ?_
  refine wpAnyZ_done (by kernel_rfl) ?_ _
  go_wp2
  go_ret
  exact ⟨rfl, HA4.out.fr⟩
end Go.Proofs.Ytpnkgjkoophckaa
