/- Walk: WalkBounds' walk. Printed by gen_vf.py. -/
import Derived.Test.YtpnkgjkoophckaaVE
namespace Go.Proofs.Ytpnkgjkoophckaa
open Go.RowKit Go.Shelf Go.Maps

set_option maxRecDepth 100000 in
set_option maxHeartbeats 32000000 in
theorem walkBounds_walk (x : MV) (m : Mp) (u : LV) (y : Wl) (wv : Value) (n : Nat) (zw : Nat → Int) (w : World) (h : MpLaw w x m) (hu : WlIn w u y) (hnl : y.nl ≤ maxLen) (hnc : y.nc ≤ maxLen) (hz : WordsIn w wv n zw) (hn : n ≤ maxLen) :
    Calls Try.prog 13 #[.agg #[.slice x.wa m.nw x.wc, .slice x.ra m.nr x.rc], .agg #[.slice u.ra y.nl u.rc, .slice u.ca y.nc u.cc], wv] w fun e w' => e = .returned (.bool true) ∧ Below w.heap.size w w' := by
  obtain ⟨i0, hi0, hiz0, hiz1, hiz2⟩ := info_parts Try.infoRangeW
  have HRE := Lib.hid (fun W (hW : Below w.heap.size w W) => ready_any x m W (h.l.below hW) h.bw h.br)
  have HSM := Lib.hid (fun W => small_any u y W)
  have HWZ := Lib.hid hz
  obtain ⟨rb, hrb⟩ : ∃ rb, rb = readyB m := ⟨_, rfl⟩
  have HRB : Hid (rb = true → m.fault = 0) := fun h => by rw [hrb] at h; unfold readyB at h; simp only [Bool.and_eq_true, decide_eq_true_eq] at h; exact h.2
  rw [← hrb] at HRE
  clear hrb
  have HIW : Hid (rb = true → (decide (y.nl ≤ 70) && decide (y.nc ≤ 12)) = true → ∀ W, Below w.heap.size w W → Calls Try.prog 27 #[.agg #[.slice x.wa m.nw x.wc, .slice x.ra m.nr x.rc], .agg #[.slice u.ra y.nl u.rc, .slice u.ca y.nc u.cc]] W fun e w' => e = .returned (.bool (isWalkB m y)) ∧ Below W.heap.size W w') := fun e1 e2 W hW => by
    have ok := okM_of (HRB.out e1)
    simp only [Bool.and_eq_true, decide_eq_true_eq] at e2
    exact rWalk_any x m u y W (h.l.below hW) (hu.below hW) (by omega) (by omega) (by have := ok.nw; omega) (by have := ok.nr; omega)
  have HIE : Hid (rb = true → isWalkB m y = true → walkE m y = 0) := fun e1 e2 => (isWalk_iff (okM_of (HRB.out e1)) y).1 e2
  have HMP := Lib.hid h.l
  have HUU := Lib.hid hu
  obtain ⟨sb, hsb⟩ : ∃ sb, sb = (decide (y.nl ≤ 70) && decide (y.nc ≤ 12)) := ⟨_, rfl⟩
  have HSB : Hid (sb = true → y.nl ≤ 70 ∧ y.nc ≤ 12) := fun e => by rw [hsb] at e; simp only [Bool.and_eq_true, decide_eq_true_eq] at e; exact e
  rw [← hsb] at HSM HIW
  clear hsb h hu hz
  obtain ⟨iw, hiw⟩ : ∃ iw, iw = isWalkB m y := ⟨_, rfl⟩
  rw [← hiw] at HIW HIE
  clear hiw
  obtain ⟨ua, uc, va, vc⟩ := u
  obtain ⟨Y, hY⟩ : ∃ Y, Y = y := ⟨_, rfl⟩
  obtain ⟨nl, rt, nc, ct⟩ := y
  simp only at *
  have HA0 : Hid (BF w ((w.alloc (.cells #[.slice x.wa m.nw x.wc, .slice x.ra m.nr x.rc] 25)).alloc (.cells #[.slice ua nl uc, .slice va nc vc] 49)) [(w.heap.size, #[.slice x.wa m.nw x.wc, .slice x.ra m.nr x.rc], 25), (w.heap.size + 1, #[.slice ua nl uc, .slice va nc vc], 49)]) := BF.made2 _ _ _ _ _
  have HC4 := Lib.hid (fun X (hX : BF w X [(w.heap.size, #[.slice x.wa m.nw x.wc, .slice x.ra m.nr x.rc], 25), (w.heap.size + 1, #[.slice ua nl uc, .slice va nc vc], 49)]) => And.intro (And.intro (hX.cell (.head _) 0) (hX.cell (.head _) 1)) (And.intro (hX.cell (.tail _ (.head _)) 0) (hX.cell (.tail _ (.head _)) 1)))
  go_enter Try.func13, Try.ntmps13
  go_upto_region 1 with fail
  generalize ((w.alloc (.cells #[.slice x.wa m.nw x.wc, .slice x.ra m.nr x.rc] 25)).alloc (.cells #[.slice ua nl uc, .slice va nc vc] 49)) = w0 at *
  obtain ⟨⟨c0, c1⟩, c2, c3⟩ := HC4.out _ HA0.out
  cases rb
  · go_wp2_with (first | (go_at_call 35; refine (HRE.out _ HA0.out.fr).mono ?_; rintro _ w1 ⟨rfl, hb⟩; have HA1 := Lib.hid (HA0.out.below hb); clear hb) | (go_at_call 19; refine (awake_any _).mono ?_; rintro _ w9 ⟨rfl, hb⟩; have HZ := Lib.hid (HA1.out.below hb); clear hb))
    go_ret
    exact ⟨rfl, HZ.out.fr⟩
  cases sb
  · go_wp2_with (first | (go_at_call 35; refine (HRE.out _ HA0.out.fr).mono ?_; rintro _ w1 ⟨rfl, hb⟩; have HA1 := Lib.hid (HA0.out.below hb); obtain ⟨⟨d0, d1⟩, d2, d3⟩ := HC4.out _ HA1.out; clear hb) | (go_at_call 50; refine (HSM.out _).mono ?_; rintro _ w2 ⟨rfl, hb⟩; have HA2 := Lib.hid (HA1.out.below hb); clear hb) | (go_at_call 19; refine (awake_any _).mono ?_; rintro _ w9 ⟨rfl, hb⟩; have HZ := Lib.hid (HA2.out.below hb); clear hb))
    go_ret
    exact ⟨rfl, HZ.out.fr⟩
  have HIW2 := Lib.hid (HIW.out rfl rfl)
  clear HIW
  cases iw
  · go_wp2_with (first | (go_at_call 35; refine (HRE.out _ HA0.out.fr).mono ?_; rintro _ w1 ⟨rfl, hb⟩; have HA1 := Lib.hid (HA0.out.below hb); obtain ⟨⟨d0, d1⟩, d2, d3⟩ := HC4.out _ HA1.out; clear hb) | (go_at_call 50; refine (HSM.out _).mono ?_; rintro _ w2 ⟨rfl, hb⟩; have HA2 := Lib.hid (HA1.out.below hb); obtain ⟨⟨e0, e1⟩, e2, e3⟩ := HC4.out _ HA2.out; clear hb) | (go_at_call 27; refine (HIW2.out _ HA2.out.fr).mono ?_; rintro _ w3 ⟨rfl, hb⟩; have HA3 := Lib.hid (HA2.out.below hb); clear hb) | (go_at_call 19; refine (awake_any _).mono ?_; rintro _ w9 ⟨rfl, hb⟩; have HZ := Lib.hid (HA3.out.below hb); clear hb))
    go_ret
    exact ⟨rfl, HZ.out.fr⟩
  have hf := HRB.out rfl
  have hok := okM_of hf
  have hwe := HIE.out rfl rfl
  have hsz := HSB.out rfl
  have hnw := hok.nw
  have hnr := hok.nr
  have kw1 : m.nw ≤ 100000 := by omega
  have kr1 : m.nr ≤ 100000 := by omega
  have hWok := wlOk_of hok hwe
  have HMC := Lib.hid (fun W (hW : Below w.heap.size w W) => mapC_any x m W (HMP.out.below hW) kw1 kr1)
  have HWC := Lib.hid (fun W (hW : Below w.heap.size w W) => walkC_any ua va nl uc nc vc rt ct W (HUU.out.below hW).rt (HUU.out.below hW).ct (by omega) (by omega))
  have HPI := Lib.hid (fun W (hW : Below w.heap.size w W) => picked_any x m W (HMP.out.below hW) kw1 kr1 hok wv n zw (HWZ.out.below hW) hn)
  have HQU := Lib.hid (fun W (hW : Below w.heap.size w W) => rQuick_any x m W (HMP.out.below hW) kw1 kr1)
  have HSL := Lib.hid (fun W (hW : Below w.heap.size w W) => rSlow_any x m W (HMP.out.below hW) kw1 kr1)
  have bq := truth_ok (m := m) (tw := fun i => (m.wk i).1) (tr := fun i => (m.rt i).1) (fun i hi => by have := hok.wk i hi; omega) (fun i hi => by have := hok.rt i hi; omega)
  have bs := truth_ok (m := m) (tw := fun i => (m.wk i).2) (tr := fun i => (m.rt i).2) (fun i hi => by have := hok.wk i hi; omega) (fun i hi => by have := hok.rt i hi; omega)
  have pwk : ∀ i, i < m.nw → (m.wk i).1 ≤ pkV (m.wk i) (wordF n zw (i : Int)) ∧ pkV (m.wk i) (wordF n zw (i : Int)) ≤ (m.wk i).2 := fun i hi => pkV_bd (by have := hok.wk i hi; omega) (wordF_bd HWZ.out _).1
  have prt : ∀ i, i < m.nr → (m.rt i).1 ≤ pkV (m.rt i) (wordF n zw ((i : Int) + 9)) ∧ pkV (m.rt i) (wordF n zw ((i : Int) + 9)) ≤ (m.rt i).2 := fun i hi => pkV_bd (by have := hok.rt i hi; omega) (wordF_bd HWZ.out _).1
  have bp := truth_ok (m := m) (tw := fun i => pkV (m.wk i) (wordF n zw (i : Int))) (tr := fun i => pkV (m.rt i) (wordF n zw ((i : Int) + 9))) pwk prt
  have HTQ := Lib.hid (fun (y : MV) (u : LV) (t : TV) W hW hU h1 h2 => time_pl hok hf hwe (by show nc ≤ 100000; omega) bq y u t W hW hU h1 h2)
  have HTS := Lib.hid (fun (y : MV) (u : LV) (t : TV) W hW hU h1 h2 => time_pl hok hf hwe (by show nc ≤ 100000; omega) bs y u t W hW hU h1 h2)
  have HTP := Lib.hid (fun (y : MV) (u : LV) (t : TV) W hW hU h1 h2 => time_pl hok hf hwe (by show nc ≤ 100000; omega) bp y u t W hW hU h1 h2)
  have hqp := timeZ_le hWok (tw := fun i => (m.wk i).1) (tr := fun i => (m.rt i).1) (tw' := fun i => pkV (m.wk i) (wordF n zw (i : Int))) (tr' := fun i => pkV (m.rt i) (wordF n zw ((i : Int) + 9))) (fun i hi => (pwk i hi).1) (fun i hi => (prt i hi).1)
  have hps := timeZ_le hWok (tw := fun i => pkV (m.wk i) (wordF n zw (i : Int))) (tr := fun i => pkV (m.rt i) (wordF n zw ((i : Int) + 9))) (tw' := fun i => (m.wk i).2) (tr' := fun i => (m.rt i).2) (fun i hi => (pwk i hi).2) (fun i hi => (prt i hi).2)
  have HBO := Lib.hid (fun (y : MV) (u : LV) W (hW : MpIn W y m) (hU : WlIn W u ⟨nl, rt, nc, ct⟩) => by
    have h := bounds_any y m u ⟨nl, rt, nc, ct⟩ W hW hU kw1 kr1 (by show nl ≤ 100000; omega) (by show nc ≤ 100000; omega)
    have e1 : boundsE m ⟨nl, rt, nc, ct⟩ = 0 := by unfold boundsE; rw [if_neg (by rw [hf]; decide), hwe]
    have e2 : boundsR m ⟨nl, rt, nc, ct⟩ = (timeZ m ⟨nl, rt, nc, ct⟩ (fun i => (m.wk i).1) (fun i => (m.rt i).1), timeZ m ⟨nl, rt, nc, ct⟩ (fun i => (m.wk i).2) (fun i => (m.rt i).2)) := by unfold boundsR; rw [if_pos e1]
    rw [e1, e2] at h
    exact h)
  simp only at HBO HTQ HTS HTP
  generalize timeZ m ⟨nl, rt, nc, ct⟩ (fun i => (m.wk i).1) (fun i => (m.rt i).1) = tq at *
  generalize timeZ m ⟨nl, rt, nc, ct⟩ (fun i => (m.wk i).2) (fun i => (m.rt i).2) = ts at *
  generalize timeZ m ⟨nl, rt, nc, ct⟩ (fun i => pkV (m.wk i) (wordF n zw (i : Int))) (fun i => pkV (m.rt i) (wordF n zw ((i : Int) + 9))) = tp at *
  clear hok hf hwe bq bs bp pwk prt hWok HRB HIE HSB hY Y
  go_upto_region 3 with (first | (go_at_call 35; refine (HRE.out _ HA0.out.fr).mono ?_; rintro _ w1 ⟨rfl, hb⟩; have HA1 := Lib.hid (HA0.out.below hb); obtain ⟨⟨d0, d1⟩, d2, d3⟩ := HC4.out _ HA1.out; clear hb) | (go_at_call 50; refine (HSM.out _).mono ?_; rintro _ w2 ⟨rfl, hb⟩; have HA2 := Lib.hid (HA1.out.below hb); obtain ⟨⟨e0, e1⟩, e2, e3⟩ := HC4.out _ HA2.out; clear hb) | (go_at_call 27; refine (HIW2.out _ HA2.out.fr).mono ?_; rintro _ wr3 ⟨rfl, hb⟩; have HB3 := Lib.hid (HA2.out.below hb); clear hb))
  clear HRE HSM HIW2 HA0 HA1 HA2 HC4 c0 c1 c2 c3 d0 d1 d2 d3 e0 e1 e2 e3

  go_cut [7, 8] (fun s7 s8 wx => ∃ RB, s7 = .pointer (some ⟨RB, 0, none⟩) ∧ s8 = .int .i64 0 ∧ BF w wx [(RB, #[.int .i64 tq, .int .i64 ts], 100), (w.heap.size, #[.slice x.wa m.nw x.wc, .slice x.ra m.nr x.rc], 25), (w.heap.size + 1, #[.slice ua nl uc, .slice va nc vc], 49)])
  case first =>
    have HAX : Hid (BF w wr3.drew [(w.heap.size, #[.slice x.wa m.nw x.wc, .slice x.ra m.nr x.rc], 25), (w.heap.size + 1, #[.slice ua nl uc, .slice va nc vc], 49)]) := HB3.out.below (Below.refl _ _).drew
    refine wp_region_Z (S := fun X => X.cell? ⟨w.heap.size, 0, none⟩ = some (.slice x.wa m.nw x.wc) ∧ X.cell? ⟨w.heap.size, 1, none⟩ = some (.slice x.ra m.nr x.rc) ∧ X.cell? ⟨w.heap.size + 1, 0, none⟩ = some (.slice ua nl uc) ∧ X.cell? ⟨w.heap.size + 1, 1, none⟩ = some (.slice va nc vc)) (by kernel_rfl) (⟨HAX.out.cell (.head _) 0, HAX.out.cell (.head _) 1, HAX.out.cell (.tail _ (.head _)) 0, HAX.out.cell (.tail _ (.head _)) 1⟩) (fun hS => ?_)
    generalize wr3.drew = X at *
    refine tk [0, 2] ?_
    repeat (refine tkZ (oi := ⟨_, _, _, _, _, _⟩) (v := ?_) rfl (by kernel_rfl) (by rfl) (fun _ _ _ h => h) hS ?_ ?_; rotate_left; (· rintro W' ⟨z0, z1, z2, z3⟩; go_simp; try with_reducible rfl); try simp only [Act.put, putA, putZ, putS])
    refine tk0 ?_
    refine wpAnyZ_next (rs := [1, 8]) (by kernel_rfl) (by simp) ?_
    refine NextZ.cons (o := ⟨some 32, _, _, _, _, _⟩) rfl (fun K hK => ?_) ?_
    ·
     go_simp
     refine (HMC.out X HAX.out.fr).mono ?_
     rintro _ X0 ⟨y0, rfl, hm0, hb0⟩
     (try go_wp2_with fail)
     have HA0 := Lib.hid (HAX.out.below hb0)
     have HM0 := Lib.hid (hm0)
     refine hK.out _ _ (⟨HA0.out.cell (.head _) 0, HA0.out.cell (.head _) 1, HA0.out.cell (.tail _ (.head _)) 0, HA0.out.cell (.tail _ (.head _)) 1⟩) (fun hS => ?_)
     clear hK K
     try simp only [Act.put, putA, putZ, putS]
     clear hb0 hm0
     refine wpAnyZ_next (rs := [3, 8]) (by kernel_rfl) (by simp) ?_
     refine NextZ.cons (o := ⟨some 34, _, _, _, _, _⟩) rfl (fun K hK => ?_) ?_
     ·
      go_simp
      refine (HWC.out X0 HA0.out.fr).mono ?_
      rintro _ X1 ⟨a1, d1, a2, d2, rfl, hw1, hv1, hb1⟩
      (try go_wp2_with fail)
      have HA1 := Lib.hid (HA0.out.below hb1)
      have HM1 := Lib.hid (HM0.out.below hb1)
      have HW1 := Lib.hid (hw1)
      have HV1 := Lib.hid (hv1)
      refine hK.out _ _ (⟨HA1.out.cell (.head _) 0, HA1.out.cell (.head _) 1, HA1.out.cell (.tail _ (.head _)) 0, HA1.out.cell (.tail _ (.head _)) 1⟩) (fun hS => ?_)
      clear hK K
      try simp only [Act.put, putA, putZ, putS]
      clear hb1 hw1 hv1
      refine wpAnyZ_next (rs := [4, 8]) (by kernel_rfl) (by simp) ?_
      refine NextZ.cons (o := ⟨some 35, _, _, _, _, _⟩) rfl (fun K hK => ?_) ?_
      ·
       go_simp
       refine (HBO.out y0 ⟨a1, d1, a2, d2⟩ _ HM1.out ⟨HW1.out, HV1.out⟩).mono ?_
       rintro _ X2 ⟨rfl, hb2⟩
       (try go_wp2_with fail)
       have HA2 := Lib.hid (HA1.out.below hb2)
       refine hK.out _ _ (⟨HA2.out.cell (.head _) 0, HA2.out.cell (.head _) 1, HA2.out.cell (.tail _ (.head _)) 0, HA2.out.cell (.tail _ (.head _)) 1⟩) (fun hS => ?_)
       clear hK K
       try simp only [Act.put, putA, putZ, putS]
       clear hb2
       refine tk [5, 6, 7] ?_
       repeat (refine tkZ (oi := ⟨_, _, _, _, _, _⟩) (v := ?_) rfl (by kernel_rfl) (by rfl) (fun _ _ _ h => h) hS ?_ ?_; rotate_left; (· rintro W' ⟨z0, z1, z2, z3⟩; go_simp; try with_reducible rfl); try simp only [Act.put, putA, putZ, putS])
       refine tk0 ?_
       refine wpAnyZ_next (rs := [8]) (by kernel_rfl) (by simp) ?_
       refine NextZ.cons (o := ⟨some 7, _, _, _, _, _⟩) rfl (fun K hK => ?_) NextZ.nil
       go_simp
       have HA3 := Lib.hid (HA2.out.alloc #[.int .i64 0, .int .i64 0] 100)
       have hn3M := (HA2.out.lt (.head _)).2
       have hn3Y := (HA2.out.lt (.tail _ (.head _))).2
       have hn3_ := HA2.out.fr.size
       refine hK.out _ _ (⟨HA3.out.cell (.tail _ (.head _)) 0, HA3.out.cell (.tail _ (.head _)) 1, HA3.out.cell (.tail _ (.tail _ (.head _))) 0, HA3.out.cell (.tail _ (.tail _ (.head _))) 1⟩) (fun hS => ?_)
       clear hK K
       try simp only [Act.put, putA, putZ, putS]
       generalize X2.heap.size = B3 at *
       generalize (X2.alloc (.cells #[.int .i64 0, .int .i64 0] 100)) = X3 at *
       refine wpAnyZ_next (rs := [9]) (by kernel_rfl) (by simp) ?_
       refine NextZ.cons (o := ⟨none, _, _, _, _, _⟩) rfl (fun K hK => ?_) NextZ.nil
       have e0 := HA3.out.cell (.head _) 0
       have e1 := HA3.out.cell (.head _) 1
       have f0 := HA3.out.thaw (.head _) 0
       have f1 := HA3.out.thaw (.head _) 1
       have HA4 := Lib.hid (BF.set2 HA3.out (.head _) (.int .i64 tq) (.int .i64 ts) (L' := [(w.heap.size, #[.slice x.wa m.nw x.wc, .slice x.ra m.nr x.rc], 25), (w.heap.size + 1, #[.slice ua nl uc, .slice va nc vc], 49)]) (List.forall_mem_cons.2 ⟨⟨show w.heap.size ≠ B3 by omega, (.tail _ (.head _))⟩, List.forall_mem_cons.2 ⟨⟨show w.heap.size + 1 ≠ B3 by omega, (.tail _ (.tail _ (.head _)))⟩, List.forall_mem_nil _⟩⟩))
       go_simp
       refine hK.out _ _ (⟨HA4.out.cell (.tail _ (.head _)) 0, HA4.out.cell (.tail _ (.head _)) 1, HA4.out.cell (.tail _ (.tail _ (.head _))) 0, HA4.out.cell (.tail _ (.tail _ (.head _))) 1⟩) (fun hS => ?_)
       clear hK K
       (try simp only [Act.put])
       clear e0 e1 f0 f1
       refine tZ 10 (oi := ⟨_, _, _, _, _, _⟩) (v := ?_) rfl (by kernel_rfl) (by rfl) (fun _ _ _ h => h) hS ?_ ?_
       rotate_left
       · rintro W' ⟨z0, z1, z2, z3⟩; go_simp; try with_reducible rfl
       try simp only [Act.put, putA, putZ, putS]
       refine wpAnyZ_done (by kernel_rfl) ?_ _
       go_wp2_with fail
       go_meet
       exact ⟨B3, rfl, rfl, HA4.out.sub (List.forall_mem_cons.2 ⟨(.head _), List.forall_mem_cons.2 ⟨(.tail _ (.head _)), List.forall_mem_cons.2 ⟨(.tail _ (.tail _ (.head _))), List.forall_mem_nil _⟩⟩⟩)⟩
      refine NextZ.cons (o := ⟨some 7, _, _, _, _, _⟩) rfl (fun K hK => ?_) NextZ.nil
      have HM5 := Lib.hid (HM1.out.below (below_alloc X1 (.cells #[.int .i64 0, .int .i64 0] 100)))
      have HW5 := Lib.hid (HW1.out.below (below_alloc X1 (.cells #[.int .i64 0, .int .i64 0] 100)))
      have HV5 := Lib.hid (HV1.out.below (below_alloc X1 (.cells #[.int .i64 0, .int .i64 0] 100)))
      go_simp
      have HA5 := Lib.hid (HA1.out.alloc #[.int .i64 0, .int .i64 0] 100)
      have hn5M := (HA1.out.lt (.head _)).2
      have hn5Y := (HA1.out.lt (.tail _ (.head _))).2
      have hn5_ := HA1.out.fr.size
      refine hK.out _ _ (⟨HA5.out.cell (.tail _ (.head _)) 0, HA5.out.cell (.tail _ (.head _)) 1, HA5.out.cell (.tail _ (.tail _ (.head _))) 0, HA5.out.cell (.tail _ (.tail _ (.head _))) 1⟩) (fun hS => ?_)
      clear hK K
      try simp only [Act.put, putA, putZ, putS]
      generalize X1.heap.size = B5 at *
      generalize (X1.alloc (.cells #[.int .i64 0, .int .i64 0] 100)) = X5 at *
      refine wpAnyZ_next (rs := [4]) (by kernel_rfl) (by simp) ?_
      refine NextZ.cons (o := ⟨some 35, _, _, _, _, _⟩) rfl (fun K hK => ?_) NextZ.nil
      go_simp
      refine (HBO.out y0 ⟨a1, d1, a2, d2⟩ _ HM5.out ⟨HW5.out, HV5.out⟩).mono ?_
      rintro _ X6 ⟨rfl, hb6⟩
      (try go_wp2_with fail)
      have HA6 := Lib.hid (HA5.out.below hb6)
      refine hK.out _ _ (⟨HA6.out.cell (.tail _ (.head _)) 0, HA6.out.cell (.tail _ (.head _)) 1, HA6.out.cell (.tail _ (.tail _ (.head _))) 0, HA6.out.cell (.tail _ (.tail _ (.head _))) 1⟩) (fun hS => ?_)
      clear hK K
      try simp only [Act.put, putA, putZ, putS]
      clear hb6
      refine tk [5, 6, 7] ?_
      repeat (refine tkZ (oi := ⟨_, _, _, _, _, _⟩) (v := ?_) rfl (by kernel_rfl) (by rfl) (fun _ _ _ h => h) hS ?_ ?_; rotate_left; (· rintro W' ⟨z0, z1, z2, z3⟩; go_simp; try with_reducible rfl); try simp only [Act.put, putA, putZ, putS])
      refine tk0 ?_
      refine wpAnyZ_next (rs := [9]) (by kernel_rfl) (by simp) ?_
      refine NextZ.cons (o := ⟨none, _, _, _, _, _⟩) rfl (fun K hK => ?_) NextZ.nil
      have e0 := HA6.out.cell (.head _) 0
      have e1 := HA6.out.cell (.head _) 1
      have f0 := HA6.out.thaw (.head _) 0
      have f1 := HA6.out.thaw (.head _) 1
      have HA7 := Lib.hid (BF.set2 HA6.out (.head _) (.int .i64 tq) (.int .i64 ts) (L' := [(w.heap.size, #[.slice x.wa m.nw x.wc, .slice x.ra m.nr x.rc], 25), (w.heap.size + 1, #[.slice ua nl uc, .slice va nc vc], 49)]) (List.forall_mem_cons.2 ⟨⟨show w.heap.size ≠ B5 by omega, (.tail _ (.head _))⟩, List.forall_mem_cons.2 ⟨⟨show w.heap.size + 1 ≠ B5 by omega, (.tail _ (.tail _ (.head _)))⟩, List.forall_mem_nil _⟩⟩))
      go_simp
      refine hK.out _ _ (⟨HA7.out.cell (.tail _ (.head _)) 0, HA7.out.cell (.tail _ (.head _)) 1, HA7.out.cell (.tail _ (.tail _ (.head _))) 0, HA7.out.cell (.tail _ (.tail _ (.head _))) 1⟩) (fun hS => ?_)
      clear hK K
      (try simp only [Act.put])
      clear e0 e1 f0 f1
      refine tZ 10 (oi := ⟨_, _, _, _, _, _⟩) (v := ?_) rfl (by kernel_rfl) (by rfl) (fun _ _ _ h => h) hS ?_ ?_
      rotate_left
      · rintro W' ⟨z0, z1, z2, z3⟩; go_simp; try with_reducible rfl
      try simp only [Act.put, putA, putZ, putS]
      refine wpAnyZ_done (by kernel_rfl) ?_ _
      go_wp2_with fail
      go_meet
      exact ⟨B5, rfl, rfl, HA7.out.sub (List.forall_mem_cons.2 ⟨(.head _), List.forall_mem_cons.2 ⟨(.tail _ (.head _)), List.forall_mem_cons.2 ⟨(.tail _ (.tail _ (.head _))), List.forall_mem_nil _⟩⟩⟩)⟩
     refine NextZ.cons (o := ⟨some 7, _, _, _, _, _⟩) rfl (fun K hK => ?_) NextZ.nil
     have HM8 := Lib.hid (HM0.out.below (below_alloc X0 (.cells #[.int .i64 0, .int .i64 0] 100)))
     go_simp
     have HA8 := Lib.hid (HA0.out.alloc #[.int .i64 0, .int .i64 0] 100)
     have hn8M := (HA0.out.lt (.head _)).2
     have hn8Y := (HA0.out.lt (.tail _ (.head _))).2
     have hn8_ := HA0.out.fr.size
     refine hK.out _ _ (⟨HA8.out.cell (.tail _ (.head _)) 0, HA8.out.cell (.tail _ (.head _)) 1, HA8.out.cell (.tail _ (.tail _ (.head _))) 0, HA8.out.cell (.tail _ (.tail _ (.head _))) 1⟩) (fun hS => ?_)
     clear hK K
     try simp only [Act.put, putA, putZ, putS]
     generalize X0.heap.size = B8 at *
     generalize (X0.alloc (.cells #[.int .i64 0, .int .i64 0] 100)) = X8 at *
     refine wpAnyZ_next (rs := [3]) (by kernel_rfl) (by simp) ?_
     refine NextZ.cons (o := ⟨some 34, _, _, _, _, _⟩) rfl (fun K hK => ?_) NextZ.nil
     go_simp
     refine (HWC.out X8 HA8.out.fr).mono ?_
     rintro _ X9 ⟨a1, d1, a2, d2, rfl, hw9, hv9, hb9⟩
     (try go_wp2_with fail)
     have HA9 := Lib.hid (HA8.out.below hb9)
     have HM9 := Lib.hid (HM8.out.below hb9)
     have HW9 := Lib.hid (hw9)
     have HV9 := Lib.hid (hv9)
     refine hK.out _ _ (⟨HA9.out.cell (.tail _ (.head _)) 0, HA9.out.cell (.tail _ (.head _)) 1, HA9.out.cell (.tail _ (.tail _ (.head _))) 0, HA9.out.cell (.tail _ (.tail _ (.head _))) 1⟩) (fun hS => ?_)
     clear hK K
     try simp only [Act.put, putA, putZ, putS]
     clear hb9 hw9 hv9
     refine wpAnyZ_next (rs := [4]) (by kernel_rfl) (by simp) ?_
     refine NextZ.cons (o := ⟨some 35, _, _, _, _, _⟩) rfl (fun K hK => ?_) NextZ.nil
     go_simp
     refine (HBO.out y0 ⟨a1, d1, a2, d2⟩ _ HM9.out ⟨HW9.out, HV9.out⟩).mono ?_
     rintro _ X10 ⟨rfl, hb10⟩
     (try go_wp2_with fail)
     have HA10 := Lib.hid (HA9.out.below hb10)
     refine hK.out _ _ (⟨HA10.out.cell (.tail _ (.head _)) 0, HA10.out.cell (.tail _ (.head _)) 1, HA10.out.cell (.tail _ (.tail _ (.head _))) 0, HA10.out.cell (.tail _ (.tail _ (.head _))) 1⟩) (fun hS => ?_)
     clear hK K
     try simp only [Act.put, putA, putZ, putS]
     clear hb10
     refine tk [5, 6, 7] ?_
     repeat (refine tkZ (oi := ⟨_, _, _, _, _, _⟩) (v := ?_) rfl (by kernel_rfl) (by rfl) (fun _ _ _ h => h) hS ?_ ?_; rotate_left; (· rintro W' ⟨z0, z1, z2, z3⟩; go_simp; try with_reducible rfl); try simp only [Act.put, putA, putZ, putS])
     refine tk0 ?_
     refine wpAnyZ_next (rs := [9]) (by kernel_rfl) (by simp) ?_
     refine NextZ.cons (o := ⟨none, _, _, _, _, _⟩) rfl (fun K hK => ?_) NextZ.nil
     have e0 := HA10.out.cell (.head _) 0
     have e1 := HA10.out.cell (.head _) 1
     have f0 := HA10.out.thaw (.head _) 0
     have f1 := HA10.out.thaw (.head _) 1
     have HA11 := Lib.hid (BF.set2 HA10.out (.head _) (.int .i64 tq) (.int .i64 ts) (L' := [(w.heap.size, #[.slice x.wa m.nw x.wc, .slice x.ra m.nr x.rc], 25), (w.heap.size + 1, #[.slice ua nl uc, .slice va nc vc], 49)]) (List.forall_mem_cons.2 ⟨⟨show w.heap.size ≠ B8 by omega, (.tail _ (.head _))⟩, List.forall_mem_cons.2 ⟨⟨show w.heap.size + 1 ≠ B8 by omega, (.tail _ (.tail _ (.head _)))⟩, List.forall_mem_nil _⟩⟩))
     go_simp
     refine hK.out _ _ (⟨HA11.out.cell (.tail _ (.head _)) 0, HA11.out.cell (.tail _ (.head _)) 1, HA11.out.cell (.tail _ (.tail _ (.head _))) 0, HA11.out.cell (.tail _ (.tail _ (.head _))) 1⟩) (fun hS => ?_)
     clear hK K
     (try simp only [Act.put])
     clear e0 e1 f0 f1
     refine tZ 10 (oi := ⟨_, _, _, _, _, _⟩) (v := ?_) rfl (by kernel_rfl) (by rfl) (fun _ _ _ h => h) hS ?_ ?_
     rotate_left
     · rintro W' ⟨z0, z1, z2, z3⟩; go_simp; try with_reducible rfl
     try simp only [Act.put, putA, putZ, putS]
     refine wpAnyZ_done (by kernel_rfl) ?_ _
     go_wp2_with fail
     go_meet
     exact ⟨B8, rfl, rfl, HA11.out.sub (List.forall_mem_cons.2 ⟨(.head _), List.forall_mem_cons.2 ⟨(.tail _ (.head _)), List.forall_mem_cons.2 ⟨(.tail _ (.tail _ (.head _))), List.forall_mem_nil _⟩⟩⟩)⟩
    refine NextZ.cons (o := ⟨some 7, _, _, _, _, _⟩) rfl (fun K hK => ?_) NextZ.nil
    go_simp
    have HA12 := Lib.hid (HAX.out.alloc #[.int .i64 0, .int .i64 0] 100)
    have hn12M := (HAX.out.lt (.head _)).2
    have hn12Y := (HAX.out.lt (.tail _ (.head _))).2
    have hn12_ := HAX.out.fr.size
    refine hK.out _ _ (⟨HA12.out.cell (.tail _ (.head _)) 0, HA12.out.cell (.tail _ (.head _)) 1, HA12.out.cell (.tail _ (.tail _ (.head _))) 0, HA12.out.cell (.tail _ (.tail _ (.head _))) 1⟩) (fun hS => ?_)
    clear hK K
    try simp only [Act.put, putA, putZ, putS]
    generalize X.heap.size = B12 at *
    generalize (X.alloc (.cells #[.int .i64 0, .int .i64 0] 100)) = X12 at *
    refine wpAnyZ_next (rs := [1]) (by kernel_rfl) (by simp) ?_
    refine NextZ.cons (o := ⟨some 32, _, _, _, _, _⟩) rfl (fun K hK => ?_) NextZ.nil
    go_simp
    refine (HMC.out X12 HA12.out.fr).mono ?_
    rintro _ X13 ⟨y13, rfl, hm13, hb13⟩
    (try go_wp2_with fail)
    have HA13 := Lib.hid (HA12.out.below hb13)
    have HM13 := Lib.hid (hm13)
    refine hK.out _ _ (⟨HA13.out.cell (.tail _ (.head _)) 0, HA13.out.cell (.tail _ (.head _)) 1, HA13.out.cell (.tail _ (.tail _ (.head _))) 0, HA13.out.cell (.tail _ (.tail _ (.head _))) 1⟩) (fun hS => ?_)
    clear hK K
    try simp only [Act.put, putA, putZ, putS]
    clear hb13 hm13
    refine wpAnyZ_next (rs := [3]) (by kernel_rfl) (by simp) ?_
    refine NextZ.cons (o := ⟨some 34, _, _, _, _, _⟩) rfl (fun K hK => ?_) NextZ.nil
    go_simp
    refine (HWC.out X13 HA13.out.fr).mono ?_
    rintro _ X14 ⟨a1, d1, a2, d2, rfl, hw14, hv14, hb14⟩
    (try go_wp2_with fail)
    have HA14 := Lib.hid (HA13.out.below hb14)
    have HM14 := Lib.hid (HM13.out.below hb14)
    have HW14 := Lib.hid (hw14)
    have HV14 := Lib.hid (hv14)
    refine hK.out _ _ (⟨HA14.out.cell (.tail _ (.head _)) 0, HA14.out.cell (.tail _ (.head _)) 1, HA14.out.cell (.tail _ (.tail _ (.head _))) 0, HA14.out.cell (.tail _ (.tail _ (.head _))) 1⟩) (fun hS => ?_)
    clear hK K
    try simp only [Act.put, putA, putZ, putS]
    clear hb14 hw14 hv14
    refine wpAnyZ_next (rs := [4]) (by kernel_rfl) (by simp) ?_
    refine NextZ.cons (o := ⟨some 35, _, _, _, _, _⟩) rfl (fun K hK => ?_) NextZ.nil
    go_simp
    refine (HBO.out y13 ⟨a1, d1, a2, d2⟩ _ HM14.out ⟨HW14.out, HV14.out⟩).mono ?_
    rintro _ X15 ⟨rfl, hb15⟩
    (try go_wp2_with fail)
    have HA15 := Lib.hid (HA14.out.below hb15)
    refine hK.out _ _ (⟨HA15.out.cell (.tail _ (.head _)) 0, HA15.out.cell (.tail _ (.head _)) 1, HA15.out.cell (.tail _ (.tail _ (.head _))) 0, HA15.out.cell (.tail _ (.tail _ (.head _))) 1⟩) (fun hS => ?_)
    clear hK K
    try simp only [Act.put, putA, putZ, putS]
    clear hb15
    refine tk [5, 6, 7] ?_
    repeat (refine tkZ (oi := ⟨_, _, _, _, _, _⟩) (v := ?_) rfl (by kernel_rfl) (by rfl) (fun _ _ _ h => h) hS ?_ ?_; rotate_left; (· rintro W' ⟨z0, z1, z2, z3⟩; go_simp; try with_reducible rfl); try simp only [Act.put, putA, putZ, putS])
    refine tk0 ?_
    refine wpAnyZ_next (rs := [9]) (by kernel_rfl) (by simp) ?_
    refine NextZ.cons (o := ⟨none, _, _, _, _, _⟩) rfl (fun K hK => ?_) NextZ.nil
    have e0 := HA15.out.cell (.head _) 0
    have e1 := HA15.out.cell (.head _) 1
    have f0 := HA15.out.thaw (.head _) 0
    have f1 := HA15.out.thaw (.head _) 1
    have HA16 := Lib.hid (BF.set2 HA15.out (.head _) (.int .i64 tq) (.int .i64 ts) (L' := [(w.heap.size, #[.slice x.wa m.nw x.wc, .slice x.ra m.nr x.rc], 25), (w.heap.size + 1, #[.slice ua nl uc, .slice va nc vc], 49)]) (List.forall_mem_cons.2 ⟨⟨show w.heap.size ≠ B12 by omega, (.tail _ (.head _))⟩, List.forall_mem_cons.2 ⟨⟨show w.heap.size + 1 ≠ B12 by omega, (.tail _ (.tail _ (.head _)))⟩, List.forall_mem_nil _⟩⟩))
    go_simp
    refine hK.out _ _ (⟨HA16.out.cell (.tail _ (.head _)) 0, HA16.out.cell (.tail _ (.head _)) 1, HA16.out.cell (.tail _ (.tail _ (.head _))) 0, HA16.out.cell (.tail _ (.tail _ (.head _))) 1⟩) (fun hS => ?_)
    clear hK K
    (try simp only [Act.put])
    clear e0 e1 f0 f1
    refine tZ 10 (oi := ⟨_, _, _, _, _, _⟩) (v := ?_) rfl (by kernel_rfl) (by rfl) (fun _ _ _ h => h) hS ?_ ?_
    rotate_left
    · rintro W' ⟨z0, z1, z2, z3⟩; go_simp; try with_reducible rfl
    try simp only [Act.put, putA, putZ, putS]
    refine wpAnyZ_done (by kernel_rfl) ?_ _
    go_wp2_with fail
    go_meet
    exact ⟨B12, rfl, rfl, HA16.out.sub (List.forall_mem_cons.2 ⟨(.head _), List.forall_mem_cons.2 ⟨(.tail _ (.head _)), List.forall_mem_cons.2 ⟨(.tail _ (.tail _ (.head _))), List.forall_mem_nil _⟩⟩⟩)⟩
  case rest =>
    obtain ⟨RB, rfl, rfl, hbf⟩ := hcut
    rename World => wr4
    have HB4 := Lib.hid hbf
    clear hbf HB3
    go_upto_region 4 with fail
    go_cut [9, 10] (fun s1 s2 wx => s1 = .int .i64 tp ∧ s2 = .int .i64 0 ∧ BF w wx [(RB, #[.int .i64 tq, .int .i64 ts], 100), (w.heap.size, #[.slice x.wa m.nw x.wc, .slice x.ra m.nr x.rc], 25), (w.heap.size + 1, #[.slice ua nl uc, .slice va nc vc], 49)])
    case first =>
      have HAX : Hid (BF w wr4.drew [(RB, #[.int .i64 tq, .int .i64 ts], 100), (w.heap.size, #[.slice x.wa m.nw x.wc, .slice x.ra m.nr x.rc], 25), (w.heap.size + 1, #[.slice ua nl uc, .slice va nc vc], 49)]) := HB4.out.below (Below.refl _ _).drew
      refine wp_region_Z (S := fun X => X.cell? ⟨w.heap.size, 0, none⟩ = some (.slice x.wa m.nw x.wc) ∧ X.cell? ⟨w.heap.size, 1, none⟩ = some (.slice x.ra m.nr x.rc) ∧ X.cell? ⟨w.heap.size + 1, 0, none⟩ = some (.slice ua nl uc) ∧ X.cell? ⟨w.heap.size + 1, 1, none⟩ = some (.slice va nc vc)) (by kernel_rfl) (⟨HAX.out.cell (.tail _ (.head _)) 0, HAX.out.cell (.tail _ (.head _)) 1, HAX.out.cell (.tail _ (.tail _ (.head _))) 0, HAX.out.cell (.tail _ (.tail _ (.head _))) 1⟩) (fun hS => ?_)
      generalize wr4.drew = X at *
      refine tk [0, 2, 4, 5] ?_
      repeat (refine tkZ (oi := ⟨_, _, _, _, _, _⟩) (v := ?_) rfl (by kernel_rfl) (by rfl) (fun _ _ _ h => h) hS ?_ ?_; rotate_left; (· rintro W' ⟨z0, z1, z2, z3⟩; go_simp; try with_reducible rfl); try simp only [Act.put, putA, putZ, putS])
      refine tk0 ?_
      refine wpAnyZ_next (rs := [1]) (by kernel_rfl) (by simp) ?_
      refine NextZ.cons (o := ⟨some 40, _, _, _, _, _⟩) rfl (fun K hK => ?_) NextZ.nil
      go_simp
      refine (HMC.out X HAX.out.fr).mono ?_
      rintro _ X0 ⟨y0, rfl, hm0, hb0⟩
      (try go_wp2_with fail)
      have HA0 := Lib.hid (HAX.out.below hb0)
      have HM0 := Lib.hid (hm0)
      refine hK.out _ _ (⟨HA0.out.cell (.tail _ (.head _)) 0, HA0.out.cell (.tail _ (.head _)) 1, HA0.out.cell (.tail _ (.tail _ (.head _))) 0, HA0.out.cell (.tail _ (.tail _ (.head _))) 1⟩) (fun hS => ?_)
      clear hK K
      try simp only [Act.put, putA, putZ, putS]
      clear hb0 hm0
      refine wpAnyZ_next (rs := [3]) (by kernel_rfl) (by simp) ?_
      refine NextZ.cons (o := ⟨some 42, _, _, _, _, _⟩) rfl (fun K hK => ?_) NextZ.nil
      go_simp
      refine (HWC.out X0 HA0.out.fr).mono ?_
      rintro _ X1 ⟨a1, d1, a2, d2, rfl, hw1, hv1, hb1⟩
      (try go_wp2_with fail)
      have HA1 := Lib.hid (HA0.out.below hb1)
      have HM1 := Lib.hid (HM0.out.below hb1)
      have HW1 := Lib.hid (hw1)
      have HV1 := Lib.hid (hv1)
      refine hK.out _ _ (⟨HA1.out.cell (.tail _ (.head _)) 0, HA1.out.cell (.tail _ (.head _)) 1, HA1.out.cell (.tail _ (.tail _ (.head _))) 0, HA1.out.cell (.tail _ (.tail _ (.head _))) 1⟩) (fun hS => ?_)
      clear hK K
      try simp only [Act.put, putA, putZ, putS]
      clear hb1 hw1 hv1
      refine wpAnyZ_next (rs := [6]) (by kernel_rfl) (by simp) ?_
      refine NextZ.cons (o := ⟨some 45, _, _, _, _, _⟩) rfl (fun K hK => ?_) NextZ.nil
      go_simp
      refine (HPI.out X1 HA1.out.fr).mono ?_
      rintro _ X2 ⟨⟨t1, e1, t2, e2⟩, rfl, ht2, hb2⟩
      (try go_wp2_with fail)
      have HA2 := Lib.hid (HA1.out.below hb2)
      have HM2 := Lib.hid (HM1.out.below hb2)
      have HW2 := Lib.hid (HW1.out.below hb2)
      have HV2 := Lib.hid (HV1.out.below hb2)
      have HT2 := Lib.hid (ht2.tr)
      refine hK.out _ _ (⟨HA2.out.cell (.tail _ (.head _)) 0, HA2.out.cell (.tail _ (.head _)) 1, HA2.out.cell (.tail _ (.tail _ (.head _))) 0, HA2.out.cell (.tail _ (.tail _ (.head _))) 1⟩) (fun hS => ?_)
      clear hK K
      try simp only [Act.put, putA, putZ, putS]
      clear hb2 ht2
      refine wpAnyZ_next (rs := [7]) (by kernel_rfl) (by simp) ?_
      refine NextZ.cons (o := ⟨some 46, _, _, _, _, _⟩) rfl (fun K hK => ?_) NextZ.nil
      go_simp
      refine (truthC_any _ _ _ _ _ _ _ _ _ HT2.out.wk HT2.out.rd kw1 kr1).mono ?_
      rintro _ X3 ⟨b1, f1, b2, f2, rfl, hp3, hq3, hb3⟩
      (try go_wp2_with fail)
      have HA3 := Lib.hid (HA2.out.below hb3)
      have HM3 := Lib.hid (HM2.out.below hb3)
      have HW3 := Lib.hid (HW2.out.below hb3)
      have HV3 := Lib.hid (HV2.out.below hb3)
      have HP3 := Lib.hid (hp3)
      have HQ3 := Lib.hid (hq3)
      refine hK.out _ _ (⟨HA3.out.cell (.tail _ (.head _)) 0, HA3.out.cell (.tail _ (.head _)) 1, HA3.out.cell (.tail _ (.tail _ (.head _))) 0, HA3.out.cell (.tail _ (.tail _ (.head _))) 1⟩) (fun hS => ?_)
      clear hK K
      try simp only [Act.put, putA, putZ, putS]
      clear hb3 hp3 hq3
      refine wpAnyZ_next (rs := [8]) (by kernel_rfl) (by simp) ?_
      refine NextZ.cons (o := ⟨some 47, _, _, _, _, _⟩) rfl (fun K hK => ?_) NextZ.nil
      go_simp
      refine (HTP.out y0 ⟨a1, d1, a2, d2⟩ ⟨b1, f1, b2, f2⟩ _ HM3.out ⟨HW3.out, HV3.out⟩ HP3.out HQ3.out).mono ?_
      rintro _ X4 ⟨rfl, hb4⟩
      (try go_wp2_with fail)
      have HA4 := Lib.hid (HA3.out.below hb4)
      refine hK.out _ _ (⟨HA4.out.cell (.tail _ (.head _)) 0, HA4.out.cell (.tail _ (.head _)) 1, HA4.out.cell (.tail _ (.tail _ (.head _))) 0, HA4.out.cell (.tail _ (.tail _ (.head _))) 1⟩) (fun hS => ?_)
      clear hK K
      try simp only [Act.put, putA, putZ, putS]
      clear hb4
      refine tk [9, 10, 11, 12, 13] ?_
      repeat (refine tkZ (oi := ⟨_, _, _, _, _, _⟩) (v := ?_) rfl (by kernel_rfl) (by rfl) (fun _ _ _ h => h) hS ?_ ?_; rotate_left; (· rintro W' ⟨z0, z1, z2, z3⟩; go_simp; try with_reducible rfl); try simp only [Act.put, putA, putZ, putS])
      refine tk0 ?_
      refine wpAnyZ_done (by kernel_rfl) ?_ _
      go_wp2_with fail
      go_meet
      exact ⟨rfl, rfl, HA4.out⟩
    case rest =>
      obtain ⟨rfl, rfl, hbf⟩ := hcut
      rename World => wr5
      have HB5 := Lib.hid hbf
      clear hbf HB4
      go_upto_region 5 with fail
      go_cut [11, 12] (fun s1 s2 wx => s1 = .int .i64 tq ∧ s2 = .int .i64 0 ∧ BF w wx [(RB, #[.int .i64 tq, .int .i64 ts], 100), (w.heap.size, #[.slice x.wa m.nw x.wc, .slice x.ra m.nr x.rc], 25), (w.heap.size + 1, #[.slice ua nl uc, .slice va nc vc], 49)])
      case first =>
        have HAX : Hid (BF w wr5.drew [(RB, #[.int .i64 tq, .int .i64 ts], 100), (w.heap.size, #[.slice x.wa m.nw x.wc, .slice x.ra m.nr x.rc], 25), (w.heap.size + 1, #[.slice ua nl uc, .slice va nc vc], 49)]) := HB5.out.below (Below.refl _ _).drew
        refine wp_region_Z (S := fun X => X.cell? ⟨w.heap.size, 0, none⟩ = some (.slice x.wa m.nw x.wc) ∧ X.cell? ⟨w.heap.size, 1, none⟩ = some (.slice x.ra m.nr x.rc) ∧ X.cell? ⟨w.heap.size + 1, 0, none⟩ = some (.slice ua nl uc) ∧ X.cell? ⟨w.heap.size + 1, 1, none⟩ = some (.slice va nc vc)) (by kernel_rfl) (⟨HAX.out.cell (.tail _ (.head _)) 0, HAX.out.cell (.tail _ (.head _)) 1, HAX.out.cell (.tail _ (.tail _ (.head _))) 0, HAX.out.cell (.tail _ (.tail _ (.head _))) 1⟩) (fun hS => ?_)
        generalize wr5.drew = X at *
        refine tk [0, 2, 4] ?_
        repeat (refine tkZ (oi := ⟨_, _, _, _, _, _⟩) (v := ?_) rfl (by kernel_rfl) (by rfl) (fun _ _ _ h => h) hS ?_ ?_; rotate_left; (· rintro W' ⟨z0, z1, z2, z3⟩; go_simp; try with_reducible rfl); try simp only [Act.put, putA, putZ, putS])
        refine tk0 ?_
        refine wpAnyZ_next (rs := [1]) (by kernel_rfl) (by simp) ?_
        refine NextZ.cons (o := ⟨some 52, _, _, _, _, _⟩) rfl (fun K hK => ?_) NextZ.nil
        go_simp
        refine (HMC.out X HAX.out.fr).mono ?_
        rintro _ X0 ⟨y0, rfl, hm0, hb0⟩
        (try go_wp2_with fail)
        have HA0 := Lib.hid (HAX.out.below hb0)
        have HM0 := Lib.hid (hm0)
        refine hK.out _ _ (⟨HA0.out.cell (.tail _ (.head _)) 0, HA0.out.cell (.tail _ (.head _)) 1, HA0.out.cell (.tail _ (.tail _ (.head _))) 0, HA0.out.cell (.tail _ (.tail _ (.head _))) 1⟩) (fun hS => ?_)
        clear hK K
        try simp only [Act.put, putA, putZ, putS]
        clear hb0 hm0
        refine wpAnyZ_next (rs := [3]) (by kernel_rfl) (by simp) ?_
        refine NextZ.cons (o := ⟨some 54, _, _, _, _, _⟩) rfl (fun K hK => ?_) NextZ.nil
        go_simp
        refine (HWC.out X0 HA0.out.fr).mono ?_
        rintro _ X1 ⟨a1, d1, a2, d2, rfl, hw1, hv1, hb1⟩
        (try go_wp2_with fail)
        have HA1 := Lib.hid (HA0.out.below hb1)
        have HM1 := Lib.hid (HM0.out.below hb1)
        have HW1 := Lib.hid (hw1)
        have HV1 := Lib.hid (hv1)
        refine hK.out _ _ (⟨HA1.out.cell (.tail _ (.head _)) 0, HA1.out.cell (.tail _ (.head _)) 1, HA1.out.cell (.tail _ (.tail _ (.head _))) 0, HA1.out.cell (.tail _ (.tail _ (.head _))) 1⟩) (fun hS => ?_)
        clear hK K
        try simp only [Act.put, putA, putZ, putS]
        clear hb1 hw1 hv1
        refine wpAnyZ_next (rs := [5]) (by kernel_rfl) (by simp) ?_
        refine NextZ.cons (o := ⟨some 56, _, _, _, _, _⟩) rfl (fun K hK => ?_) NextZ.nil
        go_simp
        refine (HQU.out X1 HA1.out.fr).mono ?_
        rintro _ X2 ⟨⟨t1, e1, t2, e2⟩, rfl, ht2, hb2⟩
        (try go_wp2_with fail)
        have HA2 := Lib.hid (HA1.out.below hb2)
        have HM2 := Lib.hid (HM1.out.below hb2)
        have HW2 := Lib.hid (HW1.out.below hb2)
        have HV2 := Lib.hid (HV1.out.below hb2)
        have HT2 := Lib.hid (ht2.tr)
        refine hK.out _ _ (⟨HA2.out.cell (.tail _ (.head _)) 0, HA2.out.cell (.tail _ (.head _)) 1, HA2.out.cell (.tail _ (.tail _ (.head _))) 0, HA2.out.cell (.tail _ (.tail _ (.head _))) 1⟩) (fun hS => ?_)
        clear hK K
        try simp only [Act.put, putA, putZ, putS]
        clear hb2 ht2
        refine wpAnyZ_next (rs := [6]) (by kernel_rfl) (by simp) ?_
        refine NextZ.cons (o := ⟨some 57, _, _, _, _, _⟩) rfl (fun K hK => ?_) NextZ.nil
        go_simp
        refine (truthC_any _ _ _ _ _ _ _ _ _ HT2.out.wk HT2.out.rd kw1 kr1).mono ?_
        rintro _ X3 ⟨b1, f1, b2, f2, rfl, hp3, hq3, hb3⟩
        (try go_wp2_with fail)
        have HA3 := Lib.hid (HA2.out.below hb3)
        have HM3 := Lib.hid (HM2.out.below hb3)
        have HW3 := Lib.hid (HW2.out.below hb3)
        have HV3 := Lib.hid (HV2.out.below hb3)
        have HP3 := Lib.hid (hp3)
        have HQ3 := Lib.hid (hq3)
        refine hK.out _ _ (⟨HA3.out.cell (.tail _ (.head _)) 0, HA3.out.cell (.tail _ (.head _)) 1, HA3.out.cell (.tail _ (.tail _ (.head _))) 0, HA3.out.cell (.tail _ (.tail _ (.head _))) 1⟩) (fun hS => ?_)
        clear hK K
        try simp only [Act.put, putA, putZ, putS]
        clear hb3 hp3 hq3
        refine wpAnyZ_next (rs := [7]) (by kernel_rfl) (by simp) ?_
        refine NextZ.cons (o := ⟨some 58, _, _, _, _, _⟩) rfl (fun K hK => ?_) NextZ.nil
        go_simp
        refine (HTQ.out y0 ⟨a1, d1, a2, d2⟩ ⟨b1, f1, b2, f2⟩ _ HM3.out ⟨HW3.out, HV3.out⟩ HP3.out HQ3.out).mono ?_
        rintro _ X4 ⟨rfl, hb4⟩
        (try go_wp2_with fail)
        have HA4 := Lib.hid (HA3.out.below hb4)
        refine hK.out _ _ (⟨HA4.out.cell (.tail _ (.head _)) 0, HA4.out.cell (.tail _ (.head _)) 1, HA4.out.cell (.tail _ (.tail _ (.head _))) 0, HA4.out.cell (.tail _ (.tail _ (.head _))) 1⟩) (fun hS => ?_)
        clear hK K
        try simp only [Act.put, putA, putZ, putS]
        clear hb4
        refine tk [8, 9, 10, 11, 12] ?_
        repeat (refine tkZ (oi := ⟨_, _, _, _, _, _⟩) (v := ?_) rfl (by kernel_rfl) (by rfl) (fun _ _ _ h => h) hS ?_ ?_; rotate_left; (· rintro W' ⟨z0, z1, z2, z3⟩; go_simp; try with_reducible rfl); try simp only [Act.put, putA, putZ, putS])
        refine tk0 ?_
        refine wpAnyZ_done (by kernel_rfl) ?_ _
        go_wp2_with fail
        go_meet
        exact ⟨rfl, rfl, HA4.out⟩
      case rest =>
        obtain ⟨rfl, rfl, hbf⟩ := hcut
        rename World => wr6
        have HB6 := Lib.hid hbf
        clear hbf HB5
        go_upto_region 6 with fail
        go_cut [13, 14] (fun s1 s2 wx => s1 = .int .i64 ts ∧ s2 = .int .i64 0 ∧ BF w wx [(RB, #[.int .i64 tq, .int .i64 ts], 100), (w.heap.size, #[.slice x.wa m.nw x.wc, .slice x.ra m.nr x.rc], 25), (w.heap.size + 1, #[.slice ua nl uc, .slice va nc vc], 49)])
        case first =>
          have HAX : Hid (BF w wr6.drew [(RB, #[.int .i64 tq, .int .i64 ts], 100), (w.heap.size, #[.slice x.wa m.nw x.wc, .slice x.ra m.nr x.rc], 25), (w.heap.size + 1, #[.slice ua nl uc, .slice va nc vc], 49)]) := HB6.out.below (Below.refl _ _).drew
          refine wp_region_Z (S := fun X => X.cell? ⟨w.heap.size, 0, none⟩ = some (.slice x.wa m.nw x.wc) ∧ X.cell? ⟨w.heap.size, 1, none⟩ = some (.slice x.ra m.nr x.rc) ∧ X.cell? ⟨w.heap.size + 1, 0, none⟩ = some (.slice ua nl uc) ∧ X.cell? ⟨w.heap.size + 1, 1, none⟩ = some (.slice va nc vc)) (by kernel_rfl) (⟨HAX.out.cell (.tail _ (.head _)) 0, HAX.out.cell (.tail _ (.head _)) 1, HAX.out.cell (.tail _ (.tail _ (.head _))) 0, HAX.out.cell (.tail _ (.tail _ (.head _))) 1⟩) (fun hS => ?_)
          generalize wr6.drew = X at *
          refine tk [0, 2, 4] ?_
          repeat (refine tkZ (oi := ⟨_, _, _, _, _, _⟩) (v := ?_) rfl (by kernel_rfl) (by rfl) (fun _ _ _ h => h) hS ?_ ?_; rotate_left; (· rintro W' ⟨z0, z1, z2, z3⟩; go_simp; try with_reducible rfl); try simp only [Act.put, putA, putZ, putS])
          refine tk0 ?_
          refine wpAnyZ_next (rs := [1]) (by kernel_rfl) (by simp) ?_
          refine NextZ.cons (o := ⟨some 63, _, _, _, _, _⟩) rfl (fun K hK => ?_) NextZ.nil
          go_simp
          refine (HMC.out X HAX.out.fr).mono ?_
          rintro _ X0 ⟨y0, rfl, hm0, hb0⟩
          (try go_wp2_with fail)
          have HA0 := Lib.hid (HAX.out.below hb0)
          have HM0 := Lib.hid (hm0)
          refine hK.out _ _ (⟨HA0.out.cell (.tail _ (.head _)) 0, HA0.out.cell (.tail _ (.head _)) 1, HA0.out.cell (.tail _ (.tail _ (.head _))) 0, HA0.out.cell (.tail _ (.tail _ (.head _))) 1⟩) (fun hS => ?_)
          clear hK K
          try simp only [Act.put, putA, putZ, putS]
          clear hb0 hm0
          refine wpAnyZ_next (rs := [3]) (by kernel_rfl) (by simp) ?_
          refine NextZ.cons (o := ⟨some 65, _, _, _, _, _⟩) rfl (fun K hK => ?_) NextZ.nil
          go_simp
          refine (HWC.out X0 HA0.out.fr).mono ?_
          rintro _ X1 ⟨a1, d1, a2, d2, rfl, hw1, hv1, hb1⟩
          (try go_wp2_with fail)
          have HA1 := Lib.hid (HA0.out.below hb1)
          have HM1 := Lib.hid (HM0.out.below hb1)
          have HW1 := Lib.hid (hw1)
          have HV1 := Lib.hid (hv1)
          refine hK.out _ _ (⟨HA1.out.cell (.tail _ (.head _)) 0, HA1.out.cell (.tail _ (.head _)) 1, HA1.out.cell (.tail _ (.tail _ (.head _))) 0, HA1.out.cell (.tail _ (.tail _ (.head _))) 1⟩) (fun hS => ?_)
          clear hK K
          try simp only [Act.put, putA, putZ, putS]
          clear hb1 hw1 hv1
          refine wpAnyZ_next (rs := [5]) (by kernel_rfl) (by simp) ?_
          refine NextZ.cons (o := ⟨some 67, _, _, _, _, _⟩) rfl (fun K hK => ?_) NextZ.nil
          go_simp
          refine (HSL.out X1 HA1.out.fr).mono ?_
          rintro _ X2 ⟨⟨t1, e1, t2, e2⟩, rfl, ht2, hb2⟩
          (try go_wp2_with fail)
          have HA2 := Lib.hid (HA1.out.below hb2)
          have HM2 := Lib.hid (HM1.out.below hb2)
          have HW2 := Lib.hid (HW1.out.below hb2)
          have HV2 := Lib.hid (HV1.out.below hb2)
          have HT2 := Lib.hid (ht2.tr)
          refine hK.out _ _ (⟨HA2.out.cell (.tail _ (.head _)) 0, HA2.out.cell (.tail _ (.head _)) 1, HA2.out.cell (.tail _ (.tail _ (.head _))) 0, HA2.out.cell (.tail _ (.tail _ (.head _))) 1⟩) (fun hS => ?_)
          clear hK K
          try simp only [Act.put, putA, putZ, putS]
          clear hb2 ht2
          refine wpAnyZ_next (rs := [6]) (by kernel_rfl) (by simp) ?_
          refine NextZ.cons (o := ⟨some 68, _, _, _, _, _⟩) rfl (fun K hK => ?_) NextZ.nil
          go_simp
          refine (truthC_any _ _ _ _ _ _ _ _ _ HT2.out.wk HT2.out.rd kw1 kr1).mono ?_
          rintro _ X3 ⟨b1, f1, b2, f2, rfl, hp3, hq3, hb3⟩
          (try go_wp2_with fail)
          have HA3 := Lib.hid (HA2.out.below hb3)
          have HM3 := Lib.hid (HM2.out.below hb3)
          have HW3 := Lib.hid (HW2.out.below hb3)
          have HV3 := Lib.hid (HV2.out.below hb3)
          have HP3 := Lib.hid (hp3)
          have HQ3 := Lib.hid (hq3)
          refine hK.out _ _ (⟨HA3.out.cell (.tail _ (.head _)) 0, HA3.out.cell (.tail _ (.head _)) 1, HA3.out.cell (.tail _ (.tail _ (.head _))) 0, HA3.out.cell (.tail _ (.tail _ (.head _))) 1⟩) (fun hS => ?_)
          clear hK K
          try simp only [Act.put, putA, putZ, putS]
          clear hb3 hp3 hq3
          refine wpAnyZ_next (rs := [7]) (by kernel_rfl) (by simp) ?_
          refine NextZ.cons (o := ⟨some 69, _, _, _, _, _⟩) rfl (fun K hK => ?_) NextZ.nil
          go_simp
          refine (HTS.out y0 ⟨a1, d1, a2, d2⟩ ⟨b1, f1, b2, f2⟩ _ HM3.out ⟨HW3.out, HV3.out⟩ HP3.out HQ3.out).mono ?_
          rintro _ X4 ⟨rfl, hb4⟩
          (try go_wp2_with fail)
          have HA4 := Lib.hid (HA3.out.below hb4)
          refine hK.out _ _ (⟨HA4.out.cell (.tail _ (.head _)) 0, HA4.out.cell (.tail _ (.head _)) 1, HA4.out.cell (.tail _ (.tail _ (.head _))) 0, HA4.out.cell (.tail _ (.tail _ (.head _))) 1⟩) (fun hS => ?_)
          clear hK K
          try simp only [Act.put, putA, putZ, putS]
          clear hb4
          refine tk [8, 9, 10, 11, 12] ?_
          repeat (refine tkZ (oi := ⟨_, _, _, _, _, _⟩) (v := ?_) rfl (by kernel_rfl) (by rfl) (fun _ _ _ h => h) hS ?_ ?_; rotate_left; (· rintro W' ⟨z0, z1, z2, z3⟩; go_simp; try with_reducible rfl); try simp only [Act.put, putA, putZ, putS])
          refine tk0 ?_
          refine wpAnyZ_done (by kernel_rfl) ?_ _
          go_wp2_with fail
          go_meet
          exact ⟨rfl, rfl, HA4.out⟩
        case rest =>
          obtain ⟨rfl, rfl, hbf⟩ := hcut
          rename World => wr7
          have HB7 := Lib.hid hbf
          clear hbf HB6
          go_upto_region 7 with fail
          have HE := Lib.hid (fun W => eql_same tq ts W)
          have HAX : Hid (BF w wr7.drew [(RB, #[.int .i64 tq, .int .i64 ts], 100), (w.heap.size, #[.slice x.wa m.nw x.wc, .slice x.ra m.nr x.rc], 25), (w.heap.size + 1, #[.slice ua nl uc, .slice va nc vc], 49)]) := HB7.out.below (Below.refl _ _).drew
          refine wp_region_Z (S := fun X => X.cell? ⟨RB, 0, none⟩ = some (.int .i64 tq) ∧ X.cell? ⟨RB, 1, none⟩ = some (.int .i64 ts)) (by kernel_rfl) (⟨HAX.out.cell (.head _) 0, HAX.out.cell (.head _) 1⟩) (fun hS => ?_)
          generalize wr7.drew = X at *
          refine tk [0, 1, 2, 3, 4, 5, 6, 7, 8, 9, 10, 11, 12, 13, 14, 15, 16, 17] ?_
          repeat (refine tkZ (oi := ⟨_, _, _, _, _, _⟩) (v := ?_) rfl (by kernel_rfl) (by rfl) (fun _ _ _ h => h) hS ?_ ?_; rotate_left; (· rintro W' ⟨z0, z1⟩; go_simp; try with_reducible rfl); try simp only [Act.put, putA, putZ, putS])
          refine tk0 ?_
          refine wpAnyZ_next (rs := [18]) (by kernel_rfl) (by simp) ?_
          refine NextZ.cons (o := ⟨some 90, _, _, _, _, _⟩) rfl (fun K hK => ?_) NextZ.nil
          go_simp
          refine (between_any _ _ _).mono ?_
          rintro _ X0 ⟨rfl, hb0⟩
          (try go_wp2_with fail)
          have HA0 := Lib.hid (HAX.out.below hb0)
          refine hK.out _ _ (⟨HA0.out.cell (.head _) 0, HA0.out.cell (.head _) 1⟩) (fun hS => ?_)
          clear hK K
          try simp only [Act.put, putA, putZ, putS]
          clear hb0
          refine tk [19, 20, 21, 22, 23, 24, 25, 26, 27, 28, 29, 30, 31] ?_
          repeat (refine tkZ (oi := ⟨_, _, _, _, _, _⟩) (v := ?_) rfl (by kernel_rfl) (by rfl) (fun _ _ _ h => h) hS ?_ ?_; rotate_left; (· rintro W' ⟨z0, z1⟩; go_simp; try with_reducible rfl); try simp only [Act.put, putA, putZ, putS])
          refine tk0 ?_
          refine wpAnyZ_next (rs := [32]) (by kernel_rfl) (by simp) ?_
          refine NextZ.cons (o := ⟨some 104, _, _, _, _, _⟩) rfl (fun K hK => ?_) NextZ.nil
          go_simp
          refine (awake_any _).mono ?_
          rintro _ X1 ⟨rfl, hb1⟩
          (try go_wp2_with fail)
          have HA1 := Lib.hid (HA0.out.below hb1)
          refine hK.out _ _ (⟨HA1.out.cell (.head _) 0, HA1.out.cell (.head _) 1⟩) (fun hS => ?_)
          clear hK K
          try simp only [Act.put, putA, putZ, putS]
          clear hb1
          refine tk [33, 34] ?_
          repeat (refine tkZ (oi := ⟨_, _, _, _, _, _⟩) (v := ?_) rfl (by kernel_rfl) (by rfl) (fun _ _ _ h => h) hS ?_ ?_; rotate_left; (· rintro W' ⟨z0, z1⟩; go_simp; try with_reducible rfl); try simp only [Act.put, putA, putZ, putS])
          refine tk0 ?_
          refine wpAnyZ_done (by kernel_rfl) ?_ _
          go_wp2
          go_ret
          exact ⟨rfl, HA1.out.fr⟩
end Go.Proofs.Ytpnkgjkoophckaa
