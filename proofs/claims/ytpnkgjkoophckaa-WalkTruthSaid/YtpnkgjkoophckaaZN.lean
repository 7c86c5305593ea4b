/- Walk: WalkPlans' walk. Printed by gen_zn.py. -/
import Derived.Test.YtpnkgjkoophckaaPE
import Derived.Test.YtpnkgjkoophckaaPF
namespace Go.Proofs.Ytpnkgjkoophckaa
open Go.RowKit Go.Shelf

theorem fw_congr {ok ok' : Nat → Bool} {s : Nat} (hs : s < 256) (h : ∀ p, p &&& s = p → ok p = ok' p) : fw ok s = fw ok' s := by
  have key : ∀ {a b : Nat → Bool}, (∀ p, p &&& s = p → a p = b p) → fw a s ≤ fw b s := fun {a b} h => by
    obtain ⟨a1, _, _, a4⟩ := fw_spec (ok := a) s s (Nat.le_refl _) hs
    obtain ⟨_, b2, _, b4⟩ := fw_spec (ok := b) s s (Nat.le_refl _) hs
    by_cases hb : fw b s < 1048576
    · obtain ⟨n, e, hd⟩ := b2 hb
      have := a1 n (hd.mono (fun p hp hk => by rw [h p hp]; exact hk) hs)
      omega
    · omega
  have h1 := key h
  have h2 := key (fun p hp => (h p hp).symm)
  omega
theorem touM_le {m : Mp} {L : Int} (hL : L < 1048576) {p : Nat} (hp : p < 2 ^ m.nw) : touM m p ≤ L ↔ lgM m p ≤ L := by
  rw [touM_get m hp]
  unfold tuM
  omega
/-- The reference's number of walks. -/
theorem fwV_dv {m : Mp} (ok : OkM m) {L : Int} (hL : L < 1048576) : (dvW m L = [] → fwV (touM m) L (2 ^ m.nw - 1) = 1048576) ∧ (dvW m L ≠ [] → fwV (touM m) L (2 ^ m.nw - 1) = (dvW m L).length) := by
  have w := whole_pos ok
  have e : fwV (touM m) L (2 ^ m.nw - 1) = fw (okL m L) (2 ^ m.nw - 1) := fw_congr w.2.1 fun p hp => by
    unfold fwT okL
    rw [Bool.eq_iff_iff, decide_eq_true_eq, decide_eq_true_eq]
    exact touM_le hL (Nat.lt_of_le_of_lt (sub_le hp) w.2.2)
  rw [e]
  exact fw_dv (okL m L) w.2.1 w.1
theorem yD_bd {m : Mp} (ok : OkM m) {L : Int} (hL : L ≤ 1048575) (hd : dvW m L ≠ []) (k : Nat) (hk : k < (dvW m L).length) : (yD m (dvW m L) k).nl ≤ 100000 ∧ (yD m (dvW m L) k).nc ≤ 100000 := by
  have h1 := (best_right ok hL hd).1 k hk
  have h2 := dvW_mem ok hL (List.getElem_mem hk)
  have e : yD m (dvW m L) k = tourY m (dvW m L)[k] := by unfold yD; rw [List.getD_eq_getElem?_getD, List.getElem?_eq_getElem hk]; rfl
  unfold isWalkB at h1
  rw [Bool.and_eq_true, decide_eq_true_eq] at h1
  have h3 := plc_lt ⟨(dvW m L)[k], two8 ok h2.1⟩
  simp only at h3
  refine ⟨by omega, ?_⟩
  rw [e]
  show (plc (dvW m L)[k]).length ≤ 100000
  omega
set_option maxRecDepth 100000 in
set_option maxHeartbeats 32000000 in
theorem walkPlans_walk (x : MV) (m : Mp) (lim : Int) (w : World) (h : MpLaw w x m) :
    Calls Try.prog 10 #[.agg #[.slice x.wa m.nw x.wc, .slice x.ra m.nr x.rc], .int .i64 lim] w fun e w' => e = .returned (.bool true) ∧ Below w.heap.size w w' := by
  obtain ⟨i0, hi0, hz0, hz1, hz2⟩ := info_parts Try.infoInt
  have HTH := Lib.hid (fun W => thin_any x m.nw m.nr W)
  have HMP := Lib.hid h.l
  obtain ⟨tb, htb⟩ : ∃ tb, tb = (decide (m.nw ≤ 11) && decide (m.nr ≤ 24)) := ⟨_, rfl⟩
  have HTB : Hid (tb = true → m.nw ≤ 11 ∧ m.nr ≤ 24) := fun e => by rw [htb] at e; simp only [Bool.and_eq_true, decide_eq_true_eq] at e; exact e
  rw [← htb] at HTH
  clear htb h
  have HA0 : Hid (BF w (w.alloc (.cells #[.slice x.wa m.nw x.wc, .slice x.ra m.nr x.rc] 25)) [(w.heap.size, #[.slice x.wa m.nw x.wc, .slice x.ra m.nr x.rc], 25)]) := (BF.base w).alloc _ _
  go_enter Try.func10, Try.ntmps10
  go_upto_region 1 with fail
  generalize w.alloc (.cells #[.slice x.wa m.nw x.wc, .slice x.ra m.nr x.rc] 25) = w0 at *
  have c0 := HA0.out.cell (.head _) 0
  have c1 := HA0.out.cell (.head _) 1
  cases tb
  · go_wp2_with (first | (go_at_call 18; refine (HTH.out _).mono ?_; rintro _ w1 ⟨rfl, hb⟩; have HA1 := Lib.hid (HA0.out.below hb); clear hb) | (go_at_call 19; refine (awake_any _).mono ?_; rintro _ w9 ⟨rfl, hb⟩; have HZ := Lib.hid (HA1.out.below hb); clear hb))
    go_ret
    exact ⟨rfl, HZ.out.fr⟩
  obtain ⟨hw11, hr24⟩ := HTB.out rfl
  have kw1 : m.nw ≤ 100000 := by omega
  have kr1 : m.nr ≤ 100000 := by omega
  have HMC := Lib.hid (fun W (hW : Below w.heap.size w W) => mapC_any x m W (HMP.out.below hW) kw1 kr1)
  have HFT := Lib.hid (fun W (hW : Below w.heap.size w W) => lfault_any x m W (HMP.out.below hW) kw1 kr1)
  have HIN := Lib.hid (fun W => rIn_any lim 0 10000 W)
  obtain ⟨te, hte⟩ : ∃ te, te = rchE m lim := ⟨_, rfl⟩
  have hteq : te = if m.fault ≠ 0 then m.fault else if inB lim 0 10000 = true then 0 else 2 := hte
  by_cases k0 : te = 0
  case neg =>
    have hrc : rchE m lim = te := hte.symm
    have hdv : dvdE m lim = te := by
      rw [hteq] at k0 ⊢
      unfold dvdE
      by_cases hf : m.fault ≠ 0
      · rw [if_pos hf, if_pos hf]
      · rw [if_neg hf] at k0 ⊢
        rw [if_neg hf]
        by_cases hi : inB lim 0 10000 = true
        · rw [if_pos hi] at k0; exact absurd rfl k0
        · rw [if_neg hi, if_neg hi]
    have HRE : Hid (∀ y W, MpIn W y m → Calls Try.prog 42 #[.agg #[.slice y.wa m.nw y.wc, .slice y.ra m.nr y.rc], .int .i64 lim] W fun e w' => e = .returned (.tuple #[.slice none 0 0, .int .i64 te]) ∧ Below W.heap.size W w') := fun y W hm => (Reach_any y m lim W hm kw1 kr1).mono (by
      rintro e w' ⟨hb, h⟩
      rw [hrc] at h
      rcases h with ⟨_, rfl⟩ | ⟨h, _⟩
      · exact ⟨rfl, hb⟩
      · exact absurd h k0)
    have HPL : Hid (∀ y W, MpIn W y m → Calls Try.prog 45 #[.agg #[.slice y.wa m.nw y.wc, .slice y.ra m.nr y.rc], .int .i64 lim] W fun e w' => e = .returned (.tuple #[.slice none 0 0, .int .i64 te]) ∧ Below W.heap.size W w') := fun y W hm => (Plan_any y m lim W hm kw1 kr1).mono (by
      rintro e w' ⟨hb, h⟩
      rw [hdv] at h
      rcases h with ⟨_, rfl⟩ | ⟨h, _⟩
      · exact ⟨rfl, hb⟩
      · exact absurd h k0)
    have HFE : Hid (∀ y W, MpIn W y m → Calls Try.prog 43 #[.agg #[.slice y.wa m.nw y.wc, .slice y.ra m.nr y.rc], .int .i64 lim] W fun e w' => e = .returned (.tuple #[.int .i64 0, .int .i64 te]) ∧ Below W.heap.size W w') := fun y W hm => (Fewest_any y m lim W hm kw1 kr1).mono (by
      rintro e w' ⟨hb, rfl⟩
      rw [hdv, if_neg k0]
      exact ⟨rfl, hb⟩)
    have HTE := Lib.hid hteq
    clear hrc hdv hte hteq
    generalize m.fault = ft at *
    generalize inB lim 0 10000 = ib at *
    go_wp2_with fail
    refine (HTH.out _).mono ?_
    rintro _ w1 ⟨rfl, hb⟩
    have HA1 := Lib.hid (HA0.out.below hb)
    have e0 := HA1.out.cell (.head _) 0
    have e1 := HA1.out.cell (.head _) 1
    clear hb HA0 c0 c1
    go_wp2_with fail
    refine (HMC.out _ HA1.out.fr).mono ?_
    rintro _ w2 ⟨y2, rfl, hm, hb⟩
    have HA2 := Lib.hid (HA1.out.below hb)
    have HM2 := Lib.hid (hm)
    clear hb HA1 hm e0 e1
    go_wp2_with fail
    refine (HRE.out y2 _ HM2.out).mono ?_
    rintro _ w3 ⟨rfl, hb⟩
    have HA3 := Lib.hid (HA2.out.below hb)
    have e0 := HA3.out.cell (.head _) 0
    have e1 := HA3.out.cell (.head _) 1
    clear hb HA2 HM2
    go_wp2_with fail
    refine (HMC.out _ HA3.out.fr).mono ?_
    rintro _ w4 ⟨y4, rfl, hm, hb⟩
    have HA4 := Lib.hid (HA3.out.below hb)
    have HM4 := Lib.hid (hm)
    clear hb HA3 hm e0 e1
    go_wp2_with fail
    refine (HPL.out y4 _ HM4.out).mono ?_
    rintro _ w5 ⟨rfl, hb⟩
    have HA5 := Lib.hid (HA4.out.below hb)
    have e0 := HA5.out.cell (.head _) 0
    have e1 := HA5.out.cell (.head _) 1
    clear hb HA4 HM4
    go_wp2_with fail
    refine (HMC.out _ HA5.out.fr).mono ?_
    rintro _ w6 ⟨y6, rfl, hm, hb⟩
    have HA6 := Lib.hid (HA5.out.below hb)
    have HM6 := Lib.hid (hm)
    clear hb HA5 hm e0 e1
    go_wp2_with fail
    refine (HFE.out y6 _ HM6.out).mono ?_
    rintro _ w7 ⟨rfl, hb⟩
    have HA7 := Lib.hid (HA6.out.below hb)
    have e0 := HA7.out.cell (.head _) 0
    have e1 := HA7.out.cell (.head _) 1
    clear hb HA6 HM6
    go_wp2_with fail
    refine (HFT.out _ HA7.out.fr).mono ?_
    rintro _ w9 ⟨rfl, hb⟩
    have HA9 := Lib.hid (HA7.out.below hb)
    clear hb HA7 e0 e1
    by_cases k1 : ft = 0
    case neg =>
      have kb : (ft == 0) = false := by simpa using k1
      have hte : te = ft := by rw [HTE.out, if_pos k1]
      subst hte
      clear HTE
      go_wp2_with (go_at_call 19; refine (awake_any _).mono ?_; rintro _ wz ⟨rfl, hb⟩; have HZ := Lib.hid (HA9.out.below hb); clear hb)
      go_ret
      exact ⟨rfl, HZ.out.fr⟩
    subst k1
    have hib : ib = false := by
      cases ib
      · rfl
      · exact absurd HTE.out k0
    subst hib
    have hte : te = 2 := HTE.out
    subst hte
    clear HTE
    go_wp2_with (first | (go_at_call 24; refine (HIN.out _).mono ?_; rintro _ _ ⟨rfl, rfl⟩) | (go_at_call 19; refine (awake_any _).mono ?_; rintro _ wz ⟨rfl, hb⟩; have HZ := Lib.hid (HA9.out.below hb); clear hb))
    go_ret
    exact ⟨rfl, HZ.out.fr⟩
  have hf0 : m.fault = 0 := by
    rw [hteq] at k0
    by_cases hf : m.fault = 0
    · exact hf
    · rw [if_pos hf] at k0; exact k0
  have hib : inB lim 0 10000 = true := by
    rw [hteq, if_neg (by simpa using hf0)] at k0
    by_cases hi : inB lim 0 10000 = true
    · exact hi
    · rw [if_neg hi] at k0; exact absurd k0 (by decide)
  clear hteq hte k0 te
  have ok := okM_of hf0
  have hl : 0 ≤ lim ∧ lim ≤ 10000 := by simpa only [inB, Bool.and_eq_true, decide_eq_true_eq] using hib
  have hnw8 := ok.nw
  have HRE := Lib.hid (fun y W (hm : MpIn W y m) => reach_pl ok hf0 y hl W hm)
  have HPL := Lib.hid (fun y W (hm : MpIn W y m) => plan_pl ok hf0 y hl W hm)
  have hdv : dvdE m lim = planX m lim := by unfold dvdE planX; rw [hf0, hib]; rfl
  have HFE : Hid (∀ y W, MpIn W y m → Calls Try.prog 43 #[.agg #[.slice y.wa m.nw y.wc, .slice y.ra m.nr y.rc], .int .i64 lim] W fun e w' => e = .returned (.tuple #[.int .i64 ((dvW m lim).length : Int), .int .i64 (planX m lim)]) ∧ Below W.heap.size W w') := fun y W hm => (Fewest_any y m lim W hm kw1 kr1).mono (by
    rintro e w' ⟨hb, rfl⟩
    refine ⟨?_, hb⟩
    rw [hdv]
    unfold planX
    by_cases hd : dvW m lim = []
    · rw [if_pos hd, if_neg (by decide), hd]; rfl
    · rw [if_neg hd, if_pos rfl])
  have HTO := Lib.hid (fun W (hW : Below w.heap.size w W) => rToured_any ok x W (HMP.out.below hW))
  have HWH := Lib.hid (fun W => rWhole_any x m W hnw8.2)
  have w8 := (whole_pos ok).2.1
  have HFW := Lib.hid (fun W => rFewest_any (touM m) lim _ (2 ^ m.nw - 1) (Nat.le_refl _) w8 W)
  obtain ⟨hv1, hv2⟩ := fwV_dv ok (show lim < 1048576 by omega)
  have HTL := Lib.hid (fun k (hk : k < m.nw) => touM_le (m := m) (show lim < 1048576 by omega) (Nat.pow_lt_pow_right (a := 2) (by decide) hk))
  have HRS := Lib.hid (rchN_succ m lim)
  have HRN := Lib.hid (rchN_len m lim)
  have HR0 : Hid (rchN m lim 0 = []) := rfl
  have HBR := Lib.hid (fun hd => best_right ok (show lim ≤ 1048575 by omega) hd)
  have HYB := Lib.hid (fun hd => yD_bd ok (show lim ≤ 1048575 by omega) hd)
  have HOK := Lib.hid ok
  rw [hf0] at HFT
  rw [hib] at HIN
  have HV1 := Lib.hid hv1
  have HV2 := Lib.hid hv2
  clear hf0 hib hl hdv hv1 hv2 ok
  obtain ⟨due, hdue⟩ : ∃ due, fwV (touM m) lim (2 ^ m.nw - 1) = due := ⟨_, rfl⟩
  rw [hdue] at HFW HV1 HV2
  obtain ⟨px, hpx⟩ : ∃ px, planX m lim = px := ⟨_, rfl⟩
  have HPX : Hid (px = if dvW m lim = [] then 9 else 0) := hpx.symm
  rw [hpx] at HPL HFE
  obtain ⟨W8, hW8⟩ : ∃ W8, 2 ^ m.nw - 1 = W8 := ⟨_, rfl⟩
  rw [hW8] at HFW HWH
  obtain ⟨D, hD⟩ : ∃ D, dvW m lim = D := ⟨_, rfl⟩
  rw [hD] at HPL HFE HV1 HV2 HBR HYB HPX
  clear hdue hpx hW8 hD w8
  generalize rchN m lim = RL at *
  go_wp2_with fail
  refine (HTH.out _).mono ?_
  rintro _ w1 ⟨rfl, hb⟩
  have HA1 := Lib.hid (HA0.out.below hb)
  have e0 := HA1.out.cell (.head _) 0
  have e1 := HA1.out.cell (.head _) 1
  clear hb HA0 c0 c1
  go_wp2_with fail
  refine (HMC.out _ HA1.out.fr).mono ?_
  rintro _ w2 ⟨y2, rfl, hm, hb⟩
  have HA2 := Lib.hid (HA1.out.below hb)
  have HM2 := Lib.hid (hm)
  clear hb HA1 hm e0 e1
  go_wp2_with fail
  refine (HRE.out y2 _ HM2.out).mono ?_
  rintro _ w3 ⟨la, lc, rfl, hli, hb⟩
  have HA3 := Lib.hid (HA2.out.below hb)
  have HG3 := Lib.hid (hli)
  have e0 := HA3.out.cell (.head _) 0
  have e1 := HA3.out.cell (.head _) 1
  clear hb HA2 HM2 hli
  go_wp2_with fail
  refine (HMC.out _ HA3.out.fr).mono ?_
  rintro _ w4 ⟨y4, rfl, hm, hb⟩
  have HA4 := Lib.hid (HA3.out.below hb)
  have HM4 := Lib.hid (hm)
  have HG4 := Lib.hid (HG3.out.below hb)
  clear hb HA3 hm e0 e1 HG3
  go_wp2_with fail
  refine (HPL.out y4 _ HM4.out).mono ?_
  rintro _ w5 ⟨hb, pa, pc, Q, rfl, hqm, hqr, hqo⟩
  have HA5 := Lib.hid (HA4.out.below hb)
  have HG5 := Lib.hid (HG4.out.below hb)
  have HQ5 := Lib.hid (PlO.ofQ hqm hqr hqo)
  have HQL := Lib.hid ((by simpa using congrArg List.length hqm : Q.length = D.length))
  have e0 := HA5.out.cell (.head _) 0
  have e1 := HA5.out.cell (.head _) 1
  clear hb HA4 HM4 hqm hqr hqo HG4
  go_wp2_with fail
  refine (HMC.out _ HA5.out.fr).mono ?_
  rintro _ w6 ⟨y6, rfl, hm, hb⟩
  have HA6 := Lib.hid (HA5.out.below hb)
  have HM6 := Lib.hid (hm)
  have HG6 := Lib.hid (HG5.out.below hb)
  have HQ6 := Lib.hid (HQ5.out.below hb)
  clear hb HA5 hm e0 e1 HG5 HQ5
  go_wp2_with fail
  refine (HFE.out y6 _ HM6.out).mono ?_
  rintro _ w7 ⟨rfl, hb⟩
  have HA7 := Lib.hid (HA6.out.below hb)
  have HG7 := Lib.hid (HG6.out.below hb)
  have HQ7 := Lib.hid (HQ6.out.below hb)
  have e0 := HA7.out.cell (.head _) 0
  have e1 := HA7.out.cell (.head _) 1
  clear hb HA6 HM6 HG6 HQ6
  go_wp2_with fail
  refine (HFT.out _ HA7.out.fr).mono ?_
  rintro _ w9 ⟨rfl, hb⟩
  have HA9 := Lib.hid (HA7.out.below hb)
  have HG9 := Lib.hid (HG7.out.below hb)
  have HQ9 := Lib.hid (HQ7.out.below hb)
  have e0 := HA9.out.cell (.head _) 0
  have e1 := HA9.out.cell (.head _) 1
  clear hb HA7 HG7 HQ7
  go_wp2_with (go_at_call 24; refine (HIN.out _).mono ?_; rintro _ _ ⟨rfl, rfl⟩)
  obtain ⟨zz, hzz⟩ : ∃ zz : Array Value, zz = Try.zeroCells58 := ⟨_, rfl⟩
  have HZS : Hid (zz.size = (t256 (touM m)).size) := by rw [hzz, t256_zero, t256_size, t256_size]; rfl
  have HSZ := Lib.hid (t256_info (touM m))
  refine (HTO.out _ HA9.out.fr).mono ?_
  rintro _ wA ⟨rfl, hb⟩
  have HA10 := Lib.hid (HA9.out.below hb)
  have HG10 := Lib.hid (HG9.out.below hb)
  have HQ10 := Lib.hid (HQ9.out.below hb)
  have hlM := ((HA9.out.below hb).lt (.head _)).2
  clear hb HA9 HG9 HQ9 e0 e1 HTO
  have HR : Hid ((wA.alloc (.cells zz 58)).heap[wA.heap.size]? = some (.cells zz 58 (0, 0))) := heap_alloc_new _ _
  have HA11 : Hid (BF w ((wA.alloc (.cells zz 58)).setRow wA.heap.size (t256 (touM m))) [(wA.heap.size, t256 (touM m), 58), (w.heap.size, #[.slice x.wa m.nw x.wc, .slice x.ra m.nr x.rc], 25)]) := (HA10.out.alloc zz 58).setrow (.head _) (List.forall_mem_cons.2 ⟨⟨Nat.ne_of_lt hlM, .tail _ (.head _)⟩, List.forall_mem_nil _⟩)
  have HBW : Hid (Below wA.heap.size wA ((wA.alloc (.cells zz 58)).setRow wA.heap.size (t256 (touM m)))) := (((BF.base wA).alloc zz 58).setrow (.head _) (cs' := t256 (touM m)) (L' := []) (List.forall_mem_nil _)).fr
  go_wp2_with (rw [← hzz]; refine wpList_store_row (o := ⟨none, .store 58 (.tmp 12) (.tmp 85), _, _, _, _⟩) rfl 58 (.tmp 12) (.tmp 85) rfl wA.heap.size (t256 (touM m)) rfl rfl 58 zz HR.out HSZ.out HZS.out (t256_one _) ?_)
  rw [← hzz]
  have HG11 := Lib.hid (HG10.out.below HBW.out)
  have HQ11 := Lib.hid (HQ10.out.below HBW.out)
  clear hzz HR HA10 HG10 HQ10 HBW hlM
  generalize ((wA.alloc (.cells zz 58)).setRow wA.heap.size (t256 (touM m))) = ws at *
  generalize wA.heap.size = TB at *
  clear HZS
  go_loopw [13, 14] (fun s13 i wr => ∃ (k : Nat) (va : Option Addr) (vc : Nat), i = .int .i64 k ∧ k ≤ m.nw ∧ s13 = .slice va (RL k).length vc ∧ BF ws wr [] ∧ wr.ownsRow ws.heap.size 3 1 (.slice va (RL k).length vc) (RL k).length (nL (RL k))) (fun _ i _ => m.nw - (intOf i).toNat)
  case atStart => exact ⟨0, none, 0, rfl, Nat.zero_le _, by rw [HR0.out]; rfl, BF.base _, by rw [HR0.out]; exact World.ownsRow_nil _ _ _ _⟩
  case round =>
    obtain ⟨k, va, vc, rfl, hk, rfl, hbf, how⟩ := hrel
    rename World => wx
    have HF1 := Lib.hid hbf; have HO1 := Lib.hid how
    have HA12 := Lib.hid (HA11.out.below hbf.fr)
    have f0 := HA12.out.cell (.tail _ (.head _)) 0
    have f1 := HA12.out.cell (.tail _ (.head _)) 1
    clear hbf how
    by_cases hlt : k < m.nw
    · have HRK := Lib.hid (HRS.out k)
      have HRKN := Lib.hid (HRN.out k)
      have htl := HTL.out k hlt
      have ki : (0 : Int) ≤ (k : Int) := by omega
      have kn : (k : Int) < (m.nw : Int) := by omega
      have hp256 : 2 ^ k < 256 := Nat.pow_lt_pow_right (a := 2) (n := 8) (by decide) (by omega)
      have KB : wrap64 (2 ^ k) = ((2 ^ k : Nat) : Int) := bit_one ⟨k, by omega⟩
      have cp : wx.cell? ⟨TB, 2 ^ k, none⟩ = some (.int .i64 (touM m (2 ^ k))) := (HA12.out.cell (.head _) (2 ^ k)).trans (t256_get _ hp256)
      obtain ⟨v, hv⟩ : ∃ v, touM m (2 ^ k) = v := ⟨_, rfl⟩
      rw [hv] at htl cp
      obtain ⟨P, hP⟩ : ∃ P, 2 ^ k = P := ⟨_, rfl⟩
      rw [hP] at htl cp hp256 HRK
      have KB2 : wrap64 (2 ^ k) = (P : Int) := by rw [KB, hP]
      have pi : (0 : Int) ≤ (P : Int) := by omega
      have pn : (P : Int) < 256 := by omega
      obtain ⟨L, hL⟩ : ∃ L, L = RL k := ⟨_, rfl⟩
      rw [← hL] at HRK HRKN HO1 ⊢
      clear hv hP hL KB
      by_cases hle : v ≤ lim
      · have HRK2 : Hid (RL (k + 1) = L ++ [k]) := by have h := HRK.out; rw [if_pos (htl.1 hle)] at h; exact h
        have hln := HRKN.out
        obtain ⟨n, hn⟩ : ∃ n, L.length = n := ⟨_, rfl⟩
        have HN := Lib.hid hn
        rw [hn] at HO1 hln ⊢
        clear hn htl
        go_wp2_with (at_builtin; refine wpList_append_src _ rfl (.tmp 100) (.tmp 102) 26 rfl ws.heap.size 3 i0 (.int .i64 0) 1 8 Try.underlying26 hi0 hz0 hz1 hz2 rfl (by decide) (.slice va n vc) n (nL L) rfl (own_below HO1.out (below_alloc _ _)) (some ⟨wx.heap.size, 0, none⟩) 1 1 [.int .i64 (k : Int)] rfl ⟨rfl, fun j u hu => ⟨_, rfl, World.news_of_block (heap_alloc_new wx _) j u hu⟩⟩ (by simp [Value.oneCell']) ?a1 ?a2 ?a3 ?_)
        case a1 => unfold maxLen; omega
        case a2 => omega
        case a3 => have := HF1.out.fr.size; simp; omega
        intro v2 w6 hown hgr hlt1
        obtain ⟨ea, ec, rfl⟩ := own_slice' hown
        have HF6 : Hid (BF ws w6 []) := (HF1.out.below (below_alloc wx (.cells #[.int .i64 (k : Int)] 3))).grow1 (own_below HO1.out (below_alloc _ _)) (List.forall_mem_nil _) (Nat.le_refl _) hgr
        have HO6 : Hid (w6.ownsRow ws.heap.size 3 1 (.slice ea (RL (k + 1)).length ec) (RL (k + 1)).length (nL (RL (k + 1)))) := by rw [HRK2.out, nL_snoc, List.length_append, HN.out]; exact hown
        have HEV : Hid (Value.slice ea (n + 1) ec = Value.slice ea (RL (k + 1)).length ec) := by unfold Hid; rw [HRK2.out, List.length_append, HN.out]; rfl
        clear hown hgr hlt1 HO1 HF1
        go_wp2_with fail
        go_roundw
        case rel => exact ⟨k + 1, ea, ec, by go_num, by omega, HEV.out, HF6.out, HO6.out⟩
        case measure => simp [intOf]; omega
      · have HRK2 : Hid (RL (k + 1) = L) := by have h := HRK.out; rw [if_neg (fun h => hle (htl.2 h))] at h; exact h
        clear htl
        go_wp2_with fail
        go_roundw
        case rel => exact ⟨k + 1, va, vc, by go_num, by omega, by rw [HRK2.out], HF1.out, by rw [HRK2.out]; exact HO1.out⟩
        case measure => simp [intOf]; omega
    · obtain rfl : k = m.nw := by omega
      have HG12 := Lib.hid (HG11.out.below HF1.out.fr)
      have HQ12 := Lib.hid (HQ11.out.below HF1.out.fr)
      have HRR := Lib.hid (nL_ints HO1.out)
      have hln := HRN.out m.nw
      clear HA11 HG11 HQ11
      go_wp2_with fail
      refine (ints_eq la va (RL m.nw).length lc vc _ _ _ (by omega) HG12.out HRR.out (fun _ _ => rfl)).mono ?_
      rintro _ wb ⟨rfl, hb⟩
      have HA13 := Lib.hid (HA12.out.below hb)
      have HQ13 := Lib.hid (HQ12.out.below hb)
      clear hb HA12 HG12 HQ12 HRR HF1 HO1 f0 f1
      go_upto_region 20 with fail
      have HAX : Hid (BF w wb.drew [(TB, t256 (touM m), 58), (w.heap.size, #[.slice x.wa m.nw x.wc, .slice x.ra m.nr x.rc], 25)]) := HA13.out.below (Below.refl _ _).drew
      have HQX := Lib.hid (HQ13.out.below (Below.refl _ _).drew)
      clear HA13 HQ13
      refine wp_region_Z (S := fun X => X.cell? ⟨w.heap.size, 0, none⟩ = some (.slice x.wa m.nw x.wc) ∧ X.cell? ⟨w.heap.size, 1, none⟩ = some (.slice x.ra m.nr x.rc) ∧ X.rangeAt TB 0 (t256L (touM m))) (by kernel_rfl) (⟨HAX.out.cell (.tail _ (.head _)) 0, HAX.out.cell (.tail _ (.head _)) 1, row_range (HAX.out.bk _ _ _ (.head _)).2⟩) (fun hS => ?_)
      generalize wb.drew = X at *
      refine wpAnyZ_take (i := 0) (oi := ⟨some 112, _, _, _, _, _⟩) (v := .agg (t256 (touM m))) rfl (by kernel_rfl) (by kernel_rfl) (by kernel_rfl) (fun _ _ _ h => h) (ld_tours (touM m) (by rfl) (.tmp 12) rfl TB rfl (fun _ h => h.2.2)) hS ?_
      try simp only [Act.put, putA, putZ, putS]
      refine tk [1, 3] ?_
      repeat (refine tkZ (oi := ⟨_, _, _, _, _, _⟩) (v := ?_) rfl (by kernel_rfl) (by rfl) (fun _ _ _ h => h) hS ?_ ?_; rotate_left; (· rintro W' ⟨z0, z1, z2⟩; go_simp; try with_reducible rfl); try simp only [Act.put, putA, putZ, putS])
      refine tk0 ?_
      refine wpAnyZ_next (rs := [2]) (by kernel_rfl) (by simp) ?_
      refine NextZ.cons (o := ⟨some 114, _, _, _, _, _⟩) rfl (fun K hK => ?_) NextZ.nil
      go_simp
      refine (HWH.out X).mono ?_
      rintro _ X0 ⟨rfl, hb0⟩
      (try go_wp2_with fail)
      have HA0 := Lib.hid (HAX.out.below hb0)
      have HQ0 := Lib.hid (HQX.out.below hb0)
      refine hK.out _ _ (⟨HA0.out.cell (.tail _ (.head _)) 0, HA0.out.cell (.tail _ (.head _)) 1, row_range (HA0.out.bk _ _ _ (.head _)).2⟩) (fun hS => ?_)
      clear hK K
      try simp only [Act.put, putA, putZ, putS]
      clear hb0
      refine wpAnyZ_next (rs := [4]) (by kernel_rfl) (by simp) ?_
      refine NextZ.cons (o := ⟨some 116, _, _, _, _, _⟩) rfl (fun K hK => ?_) NextZ.nil
      go_simp
      refine (HFW.out X0).mono ?_
      rintro _ X1 ⟨rfl, hb1⟩
      (try go_wp2_with fail)
      have HA1 := Lib.hid (HA0.out.below hb1)
      have HQ1 := Lib.hid (HQ0.out.below hb1)
      refine hK.out _ _ (⟨HA1.out.cell (.tail _ (.head _)) 0, HA1.out.cell (.tail _ (.head _)) 1, row_range (HA1.out.bk _ _ _ (.head _)).2⟩) (fun hS => ?_)
      clear hK K
      try simp only [Act.put, putA, putZ, putS]
      clear hb1
      refine tZ 5 (oi := ⟨_, _, _, _, _, _⟩) (v := ?_) rfl (by kernel_rfl) (by rfl) (fun _ _ _ h => h) hS ?_ ?_
      rotate_left
      · rintro W' ⟨z0, z1, z2⟩; go_simp; try with_reducible rfl
      try simp only [Act.put, putA, putZ, putS]
      refine wpAnyZ_done (by kernel_rfl) ?_ _
      have HA14 := Lib.hid (HA1.out)
      have HQ14 := Lib.hid (HQ1.out)
      have f0 := HA14.out.cell (.tail _ (.head _)) 0
      have f1 := HA14.out.cell (.tail _ (.head _)) 1
      have hql := HQL.out
      rw [hql] at HQ14 ⊢
      clear hql
      by_cases hd : D = []
      · have hdu := HV1.out hd
        have hpx : px = 9 := by rw [HPX.out, if_pos hd]
        subst hd hpx hdu
        clear HPX HV1 HV2
        go_wp2_with (go_at_call 19; refine (awake_any _).mono ?_; rintro _ wz ⟨rfl, hb⟩; have HZ := Lib.hid (HA14.out.below hb); clear hb)
        go_ret
        exact ⟨rfl, HZ.out.fr⟩
      have hdu := HV2.out hd
      have hpx : px = 0 := by rw [HPX.out, if_neg hd]
      obtain ⟨hbr1, hbr2, hbr3⟩ := HBR.out hd
      have HYD := Lib.hid (HYB.out hd)
      have HIP : Hid (isPlanB m (yD m D) D.length = true) := by
        unfold isPlanB Hid
        rw [allB_true hbr1, decide_eq_true hbr3]; rfl
      have HWE : Hid (∀ k, k < D.length → walkE m (yD m D k) = 0) := fun k hk => (isWalk_iff HOK.out _).1 (hbr1 k hk)
      have HRB : Hid ((misL (yD m D) D.length m.nw).length = 0 ∧ (twiL (yD m D) D.length m.nw).length = 0 ∧ (latL m (yD m D) lim D.length).length = 0) := by
        have h := hbr2
        unfold rightB at h
        rw [decide_eq_true_eq] at h
        exact ⟨by omega, by omega, by omega⟩
      have HQ15 : Hid (PlO w4.heap.size X1 30 (.slice pa D.length pc) D.length (uQ Q) (yD m D)) := HQ14.out
      obtain ⟨nD, hnD⟩ : ∃ nD, D.length = nD := ⟨_, rfl⟩
      rw [hnD] at hdu hbr3 HYD HIP HWE HRB HQ15 ⊢
      obtain ⟨Y, hY⟩ : ∃ Y, yD m D = Y := ⟨_, rfl⟩
      rw [hY] at HYD HIP HWE HRB HQ15
      subst hpx hdu
      clear HPX HV1 HV2 HBR HYB hbr1 hbr2 hnD hY HQ14 HQL hd
      have kn1 : nD ≤ 100000 := by omega
      have kfar : ¬ ((nD : Int) ≥ 1048576) := by omega
      go_wp2_with fail
      refine (backsC_any pa nD pc (uQ Q) Y _ HQ15.out.pl kn1 HYD.out).mono ?_
      rintro _ wc ⟨ba, bc, U', rfl, hpo, hb⟩
      have HA16 := Lib.hid (HA14.out.below hb)
      have HP16 := Lib.hid hpo.pl
      have g0 := HA16.out.cell (.tail _ (.head _)) 0
      have g1 := HA16.out.cell (.tail _ (.head _)) 1
      clear hb hpo HA14 HQ15 f0 f1
      go_wp2_with fail
      refine (rIsPlan_any x m ba nD bc U' Y _ (HMP.out.below HA16.out.fr) HP16.out kn1 HYD.out kw1 kr1).mono ?_
      rw [HIP.out]
      rintro _ wd ⟨rfl, hb⟩
      have HA17 := Lib.hid (HA16.out.below hb)
      have HP17 := Lib.hid (HP16.out.below hb)
      have f0 := HA17.out.cell (.tail _ (.head _)) 0
      have f1 := HA17.out.cell (.tail _ (.head _)) 1
      clear hb HA16 HP16 g0 g1
      go_wp2_with fail
      refine (rFaults_any HOK.out x ba nD bc U' Y lim _ (HMP.out.below HA17.out.fr) HP17.out HWE.out hbr3 HYD.out).mono ?_
      rw [HRB.out.1, HRB.out.2.1, HRB.out.2.2]
      rintro _ we ⟨a1, c1, a2, c2, a3, c3, rfl, _, hb⟩
      have HA18 := Lib.hid (HA17.out.below hb)
      clear hb HA17 HP17 f0 f1
      go_wp2_with (go_at_call 19; refine (awake_any _).mono ?_; rintro _ wz ⟨rfl, hb⟩; have HZ := Lib.hid (HA18.out.below hb); clear hb)
      go_ret
      exact ⟨rfl, HZ.out.fr⟩
end Go.Proofs.Ytpnkgjkoophckaa
