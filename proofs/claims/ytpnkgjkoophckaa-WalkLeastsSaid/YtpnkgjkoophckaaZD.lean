/- Walk: WalkLeasts' walk. Printed by gen_zd.py. -/
import Derived.Test.YtpnkgjkoophckaaZB
namespace Go.Proofs.Ytpnkgjkoophckaa
open Go.RowKit Go.Shelf Go.Maps

theorem touM_nn {m : Mp} (ok : OkM m) (p : Nat) : 0 ≤ touM m p := by
  unfold touM touD
  split
  · rename_i h
    have := lgM_bd ok h
    unfold tuM; omega
  · exact Int.le_refl 0
theorem ls_en {m : Mp} (ok : OkM m) {k : Nat} {L : Int} (h0 : 0 ≤ L) (h1 : L < 1048576) : lsF (touM m) k (2 ^ m.nw - 1) ≤ L ↔ enG m k L = true := by
  have w := whole_pos ok
  have hc : ∀ p, p &&& (2 ^ m.nw - 1) = p → (touM m p ≤ L ↔ lgM m p ≤ L) := fun p hp => by
    rw [touM_get m (Nat.lt_of_le_of_lt (sub_le hp) w.2.2)]
    unfold tuM; omega
  rw [ls_spec h0 h1 k _ w.2.1, enG_iff ok]
  constructor
  · rintro ⟨n, hn, hd⟩
    exact ⟨n, by omega, hd.mono (fun p hp h => decide_eq_true ((hc p hp).1 (of_decide_eq_true h))) w.2.1⟩
  · rintro ⟨n, hn, hd⟩
    exact ⟨n, by omega, hd.mono (fun p hp h => decide_eq_true ((hc p hp).2 (of_decide_eq_true h))) w.2.1⟩
theorem ls_law {m : Mp} (ok : OkM m) {k : Nat} (hk : 1 ≤ k) : (1048576 ≤ lowL m m.nw → 1048576 ≤ lsF (touM m) k (2 ^ m.nw - 1)) ∧ (lowL m m.nw < 1048576 → lsF (touM m) k (2 ^ m.nw - 1) = lstV m k ∧ lstV m k < 1048576) := by
  have hb := lsF_bd (touM_nn ok) k (2 ^ m.nw - 1)
  constructor
  · intro h
    by_cases hl : lsF (touM m) k (2 ^ m.nw - 1) < 1048576
    · have := enG_low ok ((ls_en ok hb.1 hl).1 (Int.le_refl _))
      omega
    · omega
  · intro h
    obtain ⟨a1, a2, _, a4, a5⟩ := lst_spec ok (k := (k : Int)) (by omega) h
    have h1 := (ls_en ok (k := k) a4 (by omega)).2 a1
    have h2 := a2 _ ((ls_en ok hb.1 (by omega)).1 (Int.le_refl _))
    exact ⟨by omega, by omega⟩
set_option maxRecDepth 100000 in
set_option maxHeartbeats 32000000 in
theorem walkLeasts_walk (x : MV) (m : Mp) (k : Int) (w : World) (h : MpLaw w x m) :
    Calls Try.prog 4 #[.agg #[.slice x.wa m.nw x.wc, .slice x.ra m.nr x.rc], .int .i64 k] w fun e w' => e = .returned (.bool true) ∧ Below w.heap.size w w' := by
  have hbw := h.bw; have hbr := h.br
  unfold maxLen at hbw hbr
  have HTH := Lib.hid (fun W => thin_any x m.nw m.nr W)
  have HMP := Lib.hid h.l
  obtain ⟨tb, htb⟩ : ∃ tb, tb = (decide (m.nw ≤ 11) && decide (m.nr ≤ 24)) := ⟨_, rfl⟩
  have HTB : Hid (tb = true → m.nw ≤ 11 ∧ m.nr ≤ 24) := fun e => by rw [htb] at e; simp only [Bool.and_eq_true, decide_eq_true_eq] at e; exact e
  rw [← htb] at HTH
  clear htb h
  have HA0 : Hid (BF w (w.alloc (.cells #[.slice x.wa m.nw x.wc, .slice x.ra m.nr x.rc] 25)) [(w.heap.size, #[.slice x.wa m.nw x.wc, .slice x.ra m.nr x.rc], 25)]) := (BF.base w).alloc _ _
  go_enter Try.func4, Try.ntmps4
  go_upto_region 1 with fail
  generalize w.alloc (.cells #[.slice x.wa m.nw x.wc, .slice x.ra m.nr x.rc] 25) = w0 at *
  have c0 := HA0.out.cell (.head _) 0
  have c1 := HA0.out.cell (.head _) 1
  cases tb
  · go_wp2_with (first | (go_at_call 18; refine (HTH.out _).mono ?_; rintro _ w1 ⟨rfl, hb⟩; have HA1 := Lib.hid (HA0.out.below hb); clear hb) | (go_at_call 19; refine (awake_any _).mono ?_; rintro _ w9 ⟨rfl, hb⟩; have HZ := Lib.hid (HA1.out.below hb); clear hb))
    go_ret
    exact ⟨rfl, HZ.out.fr⟩
  obtain ⟨hw11, hr24⟩ := HTB.out rfl
  have kw1 : m.nw ≤ 100000 := by omega
  have kr1 : m.nr ≤ 100000 := by omega
  have HMC := Lib.hid (fun W (hW : Below w.heap.size w W) => mapC_any x m W (HMP.out.below hW) kw1 kr1)
  have HLE := Lib.hid (fun (y : MV) W (hW : MpIn W y m) => Least_any y m k W hW kw1 kr1)
  have HFA := Lib.hid (fun W (hW : Below w.heap.size w W) => lfault_any x m W (HMP.out.below hW) kw1 kr1)
  have HIN := Lib.hid (fun W => rIn_any k 1 8 W)
  have HTE : Hid (lstE m k = if m.fault ≠ 0 then m.fault else if inB k 1 8 = true then (if 1048576 ≤ lowL m m.nw then 7 else 0) else 2) := rfl
  have HTV : Hid (∀ te, te = lstE m k → te ≠ 0 → (if te = 0 then lstV m k else 0) = 0) := fun te _ h => if_neg h
  have HOK := Lib.hid (okM_of (m := m))
  have HIB : Hid (inB k 1 8 = true → ∃ q : Nat, k = q ∧ 1 ≤ q ∧ q ≤ 8) := fun h => by simp only [inB, Bool.and_eq_true, decide_eq_true_eq] at h; exact ⟨k.toNat, by omega, by omega, by omega⟩
  generalize inB k 1 8 = ib at *
  obtain ⟨ft, hft⟩ : ∃ ft, ft = m.fault := ⟨_, rfl⟩
  rw [← hft] at HFA HTE HOK
  clear hft
  obtain ⟨tv, htv⟩ : ∃ tv, tv = (if lstE m k = 0 then lstV m k else 0) := ⟨_, rfl⟩
  have HVV := Lib.hid htv
  rw [← htv] at HLE
  clear htv
  obtain ⟨te, hte⟩ : ∃ te, te = lstE m k := ⟨_, rfl⟩
  rw [← hte] at HLE HTE HVV
  clear hte HTV
  go_wp2_with (first | (go_at_call 18; refine (HTH.out _).mono ?_; rintro _ w1 ⟨rfl, hb⟩; have HA1 := Lib.hid (HA0.out.below hb); have d0 := HA1.out.cell (.head _) 0; have d1 := HA1.out.cell (.head _) 1; clear hb))
  refine (HMC.out _ HA1.out.fr).mono ?_
  rintro _ w2 ⟨y, rfl, hm, hb⟩
  have HA2 := Lib.hid (HA1.out.below hb)
  have HM2 := Lib.hid hm
  clear hm hb c0 c1 d0 d1 HA0 HA1 HTH
  go_wp2_with fail
  refine (HLE.out y _ HM2.out).mono ?_
  rintro _ w3 ⟨hb, rfl⟩
  have HA3 := Lib.hid (HA2.out.below hb)
  clear hb HM2 HMC HLE HA2
  have c0 := HA3.out.cell (.head _) 0
  have c1 := HA3.out.cell (.head _) 1
  by_cases k1 : ft = 0
  case neg =>
    have kb2 : (ft == 0) = false := by simp [k1]
    have he : te = ft := by rw [HTE.out, if_pos k1]
    subst he
    have hv : tv = 0 := by rw [HVV.out, if_neg k1]
    subst hv
    clear HTE HVV HOK HIB
    go_wp2_with (first | (go_at_call 23; refine (HFA.out _ HA3.out.fr).mono ?_; rintro _ w4 ⟨rfl, hb⟩; have HA4 := Lib.hid (HA3.out.below hb); clear hb) | (go_at_call 19; refine (awake_any _).mono ?_; rintro _ w9 ⟨rfl, hb⟩; have HZ := Lib.hid (HA4.out.below hb); clear hb))
    go_ret
    exact ⟨rfl, HZ.out.fr⟩
  subst k1
  have hok := HOK.out rfl
  cases ib
  · have he : te = 2 := HTE.out
    subst he
    have hv : tv = 0 := HVV.out
    subst hv
    clear HTE HVV HOK HIB
    go_wp2_with (first | (go_at_call 23; refine (HFA.out _ HA3.out.fr).mono ?_; rintro _ w4 ⟨rfl, hb⟩; have HA4 := Lib.hid (HA3.out.below hb); clear hb) | (go_at_call 24; refine (HIN.out _).mono ?_; rintro _ _ ⟨rfl, rfl⟩) | (go_at_call 19; refine (awake_any _).mono ?_; rintro _ w9 ⟨rfl, hb⟩; have HZ := Lib.hid (HA4.out.below hb); clear hb))
    go_ret
    exact ⟨rfl, HZ.out.fr⟩
  obtain ⟨q, rfl, hq1, hq8⟩ := HIB.out rfl
  have HTE3 : Hid (te = if 1048576 ≤ lowL m m.nw then 7 else 0) := HTE.out
  have w8 := whole_pos hok
  obtain ⟨l1, l2⟩ := ls_law hok hq1
  have hn8 := hok.nw
  have HTO := Lib.hid (fun W (hW : Below w.heap.size w W) => rToured_any hok x W (HMP.out.below hW))
  have HWH := Lib.hid (fun W => rWhole_any x m W (by omega))
  have HLS := Lib.hid (fun W => least_any (touM m) q (2 ^ m.nw - 1) w8.2.1 (by omega) W)
  obtain ⟨lr, hlr⟩ : ∃ lr, lsF (touM m) q (2 ^ m.nw - 1) = lr := ⟨_, rfl⟩
  rw [hlr] at HLS l1 l2
  clear hlr w8
  generalize 2 ^ m.nw - 1 = P at *
  have HL1 := Lib.hid l1
  have HL2 := Lib.hid l2
  clear l1 l2 HTE HOK HIB
  go_upto_region 8 with (first | (go_at_call 23; refine (HFA.out _ HA3.out.fr).mono ?_; rintro _ w4 ⟨rfl, hb⟩; have HA4 := Lib.hid (HA3.out.below hb); clear hb) | (go_at_call 24; refine (HIN.out _).mono ?_; rintro _ _ ⟨rfl, rfl⟩))
  have HAX : Hid (BF w w4.drew [(w.heap.size, #[.slice x.wa m.nw x.wc, .slice x.ra m.nr x.rc], 25)]) := HA4.out.below (Below.refl _ _).drew
  clear c0 c1 HA3 HA4
  refine wp_region_Z (S := fun X => X.cell? ⟨w.heap.size, 0, none⟩ = some (.slice x.wa m.nw x.wc) ∧ X.cell? ⟨w.heap.size, 1, none⟩ = some (.slice x.ra m.nr x.rc)) (by kernel_rfl) (⟨HAX.out.cell (.head _) 0, HAX.out.cell (.head _) 1⟩) (fun hS => ?_)
  generalize w4.drew = X at *
  refine tk [0, 2, 4] ?_
  repeat (refine tkZ (oi := ⟨_, _, _, _, _, _⟩) (v := ?_) rfl (by kernel_rfl) (by rfl) (fun _ _ _ h => h) hS ?_ ?_; rotate_left; (· rintro W' ⟨z0, z1⟩; go_simp; try with_reducible rfl); try simp only [Act.put, putA, putZ, putS])
  refine tk0 ?_
  refine wpAnyZ_next (rs := [1]) (by kernel_rfl) (by simp) ?_
  refine NextZ.cons (o := ⟨some 32, _, _, _, _, _⟩) rfl (fun K hK => ?_) NextZ.nil
  go_simp
  refine (HTO.out X HAX.out.fr).mono ?_
  rintro _ X0 ⟨rfl, hb0⟩
  (try go_wp2_with fail)
  have HA0 := Lib.hid (HAX.out.below hb0)
  refine hK.out _ _ (⟨HA0.out.cell (.head _) 0, HA0.out.cell (.head _) 1⟩) (fun hS => ?_)
  clear hK K
  try simp only [Act.put, putA, putZ, putS]
  clear hb0
  refine wpAnyZ_next (rs := [3]) (by kernel_rfl) (by simp) ?_
  refine NextZ.cons (o := ⟨some 34, _, _, _, _, _⟩) rfl (fun K hK => ?_) NextZ.nil
  go_simp
  refine (HWH.out X0).mono ?_
  rintro _ X1 ⟨rfl, hb1⟩
  (try go_wp2_with fail)
  have HA1 := Lib.hid (HA0.out.below hb1)
  refine hK.out _ _ (⟨HA1.out.cell (.head _) 0, HA1.out.cell (.head _) 1⟩) (fun hS => ?_)
  clear hK K
  try simp only [Act.put, putA, putZ, putS]
  clear hb1
  refine wpAnyZ_next (rs := [5]) (by kernel_rfl) (by simp) ?_
  refine NextZ.cons (o := ⟨some 36, _, _, _, _, _⟩) rfl (fun K hK => ?_) NextZ.nil
  go_simp
  refine (HLS.out X1).mono ?_
  rintro _ X2 ⟨rfl, hb2⟩
  (try go_wp2_with fail)
  have HA2 := Lib.hid (HA1.out.below hb2)
  refine hK.out _ _ (⟨HA2.out.cell (.head _) 0, HA2.out.cell (.head _) 1⟩) (fun hS => ?_)
  clear hK K
  try simp only [Act.put, putA, putZ, putS]
  clear hb2
  refine tZ 6 (oi := ⟨_, _, _, _, _, _⟩) (v := ?_) rfl (by kernel_rfl) (by rfl) (fun _ _ _ h => h) hS ?_ ?_
  rotate_left
  · rintro W' ⟨z0, z1⟩; go_simp; try with_reducible rfl
  try simp only [Act.put, putA, putZ, putS]
  refine wpAnyZ_done (by kernel_rfl) ?_ _
  by_cases hfar : 1048576 ≤ lowL m m.nw
  · have hl := HL1.out hfar
    have kf : (lr ≥ 1048576) := hl
    have he : te = 7 := by rw [HTE3.out, if_pos hfar]
    subst he
    have hv : tv = 0 := HVV.out
    subst hv
    clear HTE3 HVV HL1 HL2
    go_wp2_with (go_at_call 19; refine (awake_any _).mono ?_; rintro _ w9 ⟨rfl, hb⟩; have HZ := Lib.hid (HA2.out.below hb); clear hb)
    go_ret
    exact ⟨rfl, HZ.out.fr⟩
  · obtain ⟨h1, h2⟩ := HL2.out (by omega)
    have kf : ¬ (lr ≥ 1048576) := by omega
    have he : te = 0 := by rw [HTE3.out, if_neg hfar]
    subst he
    have hv : tv = lr := by rw [h1]; exact HVV.out
    subst hv
    clear HTE3 HVV HL1 HL2 h1 h2
    go_wp2_with (go_at_call 19; refine (awake_any _).mono ?_; rintro _ w9 ⟨rfl, hb⟩; have HZ := Lib.hid (HA2.out.below hb); clear hb)
    go_ret
    exact ⟨rfl, HZ.out.fr⟩
end Go.Proofs.Ytpnkgjkoophckaa
