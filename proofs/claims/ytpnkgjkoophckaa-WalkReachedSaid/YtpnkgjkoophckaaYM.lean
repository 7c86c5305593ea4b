/- Walk: Way. -/
import Derived.Test.YtpnkgjkoophckaaWX
namespace Go.Proofs.Ytpnkgjkoophckaa
open Go.RowKit Go.Shelf Go.Maps

/-- The error of Way. -/
def wayE (m : Mp) (a b : Int) : Int := if m.fault ≠ 0 then m.fault else if (inB a 0 ((m.nw : Int) - 1) && inB b 0 ((m.nw : Int) - 1)) = true then (if 1048576 ≤ tmA m a.toNat b.toNat then 7 else 0) else 2
def GivesY (w : World) (m : Mp) (a b : Int) (e : Ending) (w' : World) : Prop :=
  Below w.heap.size w w' ∧
    ((wayE m a b ≠ 0 ∧ e = .returned (.tuple #[.slice none 0 0, .int .i64 0, .int .i64 (wayE m a b)])) ∨
     (wayE m a b = 0 ∧ ∃ g c, e = .returned (.tuple #[.slice (some ⟨g, 0, none⟩) (wayL m a.toNat b.toNat).length c, .int .i64 (tmA m a.toNat b.toNat), .int .i64 0]) ∧ w'.ownsRow w.heap.size 3 1 (.slice (some ⟨g, 0, none⟩) (wayL m a.toNat b.toNat).length c) (wayL m a.toNat b.toNat).length (nL (wayL m a.toNat b.toNat))))
set_option maxRecDepth 100000 in
set_option maxHeartbeats 16000000 in
theorem Way_any (x : MV) (m : Mp) (a b : Int) (w : World) (h : MpIn w x m) (hnw : m.nw ≤ 100000) (hnr : m.nr ≤ 100000) :
    Calls Try.prog 37 #[.agg #[.slice x.wa m.nw x.wc, .slice x.ra m.nr x.rc], .int .i64 a, .int .i64 b] w (GivesY w m a b) := by
  have HMP := Lib.hid h
  have HCK := Lib.hid (fun W (hW : Below w.heap.size w W) => check_any x m W (h.below hW) hnw hnr)
  have HPL := Lib.hid (fun n W => place_any x.wa x.ra x.wc x.rc m.nw m.nr n W (by omega))
  have HTE : Hid (wayE m a b = if m.fault ≠ 0 then m.fault else if (inB a 0 ((m.nw : Int) - 1) && inB b 0 ((m.nw : Int) - 1)) = true then (if 1048576 ≤ tmA m a.toNat b.toNat then 7 else 0) else 2) := rfl
  have HOKM := Lib.hid (okM_of (m := m))
  have HAB : Hid (inB a 0 ((m.nw : Int) - 1) = true → ∃ k : Nat, a = k ∧ k < m.nw) := fun h => by simp only [inB, Bool.and_eq_true, decide_eq_true_eq] at h; exact ⟨a.toNat, by omega, by omega⟩
  have HBB : Hid (inB b 0 ((m.nw : Int) - 1) = true → ∃ k : Nat, b = k ∧ k < m.nw) := fun h => by simp only [inB, Bool.and_eq_true, decide_eq_true_eq] at h; exact ⟨b.toNat, by omega, by omega⟩
  unfold GivesY
  clear h
  obtain ⟨L, hL⟩ : ∃ L, L = wayL m a.toNat b.toNat := ⟨_, rfl⟩
  obtain ⟨tm, htm⟩ : ∃ tm, tm = tmA m a.toNat b.toNat := ⟨_, rfl⟩
  rw [← htm] at HTE
  rw [← hL, ← htm]
  have HL := Lib.hid hL; have HTM0 := Lib.hid htm
  clear hL htm
  generalize wayE m a b = te at *
  generalize m.fault = ft at *
  have HP1 := Lib.hid (HPL.out a)
  have HP2 := Lib.hid (HPL.out b)
  generalize inB a 0 ((m.nw : Int) - 1) = p1 at *
  generalize inB b 0 ((m.nw : Int) - 1) = p2 at *
  have HA0 : Hid (BF w (w.alloc (.cells #[.slice x.wa m.nw x.wc, .slice x.ra m.nr x.rc] 37)) [(w.heap.size, #[.slice x.wa m.nw x.wc, .slice x.ra m.nr x.rc], 37)]) := (BF.base w).alloc _ _
  go_enter Try.func37, Try.ntmps37
  go_upto_region 1 with fail
  generalize w.alloc (.cells #[.slice x.wa m.nw x.wc, .slice x.ra m.nr x.rc] 37) = w0 at *
  have c0 := HA0.out.cell (.head _) 0
  have c1 := HA0.out.cell (.head _) 1
  have T1 : True := trivial
  by_cases k1 : ft = 0
  case neg =>
    have kb : (ft != 0) = true := by simp [k1]
    have hte := HTE.out
    rw [if_pos k1] at hte
    go_wp2_with (go_at_call 51; refine (HCK.out _ HA0.out.fr).mono ?_; rintro _ w1 ⟨rfl, hb⟩; have HA1 := Lib.hid (HA0.out.below hb); clear hb)
    exact bodyPost_ret (v := .tuple #[.slice none 0 0, .int .i64 0, .int .i64 ft]) (by simp [results, Try.results37, go_sem]) rfl ⟨HA1.out.fr, .inl ⟨by rw [hte]; exact k1, by rw [hte]⟩⟩
  subst k1
  have hok := HOKM.out rfl
  have HTE2 : Hid (te = if (p1 && p2) = true then (if 1048576 ≤ tm then 7 else 0) else 2) := HTE.out
  clear HTE HOKM HPL
  cases p1
  · have HTE3 : Hid (te = 2) := HTE2.out
    clear HTE2
    go_wp2_with (first | (go_at_call 51; refine (HCK.out _ HA0.out.fr).mono ?_; rintro _ w1 ⟨rfl, hb⟩; have HA1 := Lib.hid (HA0.out.below hb); have d0 := HA1.out.cell (.head _) 0; have d1 := HA1.out.cell (.head _) 1; clear hb) | (go_at_call 66; have qq := T1; clear qq T1; refine (HP1.out _).mono ?_; rintro _ w2 ⟨rfl, hb⟩; have HA2 := Lib.hid (HA1.out.below hb); have e0 := HA2.out.cell (.head _) 0; have e1 := HA2.out.cell (.head _) 1; clear hb; have T2 : True := trivial))
    exact bodyPost_ret (v := .tuple #[.slice none 0 0, .int .i64 0, .int .i64 2]) (by simp [results, Try.results37, go_sem]) rfl ⟨HA2.out.fr, .inl ⟨by rw [HTE3.out]; decide, by rw [HTE3.out]⟩⟩
  cases p2
  · have HTE3 : Hid (te = 2) := HTE2.out
    clear HTE2
    go_wp2_with (first | (go_at_call 51; refine (HCK.out _ HA0.out.fr).mono ?_; rintro _ w1 ⟨rfl, hb⟩; have HA1 := Lib.hid (HA0.out.below hb); have d0 := HA1.out.cell (.head _) 0; have d1 := HA1.out.cell (.head _) 1; clear hb) | (go_at_call 66; have qq := T1; clear qq T1; refine (HP1.out _).mono ?_; rintro _ w2 ⟨rfl, hb⟩; have HA2 := Lib.hid (HA1.out.below hb); have e0 := HA2.out.cell (.head _) 0; have e1 := HA2.out.cell (.head _) 1; clear hb; have T2 : True := trivial) | (go_at_call 66; have qq := T2; clear qq T2; refine (HP2.out _).mono ?_; rintro _ w3 ⟨rfl, hb⟩; have HA3 := Lib.hid (HA2.out.below hb); clear hb; have T3 : True := trivial))
    exact bodyPost_ret (v := .tuple #[.slice none 0 0, .int .i64 0, .int .i64 2]) (by simp [results, Try.results37, go_sem]) rfl ⟨HA3.out.fr, .inl ⟨by rw [HTE3.out]; decide, by rw [HTE3.out]⟩⟩
  have HTE3 : Hid (te = if 1048576 ≤ tm then 7 else 0) := HTE2.out
  obtain ⟨ka, rfl, hka⟩ := HAB.out rfl
  obtain ⟨kb, rfl, hkb⟩ := HBB.out rfl
  rw [Int.toNat_natCast, Int.toNat_natCast] at HL HTM0
  clear HTE2 HAB HBB
  have HAT := Lib.hid (fun W (hW : Below w.heap.size w W) => atlas_any x m W (HMP.out.below hW) hok)
  unfold GivesA at HAT
  have HOK := Lib.hid hok
  have hnw8 := hok.nw
  have qa : (0 : Int) ≤ (ka : Int) := by omega
  have qb : (0 : Int) ≤ (kb : Int) := by omega
  have qa8 : (ka : Int) < 8 := by omega
  have qb8 : (kb : Int) < 8 := by omega
  have HTM := Lib.hid (fun W A bm n (hA : At W A bm n x m) => hA.tm hka hkb hnw8.2)
  have HLT := Lib.hid (fun W A bm n (hA : At W A bm n x m) => hA.ab.lt)
  have HBE : Hid (0 ≤ tmA m ka kb) := (tmA_bd hok hka hkb).1
  have HWY := Lib.hid (fun A bm n (hf : tmA m ka kb < 1048576) W (hW : At W A bm n x m) => way_any hok x A bm ka kb n hka hkb hf W hW)
  rw [← HTM0.out] at HTM HBE HWY
  rw [← HL.out] at HWY
  clear HTM0 HL
  by_cases hfar : 1048576 ≤ tm
  · have HTE4 : Hid (te = 7) := by rw [if_pos hfar] at HTE3; exact HTE3.out
    have kf : (tm ≥ 1048576) := hfar
    go_wp2_with (first | (go_at_call 51; refine (HCK.out _ HA0.out.fr).mono ?_; rintro _ w1 ⟨rfl, hb⟩; have HA1 := Lib.hid (HA0.out.below hb); have d0 := HA1.out.cell (.head _) 0; have d1 := HA1.out.cell (.head _) 1; clear hb) | (go_at_call 66; have qq := T1; clear qq T1; refine (HP1.out _).mono ?_; rintro _ w2 ⟨rfl, hb⟩; have HA2 := Lib.hid (HA1.out.below hb); have e0 := HA2.out.cell (.head _) 0; have e1 := HA2.out.cell (.head _) 1; clear hb; have T2 : True := trivial) | (go_at_call 66; have qq := T2; clear qq T2; refine (HP2.out _).mono ?_; rintro _ w3 ⟨rfl, hb⟩; have HA3 := Lib.hid (HA2.out.below hb); have f0 := HA3.out.cell (.head _) 0; have f1 := HA3.out.cell (.head _) 1; clear hb; have T3 : True := trivial) | (go_at_call 69; refine (HAT.out _ HA3.out.fr).mono ?_; rintro _ w4 ⟨rfl, hat, hmp, hb⟩; have HA4 := Lib.hid (HA3.out.below hb); have HS4 := Lib.hid (At.made hat hmp ((HMP.out.below HA3.out.fr).below hb)); have g0 := HTM.out _ _ _ _ HS4.out; clear hat hmp hb))
    exact bodyPost_ret (v := .tuple #[.slice none 0 0, .int .i64 0, .int .i64 7]) (by simp [results, Try.results37, go_sem]) rfl ⟨HA4.out.fr, .inl ⟨by rw [HTE4.out]; decide, by rw [HTE4.out]⟩⟩
  · have HTE4 : Hid (te = 0) := by rw [if_neg hfar] at HTE3; exact HTE3.out
    have kf : ¬ (tm ≥ 1048576) := hfar
    have HW2 := Lib.hid (fun A bm n => HWY.out A bm n (by omega))
    clear HWY
    go_upto_region 9 with (first | (go_at_call 51; refine (HCK.out _ HA0.out.fr).mono ?_; rintro _ w1 ⟨rfl, hb⟩; have HA1 := Lib.hid (HA0.out.below hb); have d0 := HA1.out.cell (.head _) 0; have d1 := HA1.out.cell (.head _) 1; clear hb) | (go_at_call 66; have qq := T1; clear qq T1; refine (HP1.out _).mono ?_; rintro _ w2 ⟨rfl, hb⟩; have HA2 := Lib.hid (HA1.out.below hb); have e0 := HA2.out.cell (.head _) 0; have e1 := HA2.out.cell (.head _) 1; clear hb; have T2 : True := trivial) | (go_at_call 66; have qq := T2; clear qq T2; refine (HP2.out _).mono ?_; rintro _ w3 ⟨rfl, hb⟩; have HA3 := Lib.hid (HA2.out.below hb); have f0 := HA3.out.cell (.head _) 0; have f1 := HA3.out.cell (.head _) 1; clear hb; have T3 : True := trivial) | (go_at_call 69; refine (HAT.out _ HA3.out.fr).mono ?_; rintro _ w4 ⟨rfl, hat, hmp, hb⟩; have HA4 := Lib.hid (HA3.out.below hb); have HS4 := Lib.hid (At.made hat hmp ((HMP.out.below HA3.out.fr).below hb)); have g0 := HTM.out _ _ _ _ HS4.out; clear hat hmp hb))
    have hlA := HLT.out _ _ _ _ HS4.out
    have HS5 := Lib.hid (HS4.out.below (Below.refl w4.heap.size w4).drew)
    have HB4 := Lib.hid (HA4.out.fr.drew)
    clear HA4 HS4
    obtain ⟨A, hA⟩ : ∃ A, w3.heap.size + 2 = A := ⟨_, rfl⟩
    rw [hA] at g0 hlA HS5 ⊢
    have HAE := Lib.hid hA
    clear hA
    go_region_held3 (fun X => X.cell? ⟨A, 2 + ka * 8 + kb, none⟩ = some (.int .i64 tm)) (first | assumption | go_keep) (first | (go_at_call 79; refine (HW2.out _ _ _ _ HS5.out).mono ?_; rintro _ w5 ⟨g, c, rfl, how, hb5⟩; have HB5 := Lib.hid (below_step HB4.out hb5); have HO5 := Lib.hid (own_mono how HB4.out.size); have g5 := kept (Below.trans (Below.refl w4.heap.size w4).drew hb5) hlA g0; clear how hb5))
    clear g0 g5 HW2
    go_wp2_with fail
    exact bodyPost_ret (v := .tuple #[.slice (some ⟨g, 0, none⟩) L.length c, .int .i64 tm, .int .i64 0]) (by simp [results, Try.results37, go_sem]) rfl ⟨HB5.out, .inr ⟨HTE4.out, g, c, rfl, HO5.out⟩⟩
end Go.Proofs.Ytpnkgjkoophckaa
