/- Walk: Way. | Walk: what Least, Fewest and Tour say of a valid map, in short. The law's some, list. | Walk: the law's some. | Walk: Plan. -/
import Derived.Test.YtpnkgjkoophckaaWX
import Derived.Test.YtpnkgjkoophckaaPB
import Derived.Test.YtpnkgjkoophckaaPA
namespace Go.Proofs.Ytpnkgjkoophckaa
open Go.RowKit Go.Shelf Go.Maps

/-- The error of Way. -/
def wayE (m : Mp) (a b : Int) : Int := if m.fault ≠ 0 then m.fault else if (inB a 0 ((m.nw : Int) - 1) && inB b 0 ((m.nw : Int) - 1)) = true then (if 1048576 ≤ tmA m a.toNat b.toNat then 7 else 0) else 2
def GivesY (w : World) (m : Mp) (a b : Int) (e : Ending) (w' : World) : Prop :=
  Below w.heap.size w w' ∧
    ((wayE m a b ≠ 0 ∧ e = .returned (.tuple #[.slice none 0 0, .int .i64 0, .int .i64 (wayE m a b)])) ∨
     (wayE m a b = 0 ∧ ∃ g c, e = .returned (.tuple #[.slice (some ⟨g, 0, none⟩) (wayL m a.toNat b.toNat).length c, .int .i64 (tmA m a.toNat b.toNat), .int .i64 0]) ∧ w'.ownsRow w.heap.size 3 1 (.slice (some ⟨g, 0, none⟩) (wayL m a.toNat b.toNat).length c) (wayL m a.toNat b.toNat).length (nL (wayL m a.toNat b.toNat))))
set_option maxRecDepth 100000 in
set_option maxHeartbeats 16000000 in
theorem Way_any (x : MV) (m : Mp) (a b : Int) (w : World) (h : MpIn w x m) (hnw : m.nw ≤ 100000) (hnr : m.nr ≤ 100000) :
    Calls Try.prog 37 #[.agg #[.slice x.wa m.nw x.wc, .slice x.ra m.nr x.rc], .int .i64 a, .int .i64 b] w (GivesY w m a b) := by
  have HMP := Lib.hid h
  have HCK := Lib.hid (fun W (hW : Below w.heap.size w W) => check_any x m W (h.below hW) hnw hnr)
  have HPL := Lib.hid (fun n W => place_any x.wa x.ra x.wc x.rc m.nw m.nr n W (by omega))
  have HTE : Hid (wayE m a b = if m.fault ≠ 0 then m.fault else if (inB a 0 ((m.nw : Int) - 1) && inB b 0 ((m.nw : Int) - 1)) = true then (if 1048576 ≤ tmA m a.toNat b.toNat then 7 else 0) else 2) := rfl
  have HOKM := Lib.hid (okM_of (m := m))
  have HAB : Hid (inB a 0 ((m.nw : Int) - 1) = true → ∃ k : Nat, a = k ∧ k < m.nw) := fun h => by simp only [inB, Bool.and_eq_true, decide_eq_true_eq] at h; exact ⟨a.toNat, by omega, by omega⟩
  have HBB : Hid (inB b 0 ((m.nw : Int) - 1) = true → ∃ k : Nat, b = k ∧ k < m.nw) := fun h => by simp only [inB, Bool.and_eq_true, decide_eq_true_eq] at h; exact ⟨b.toNat, by omega, by omega⟩
  unfold GivesY
  clear h
  obtain ⟨L, hL⟩ : ∃ L, L = wayL m a.toNat b.toNat := ⟨_, rfl⟩
  obtain ⟨tm, htm⟩ : ∃ tm, tm = tmA m a.toNat b.toNat := ⟨_, rfl⟩
  rw [← htm] at HTE
  rw [← hL, ← htm]
  have HL := Lib.hid hL; have HTM0 := Lib.hid htm
  clear hL htm
  generalize wayE m a b = te at *
  generalize m.fault = ft at *
  have HP1 := Lib.hid (HPL.out a)
  have HP2 := Lib.hid (HPL.out b)
  generalize inB a 0 ((m.nw : Int) - 1) = p1 at *
  generalize inB b 0 ((m.nw : Int) - 1) = p2 at *
  have HA0 : Hid (BF w (w.alloc (.cells #[.slice x.wa m.nw x.wc, .slice x.ra m.nr x.rc] 37)) [(w.heap.size, #[.slice x.wa m.nw x.wc, .slice x.ra m.nr x.rc], 37)]) := (BF.base w).alloc _ _
  go_enter Try.func37, Try.ntmps37
  go_upto_region 1 with fail
  generalize w.alloc (.cells #[.slice x.wa m.nw x.wc, .slice x.ra m.nr x.rc] 37) = w0 at *
  have c0 := HA0.out.cell (.head _) 0
  have c1 := HA0.out.cell (.head _) 1
  have T1 : True := trivial
  by_cases k1 : ft = 0
  case neg =>
    have kb : (ft != 0) = true := by simp [k1]
    have hte := HTE.out
    rw [if_pos k1] at hte
    go_wp2_with (go_at_call 51; refine (HCK.out _ HA0.out.fr).mono ?_; rintro _ w1 ⟨rfl, hb⟩; have HA1 := Lib.hid (HA0.out.below hb); clear hb)
    exact bodyPost_ret (v := .tuple #[.slice none 0 0, .int .i64 0, .int .i64 ft]) (by simp [results, Try.results37, go_sem]) rfl ⟨HA1.out.fr, .inl ⟨by rw [hte]; exact k1, by rw [hte]⟩⟩
  subst k1
  have hok := HOKM.out rfl
  have HTE2 : Hid (te = if (p1 && p2) = true then (if 1048576 ≤ tm then 7 else 0) else 2) := HTE.out
  clear HTE HOKM HPL
  cases p1
  · have HTE3 : Hid (te = 2) := HTE2.out
    clear HTE2
    go_wp2_with (first | (go_at_call 51; refine (HCK.out _ HA0.out.fr).mono ?_; rintro _ w1 ⟨rfl, hb⟩; have HA1 := Lib.hid (HA0.out.below hb); have d0 := HA1.out.cell (.head _) 0; have d1 := HA1.out.cell (.head _) 1; clear hb) | (go_at_call 66; have qq := T1; clear qq T1; refine (HP1.out _).mono ?_; rintro _ w2 ⟨rfl, hb⟩; have HA2 := Lib.hid (HA1.out.below hb); have e0 := HA2.out.cell (.head _) 0; have e1 := HA2.out.cell (.head _) 1; clear hb; have T2 : True := trivial))
    exact bodyPost_ret (v := .tuple #[.slice none 0 0, .int .i64 0, .int .i64 2]) (by simp [results, Try.results37, go_sem]) rfl ⟨HA2.out.fr, .inl ⟨by rw [HTE3.out]; decide, by rw [HTE3.out]⟩⟩
  cases p2
  · have HTE3 : Hid (te = 2) := HTE2.out
    clear HTE2
    go_wp2_with (first | (go_at_call 51; refine (HCK.out _ HA0.out.fr).mono ?_; rintro _ w1 ⟨rfl, hb⟩; have HA1 := Lib.hid (HA0.out.below hb); have d0 := HA1.out.cell (.head _) 0; have d1 := HA1.out.cell (.head _) 1; clear hb) | (go_at_call 66; have qq := T1; clear qq T1; refine (HP1.out _).mono ?_; rintro _ w2 ⟨rfl, hb⟩; have HA2 := Lib.hid (HA1.out.below hb); have e0 := HA2.out.cell (.head _) 0; have e1 := HA2.out.cell (.head _) 1; clear hb; have T2 : True := trivial) | (go_at_call 66; have qq := T2; clear qq T2; refine (HP2.out _).mono ?_; rintro _ w3 ⟨rfl, hb⟩; have HA3 := Lib.hid (HA2.out.below hb); clear hb; have T3 : True := trivial))
    exact bodyPost_ret (v := .tuple #[.slice none 0 0, .int .i64 0, .int .i64 2]) (by simp [results, Try.results37, go_sem]) rfl ⟨HA3.out.fr, .inl ⟨by rw [HTE3.out]; decide, by rw [HTE3.out]⟩⟩
  have HTE3 : Hid (te = if 1048576 ≤ tm then 7 else 0) := HTE2.out
  obtain ⟨ka, rfl, hka⟩ := HAB.out rfl
  obtain ⟨kb, rfl, hkb⟩ := HBB.out rfl
  rw [Int.toNat_natCast, Int.toNat_natCast] at HL HTM0
  clear HTE2 HAB HBB
  have HAT := Lib.hid (fun W (hW : Below w.heap.size w W) => atlas_any x m W (HMP.out.below hW) hok)
  unfold GivesA at HAT
  have HOK := Lib.hid hok
  have hnw8 := hok.nw
  have qa : (0 : Int) ≤ (ka : Int) := by omega
  have qb : (0 : Int) ≤ (kb : Int) := by omega
  have qa8 : (ka : Int) < 8 := by omega
  have qb8 : (kb : Int) < 8 := by omega
  have HTM := Lib.hid (fun W A bm n (hA : At W A bm n x m) => hA.tm hka hkb hnw8.2)
  have HLT := Lib.hid (fun W A bm n (hA : At W A bm n x m) => hA.ab.lt)
  have HBE : Hid (0 ≤ tmA m ka kb) := (tmA_bd hok hka hkb).1
  have HWY := Lib.hid (fun A bm n (hf : tmA m ka kb < 1048576) W (hW : At W A bm n x m) => way_any hok x A bm ka kb n hka hkb hf W hW)
  rw [← HTM0.out] at HTM HBE HWY
  rw [← HL.out] at HWY
  clear HTM0 HL
  by_cases hfar : 1048576 ≤ tm
  · have HTE4 : Hid (te = 7) := by rw [if_pos hfar] at HTE3; exact HTE3.out
    have kf : (tm ≥ 1048576) := hfar
    go_wp2_with (first | (go_at_call 51; refine (HCK.out _ HA0.out.fr).mono ?_; rintro _ w1 ⟨rfl, hb⟩; have HA1 := Lib.hid (HA0.out.below hb); have d0 := HA1.out.cell (.head _) 0; have d1 := HA1.out.cell (.head _) 1; clear hb) | (go_at_call 66; have qq := T1; clear qq T1; refine (HP1.out _).mono ?_; rintro _ w2 ⟨rfl, hb⟩; have HA2 := Lib.hid (HA1.out.below hb); have e0 := HA2.out.cell (.head _) 0; have e1 := HA2.out.cell (.head _) 1; clear hb; have T2 : True := trivial) | (go_at_call 66; have qq := T2; clear qq T2; refine (HP2.out _).mono ?_; rintro _ w3 ⟨rfl, hb⟩; have HA3 := Lib.hid (HA2.out.below hb); have f0 := HA3.out.cell (.head _) 0; have f1 := HA3.out.cell (.head _) 1; clear hb; have T3 : True := trivial) | (go_at_call 69; refine (HAT.out _ HA3.out.fr).mono ?_; rintro _ w4 ⟨rfl, hat, hmp, hb⟩; have HA4 := Lib.hid (HA3.out.below hb); have HS4 := Lib.hid (At.made hat hmp ((HMP.out.below HA3.out.fr).below hb)); have g0 := HTM.out _ _ _ _ HS4.out; clear hat hmp hb))
    exact bodyPost_ret (v := .tuple #[.slice none 0 0, .int .i64 0, .int .i64 7]) (by simp [results, Try.results37, go_sem]) rfl ⟨HA4.out.fr, .inl ⟨by rw [HTE4.out]; decide, by rw [HTE4.out]⟩⟩
  · have HTE4 : Hid (te = 0) := by rw [if_neg hfar] at HTE3; exact HTE3.out
    have kf : ¬ (tm ≥ 1048576) := hfar
    have HW2 := Lib.hid (fun A bm n => HWY.out A bm n (by omega))
    clear HWY
    go_upto_region 9 with (first | (go_at_call 51; refine (HCK.out _ HA0.out.fr).mono ?_; rintro _ w1 ⟨rfl, hb⟩; have HA1 := Lib.hid (HA0.out.below hb); have d0 := HA1.out.cell (.head _) 0; have d1 := HA1.out.cell (.head _) 1; clear hb) | (go_at_call 66; have qq := T1; clear qq T1; refine (HP1.out _).mono ?_; rintro _ w2 ⟨rfl, hb⟩; have HA2 := Lib.hid (HA1.out.below hb); have e0 := HA2.out.cell (.head _) 0; have e1 := HA2.out.cell (.head _) 1; clear hb; have T2 : True := trivial) | (go_at_call 66; have qq := T2; clear qq T2; refine (HP2.out _).mono ?_; rintro _ w3 ⟨rfl, hb⟩; have HA3 := Lib.hid (HA2.out.below hb); have f0 := HA3.out.cell (.head _) 0; have f1 := HA3.out.cell (.head _) 1; clear hb; have T3 : True := trivial) | (go_at_call 69; refine (HAT.out _ HA3.out.fr).mono ?_; rintro _ w4 ⟨rfl, hat, hmp, hb⟩; have HA4 := Lib.hid (HA3.out.below hb); have HS4 := Lib.hid (At.made hat hmp ((HMP.out.below HA3.out.fr).below hb)); have g0 := HTM.out _ _ _ _ HS4.out; clear hat hmp hb))
    have hlA := HLT.out _ _ _ _ HS4.out
    have HS5 := Lib.hid (HS4.out.below (Below.refl w4.heap.size w4).drew)
    have HB4 := Lib.hid (HA4.out.fr.drew)
    clear HA4 HS4
    obtain ⟨A, hA⟩ : ∃ A, w3.heap.size + 2 = A := ⟨_, rfl⟩
    rw [hA] at g0 hlA HS5 ⊢
    have HAE := Lib.hid hA
    clear hA
    go_region_held3 (fun X => X.cell? ⟨A, 2 + ka * 8 + kb, none⟩ = some (.int .i64 tm)) (first | assumption | go_keep) (first | (go_at_call 79; refine (HW2.out _ _ _ _ HS5.out).mono ?_; rintro _ w5 ⟨g, c, rfl, how, hb5⟩; have HB5 := Lib.hid (below_step HB4.out hb5); have HO5 := Lib.hid (own_mono how HB4.out.size); have g5 := kept (Below.trans (Below.refl w4.heap.size w4).drew hb5) hlA g0; clear how hb5))
    clear g0 g5 HW2
    go_wp2_with fail
    exact bodyPost_ret (v := .tuple #[.slice (some ⟨g, 0, none⟩) L.length c, .int .i64 tm, .int .i64 0]) (by simp [results, Try.results37, go_sem]) rfl ⟨HB5.out, .inr ⟨HTE4.out, g, c, rfl, HO5.out⟩⟩
def wayX (m : Mp) (i j : Nat) : Int := if 1048576 ≤ tmA m i j then 7 else 0
def wayT (m : Mp) (i j : Nat) : Int := if 1048576 ≤ tmA m i j then 0 else tmA m i j
theorem way_pl {m : Mp} (ok : OkM m) (h0 : m.fault = 0) (x : MV) {i j : Nat} (hi : i < m.nw) (hj : j < m.nw) (w : World) (h : MpIn w x m) :
    Calls Try.prog 37 #[.agg #[.slice x.wa m.nw x.wc, .slice x.ra m.nr x.rc], .int .i64 (i : Int), .int .i64 (j : Int)] w fun e w' => (∃ a n c, e = .returned (.tuple #[.slice a n c, .int .i64 (wayT m i j), .int .i64 (wayX m i j)])) ∧ Below w.heap.size w w' := by
  have hn := ok.nw
  have hr := ok.nr
  refine (Way_any x m i j w h (by omega) (by omega)).mono ?_
  rintro e w' ⟨hb, h⟩
  refine ⟨?_, hb⟩
  have e1 : inB (i : Int) 0 ((m.nw : Int) - 1) = true := by simp only [inB, Bool.and_eq_true, decide_eq_true_eq]; omega
  have e2 : inB (j : Int) 0 ((m.nw : Int) - 1) = true := by simp only [inB, Bool.and_eq_true, decide_eq_true_eq]; omega
  have hE : wayE m i j = wayX m i j := by
    unfold wayE wayX
    rw [h0, e1, e2, Int.toNat_natCast, Int.toNat_natCast]
    rfl
  rw [hE, Int.toNat_natCast, Int.toNat_natCast] at h
  unfold wayX wayT at *
  rcases h with ⟨h1, rfl⟩ | ⟨h1, g, c, rfl, _⟩
  · have hf : 1048576 ≤ tmA m i j := by
      by_cases hh : 1048576 ≤ tmA m i j
      · exact hh
      · rw [if_neg hh] at h1; exact absurd rfl h1
    rw [if_pos hf, if_pos hf]
    exact ⟨_, _, _, rfl⟩
  · have hf : ¬ 1048576 ≤ tmA m i j := by
      intro hh
      rw [if_pos hh] at h1; exact absurd h1 (by decide)
    rw [if_neg hf, if_neg hf]
    exact ⟨_, _, _, rfl⟩
theorem below_drewN (w : World) : ∀ n, Below w.heap.size w (w.drewN n)
  | 0 => Below.refl _ _
  | n + 1 => (below_drewN w n).drew
end Go.Proofs.Ytpnkgjkoophckaa

namespace Go.Proofs.Ytpnkgjkoophckaa
open Go.RowKit Go.Shelf Go.Maps

def lstX (m : Mp) : Int := if 1048576 ≤ lowL m m.nw then 7 else 0
def lstT (m : Mp) (k : Int) : Int := if 1048576 ≤ lowL m m.nw then 0 else lstV m k
theorem least_pl {m : Mp} (ok : OkM m) (h0 : m.fault = 0) (x : MV) {k : Int} (hk : 1 ≤ k ∧ k ≤ 8) (w : World) (h : MpIn w x m) :
    Calls Try.prog 31 #[.agg #[.slice x.wa m.nw x.wc, .slice x.ra m.nr x.rc], .int .i64 k] w fun e w' => e = .returned (.tuple #[.int .i64 (lstT m k), .int .i64 (lstX m)]) ∧ Below w.heap.size w w' := by
  have hn := ok.nw
  have hr := ok.nr
  refine (Least_any x m k w h (by omega) (by omega)).mono ?_
  rintro e w' ⟨hb, h⟩
  have e1 : inB k 1 8 = true := by simp only [inB, Bool.and_eq_true, decide_eq_true_eq]; omega
  have hE : lstE m k = lstX m := by unfold lstE lstX; rw [h0, e1]; rfl
  rw [hE] at h
  refine ⟨?_, hb⟩
  rw [h]
  unfold lstX lstT
  by_cases hh : 1048576 ≤ lowL m m.nw
  · rw [if_pos hh, if_pos hh]; rfl
  · rw [if_neg hh, if_neg hh]; rfl
def tourX (m : Mp) (s : Nat) : Int := if 1048576 ≤ lgM m s then 7 else 0
def tourT (m : Mp) (s : Nat) : Int := if 1048576 ≤ lgM m s then 0 else lgM m s
theorem tour_pl {m : Mp} (ok : OkM m) (h0 : m.fault = 0) (x : MV) (a : Option Addr) (n cap : Nat) (z : Nat → Int) (hp : placesB m z n = true) (hn : n ≤ 100000) (w : World) (h : MpIn w x m) (hz : IntsIn w (.slice a n cap) n z) :
    Calls Try.prog 20 #[.agg #[.slice x.wa m.nw x.wc, .slice x.ra m.nr x.rc], .slice a n cap] w fun e w' => (∃ a1 n1 c1 a2 n2 c2, e = .returned (.tuple #[.agg #[.slice a1 n1 c1, .slice a2 n2 c2], .int .i64 (tourT m (orL z n)), .int .i64 (tourX m (orL z n))])) ∧ Below w.heap.size w w' := by
  have hnw := ok.nw
  have hr := ok.nr
  refine (Tour_any x m a n cap z w h hz (by omega) (by omega) hn).mono ?_
  rintro e w' ⟨hb, h⟩
  have hE : tourE m z n = tourX m (orL z n) := by unfold tourE tourX; rw [h0, hp]; rfl
  rw [hE] at h
  refine ⟨?_, hb⟩
  unfold tourX tourT at *
  by_cases hh : 1048576 ≤ lgM m (orL z n)
  · rw [if_pos hh] at h ⊢
    rw [if_pos hh]
    rcases h with ⟨_, rfl⟩ | ⟨h1, _⟩
    · exact ⟨_, _, _, _, _, _, rfl⟩
    · exact absurd h1 (by decide)
  · rw [if_neg hh] at h ⊢
    rw [if_neg hh]
    rcases h with ⟨h1, _⟩ | ⟨_, y, rfl, _⟩
    · exact absurd rfl h1
    · exact ⟨_, _, _, _, _, _, rfl⟩
theorem places_one {m : Mp} {i : Nat} (hi : i < m.nw) : placesB m (fun _ => (i : Int)) 1 = true := by
  have e : inB (i : Int) 0 ((m.nw : Int) - 1) = true := by simp only [inB, Bool.and_eq_true, decide_eq_true_eq]; omega
  unfold placesB risesB
  rw [show 1 - 1 = 0 from rfl, allB_true (fun q hq => absurd hq (Nat.not_lt_zero q)), allB_true (fun q _ => e)]
  rfl
theorem orL_one (i : Nat) : orL (fun _ => (i : Int)) 1 = 2 ^ i := by
  simp only [orL, Nat.zero_or]; rfl
end Go.Proofs.Ytpnkgjkoophckaa

namespace Go.Proofs.Ytpnkgjkoophckaa
open Go.RowKit Go.Shelf Go.Maps

theorem bit_two : ∀ s : Fin 256, ∀ n : Fin 8, ((((s : Nat) : Int) / 2 ^ (n : Nat)).tmod 2 == 1) = (s : Nat).testBit n := by decide +kernel
def zL (L : List Nat) (j : Nat) : Int := ((L.getD j 0 : Nat) : Int)
theorem orL_bit {z : Nat → Int} : ∀ (k i : Nat), (orL z k).testBit i = true ↔ ∃ j, j < k ∧ (z j).toNat = i
  | 0, i => by simp [orL]
  | k + 1, i => by
    simp only [orL]
    rw [Nat.testBit_or, Bool.or_eq_true, orL_bit k i, Nat.testBit_two_pow, decide_eq_true_eq]
    constructor
    · rintro (⟨j, h1, h2⟩ | h)
      · exact ⟨j, by omega, h2⟩
      · exact ⟨k, by omega, h⟩
    · rintro ⟨j, h1, h2⟩
      rcases Nat.lt_succ_iff_lt_or_eq.1 h1 with h | rfl
      · exact .inl ⟨j, h, h2⟩
      · exact .inr h2
theorem zL_get {L : List Nat} {j : Nat} (h : j < L.length) : zL L j = ((L[j] : Nat) : Int) := by
  unfold zL; rw [List.getD_eq_getElem?_getD, List.getElem?_eq_getElem h]; rfl
theorem plcN_mem {k s i : Nat} : i ∈ plcN k s ↔ i < k ∧ s.testBit i = true := by
  unfold plcN; rw [List.mem_filter, List.mem_range]
theorem orL_list {L : List Nat} {i : Nat} : (orL (zL L) L.length).testBit i = true ↔ i ∈ L := by
  rw [orL_bit]
  constructor
  · rintro ⟨j, h1, h2⟩
    rw [zL_get h1, Int.toNat_natCast] at h2
    rw [← h2]
    exact List.getElem_mem _
  · intro h
    obtain ⟨j, h1, h2⟩ := List.mem_iff_getElem.1 h
    exact ⟨j, h1, by rw [zL_get h1, Int.toNat_natCast, h2]⟩
theorem orL_plc (k s : Nat) : orL (zL (plcN k s)) (plcN k s).length = s % 2 ^ k := by
  refine Nat.eq_of_testBit_eq fun i => ?_
  rw [Bool.eq_iff_iff, orL_list, plcN_mem, Nat.testBit_mod_two_pow]
  simp
theorem rises_list {L : List Nat} (h : L.Pairwise (· < ·)) : risesB (zL L) L.length = true := by
  unfold risesB
  refine allB_true (fun q hq => ?_)
  rw [decide_eq_true_eq, zL_get (by omega), zL_get (by omega)]
  have := List.pairwise_iff_getElem.1 h q (q + 1) (by omega) (by omega) (by omega)
  omega
theorem places_plc {m : Mp} (s : Nat) : placesB m (zL (plcN m.nw s)) (plcN m.nw s).length = true := by
  unfold placesB
  have hp : (plcN m.nw s).Pairwise (· < ·) := List.pairwise_lt_range.filter _
  rw [rises_list hp, Bool.true_and]
  refine allB_true (fun q hq => ?_)
  rw [zL_get hq]
  have := (plcN_mem.1 (List.getElem_mem hq)).1
  simp only [inB, Bool.and_eq_true, decide_eq_true_eq]
  omega
theorem BF.grow1 {w X Y : World} {L : List (Nat × Array Value × TypeId)} {base sz n : Nat} {T : TypeId} {v : Value} {xs : List Value} (hA : BF w X L) (ho : X.ownsRow base T sz v n xs) (hT : ∀ p, p ∈ L → p.2.2 ≠ T) (hw : w.heap.size ≤ base) (hg : X.grownBy Y v.ownBlock) : BF w Y L :=
  hA.fro (Fr.grown hg) (fun q hq e => by have := (ho.lt q e).1; omega) (fun p hp e => own_type_ne ho (hA.bk p.1 p.2.1 p.2.2 hp).2 (hT p hp) e)
set_option maxRecDepth 100000 in
set_option maxHeartbeats 8000000 in
theorem some_any (x : MV) (m : Mp) (s : Nat) (w : World) (h8 : m.nw ≤ 8) (hs : s < 256) :
    Calls Try.prog 36 #[.agg #[.slice x.wa m.nw x.wc, .slice x.ra m.nr x.rc], .int .i64 (s : Int)] w fun e w' => ∃ a c, e = .returned (.slice a (plcN m.nw s).length c) ∧ IntsIn w' (.slice a (plcN m.nw s).length c) (plcN m.nw s).length (zL (plcN m.nw s)) ∧ Below w.heap.size w w' := by
  obtain ⟨i0, hi0, hz0, hz1, hz2⟩ := info_parts Try.infoInt
  obtain ⟨RL, HRL⟩ : ∃ RL : Nat → List Nat, Hid (∀ k, plcN k s = RL k) := ⟨fun k => plcN k s, fun _ => rfl⟩
  rw [HRL.out]
  have HRS : Hid (∀ k, RL (k + 1) = if s.testBit k = true then RL k ++ [k] else RL k) := fun k => by rw [← HRL.out, ← HRL.out]; exact plcN_succ k s
  have HRN : Hid (∀ k, (RL k).length ≤ k) := fun k => by rw [← HRL.out]; exact plcN_len k s
  have HR0 : Hid (RL 0 = []) := by unfold Hid; rw [← HRL.out]; rfl
  clear HRL
  have HA0 : Hid (BF w (w.alloc (.cells #[.slice x.wa m.nw x.wc, .slice x.ra m.nr x.rc] 25)) [(w.heap.size, #[.slice x.wa m.nw x.wc, .slice x.ra m.nr x.rc], 25)]) := (BF.base w).alloc _ _
  go_enter Try.func36, Try.ntmps36
  go_wp2_with fail
  generalize w.alloc (.cells #[.slice x.wa m.nw x.wc, .slice x.ra m.nr x.rc] 25) = w0 at *
  go_loopw [5, 6] (fun v i wr => ∃ (k : Nat) (va : Option Addr) (vc : Nat), i = .int .i64 k ∧ k ≤ m.nw ∧ v = .slice va (RL k).length vc ∧ BF w wr [(w.heap.size, #[.slice x.wa m.nw x.wc, .slice x.ra m.nr x.rc], 25)] ∧ wr.ownsRow w.heap.size 3 1 (.slice va (RL k).length vc) (RL k).length (nL (RL k))) (fun _ i _ => m.nw - (intOf i).toNat)
  case atStart => exact ⟨0, none, 0, rfl, Nat.zero_le _, by rw [HR0.out]; rfl, HA0.out, by rw [HR0.out]; exact World.ownsRow_nil _ _ _ _⟩
  case round =>
    clear HA0
    obtain ⟨k, va, vc, rfl, hk, rfl, hbf, how⟩ := hrel
    have HA1 := Lib.hid hbf; have HO1 := Lib.hid how
    clear hbf how
    have c0 := HA1.out.cell (.head _) 0
    have c1 := HA1.out.cell (.head _) 1
    by_cases hlt : k < m.nw
    · have HRK := Lib.hid (HRS.out k)
      have HRKN := Lib.hid (HRN.out k)
      have ki : (0 : Int) ≤ (k : Int) := by omega
      have kn : (k : Int) < (m.nw : Int) := by omega
      have k8 : (k : Int) < 8 := by omega
      have hb2 : ((((s : Nat) : Int) / 2 ^ k).tmod 2 == 1) = s.testBit k := bit_two ⟨s, hs⟩ ⟨k, by omega⟩
      obtain ⟨L, hL⟩ : ∃ L, L = RL k := ⟨_, rfl⟩
      rw [← hL] at HRK HRKN HO1 ⊢
      clear hL
      have hln := HRKN.out
      obtain ⟨n, hn⟩ : ∃ n, L.length = n := ⟨_, rfl⟩
      have HN := Lib.hid hn
      rw [hn] at HO1 hln ⊢
      clear hn
      cases hbb : s.testBit k
      · have HRK2 : Hid (RL (k + 1) = L) := by have h := HRK.out; rw [hbb] at h; exact h
        rw [hbb] at hb2
        clear hbb
        have HEV : Hid (Value.slice va n vc = Value.slice va (RL (k + 1)).length vc) := by unfold Hid; rw [HRK2.out, HN.out]
        have HO6 : Hid (wr.ownsRow w.heap.size 3 1 (.slice va (RL (k + 1)).length vc) (RL (k + 1)).length (nL (RL (k + 1)))) := by rw [HRK2.out, HN.out]; exact HO1.out
        go_wp2_with fail
        go_roundw
        case rel => exact ⟨k + 1, va, vc, by go_num, by omega, HEV.out, HA1.out, HO6.out⟩
        case measure => simp [intOf]; omega
      · have HRK2 : Hid (RL (k + 1) = L ++ [k]) := by have h := HRK.out; rw [hbb] at h; exact h
        rw [hbb] at hb2
        clear hbb
        go_wp2_with (at_builtin; refine wpList_append_src _ rfl (.tmp 20) (.tmp 22) 26 rfl w.heap.size 3 i0 (.int .i64 0) 1 8 Try.underlying26 hi0 hz0 hz1 hz2 rfl (by decide) (.slice va n vc) n (nL L) rfl (own_below HO1.out (below_alloc _ _)) (some ⟨wr.heap.size, 0, none⟩) 1 1 [.int .i64 (k : Int)] rfl ⟨rfl, fun j u hu => ⟨_, rfl, World.news_of_block (heap_alloc_new wr _) j u hu⟩⟩ (by simp [Value.oneCell']) ?a1 ?a2 ?a3 ?_)
        case a1 => unfold maxLen; omega
        case a2 => omega
        case a3 => have := HA1.out.fr.size; simp; omega
        intro v2 w6 hown hgr hlt1
        obtain ⟨ea, ec, rfl⟩ := own_slice' hown
        have HA2 := Lib.hid (HA1.out.below (below_alloc wr (.cells #[.int .i64 (k : Int)] 3)))
        have HA6 := Lib.hid (HA2.out.grow1 (own_below HO1.out (below_alloc _ _)) (List.forall_mem_cons.2 ⟨(show 25 ≠ 3 by decide), List.forall_mem_nil _⟩) (Nat.le_refl _) hgr)
        have HO6 : Hid (w6.ownsRow w.heap.size 3 1 (.slice ea (RL (k + 1)).length ec) (RL (k + 1)).length (nL (RL (k + 1)))) := by rw [HRK2.out, nL_snoc, List.length_append, HN.out]; exact hown
        have HEV : Hid (Value.slice ea (n + 1) ec = Value.slice ea (RL (k + 1)).length ec) := by unfold Hid; rw [HRK2.out, List.length_append, HN.out]; rfl
        clear hown hgr hlt1 HA2
        go_wp2_with fail
        go_roundw
        case rel => exact ⟨k + 1, ea, ec, by go_num, by omega, HEV.out, HA6.out, HO6.out⟩
        case measure => simp [intOf]; omega
    · obtain rfl : k = m.nw := by omega
      go_wp2_with fail
      go_ret
      exact ⟨va, vc, rfl, nL_ints HO1.out, HA1.out.fr⟩
end Go.Proofs.Ytpnkgjkoophckaa

namespace Go.Proofs.Ytpnkgjkoophckaa
open Go.RowKit Go.Shelf Go.Maps

abbrev TQ := LV × List Nat × List Nat
/-- A tour whose lists were made since a world of this size. -/
def TqO (base : Nat) (X : World) (q : TQ) : Prop := X.ownsRow base 3 1 (.slice q.1.ra q.2.1.length q.1.rc) q.2.1.length (nL q.2.1) ∧ X.ownsRow base 3 1 (.slice q.1.ca q.2.2.length q.1.cc) q.2.2.length (nL q.2.2)
def flQ (Q : List TQ) : List Value := Q.flatMap fun q => [.slice q.1.ra q.2.1.length q.1.rc, .slice q.1.ca q.2.2.length q.1.cc]
theorem flQ_snoc (Q : List TQ) (q : TQ) : flQ (Q ++ [q]) = flQ Q ++ [.slice q.1.ra q.2.1.length q.1.rc, .slice q.1.ca q.2.2.length q.1.cc] := by unfold flQ; rw [List.flatMap_append]; rfl
theorem TqO.fr {base : Nat} {X Y : World} {q : TQ} {ex : Nat → Prop} (h : TqO base X q) (hf : Fr ex X Y) (hx : ∀ b cs, X.heap[b]? = some (.cells cs 3 (0, 0)) → ¬ ex b) : TqO base Y q :=
  ⟨own_fr h.1 hf (fun g cur _ _ hc => hx g cur hc), own_fr h.2 hf (fun g cur _ _ hc => hx g cur hc)⟩
/-- What Plan gives. -/
def GivesPl (w : World) (m : Mp) (lim : Int) (e : Ending) (w' : World) : Prop :=
  Below w.heap.size w w' ∧
    ((dvdE m lim ≠ 0 ∧ e = .returned (.tuple #[.slice none 0 0, .int .i64 (dvdE m lim)])) ∨
     (dvdE m lim = 0 ∧ ∃ (a : Option Addr) (c : Nat) (Q : List TQ), e = .returned (.tuple #[.slice a Q.length c, .int .i64 0]) ∧ Q.map (fun q => q.2) = (dvW m lim).map (fun s => (tourL m s, plc s)) ∧ w'.ownsRow w.heap.size 30 2 (.slice a Q.length c) Q.length (flQ Q) ∧ ∀ q, q ∈ Q → TqO w.heap.size w' q))
theorem Try.infoWalkV : (Try.prog.info? 30).map (fun i => (i.zero, i.size, i.bytes)) = some (some (.agg #[.slice none 0 0, .slice none 0 0]), 2, 48) := by kernel_rfl
set_option maxRecDepth 100000 in
set_option maxHeartbeats 16000000 in
theorem Plan_any (x : MV) (m : Mp) (lim : Int) (w : World) (h : MpIn w x m) (hnw : m.nw ≤ 100000) (hnr : m.nr ≤ 100000) :
    Calls Try.prog 45 #[.agg #[.slice x.wa m.nw x.wc, .slice x.ra m.nr x.rc], .int .i64 lim] w (GivesPl w m lim) := by
  obtain ⟨i0, hi0, hz0, hz1, hz2⟩ := info_parts Try.infoWalkV
  have HDV := Lib.hid (fun W (hW : Below w.heap.size w W) => divided_any x m lim W (h.below hW) hnw hnr)
  have HOKM : Hid (dvdE m lim = 0 → OkM m ∧ lim ≤ 10000) := fun e => by
    unfold dvdE at e
    by_cases hf : m.fault = 0
    · rw [if_neg (by simpa using hf)] at e
      refine ⟨okM_of hf, ?_⟩
      by_cases hb : inB lim 0 10000 = true
      · simp only [inB, Bool.and_eq_true, decide_eq_true_eq] at hb; exact hb.2
      · rw [if_neg hb] at e; exact absurd e (by decide)
    · rw [if_pos (by simpa using hf)] at e; exact absurd e hf
  unfold GivesP at HDV
  unfold GivesPl
  clear h
  have HMEM : Hid (dvdE m lim = 0 → ∀ p, p ∈ dvW m lim → p < 2 ^ m.nw ∧ 0 < p ∧ lgM m p ≤ lim ∧ rsT m 0 p < 1048576) := fun e p hp => dvW_mem (HOKM.out e).1 (by have := (HOKM.out e).2; omega) hp
  have HLEN : Hid (dvdE m lim = 0 → (dvW m lim).length ≤ 8) := fun e => by have := dvW_len (HOKM.out e).1 lim; have := (HOKM.out e).1.nw; omega
  have HA0 : Hid (BF w (w.alloc (.cells #[.slice x.wa m.nw x.wc, .slice x.ra m.nr x.rc] 37)) [(w.heap.size, #[.slice x.wa m.nw x.wc, .slice x.ra m.nr x.rc], 37)]) := (BF.base w).alloc _ _
  obtain ⟨te, hte⟩ : ∃ te, te = dvdE m lim := ⟨_, rfl⟩
  obtain ⟨D, hD⟩ : ∃ D, D = dvW m lim := ⟨_, rfl⟩
  rw [← hte, ← hD] at HDV HMEM ⊢
  rw [← hte] at HOKM HLEN
  rw [← hD] at HLEN
  clear hte hD
  go_enter Try.func45, Try.ntmps45
  go_upto_region 1 with fail
  generalize w.alloc (.cells #[.slice x.wa m.nw x.wc, .slice x.ra m.nr x.rc] 37) = w0 at *
  have c0 := HA0.out.cell (.head _) 0
  have c1 := HA0.out.cell (.head _) 1
  go_wp2_with fail
  refine (HDV.out _ HA0.out.fr).mono ?_
  rintro e w1 ⟨hb, h⟩
  have HA1 := Lib.hid (HA0.out.below hb)
  have hs01 := hb.size
  clear hb HDV
  rcases h with ⟨hne, rfl⟩ | ⟨h0, A, bm, g, c, rfl, hat, hown, hA, hbm⟩
  · have kne : (te != 0) = true := by simpa using hne
    go_wp2_with fail
    exact bodyPost_ret (v := .tuple #[.slice none 0 0, .int .i64 te]) (by simp [results, Try.results45, go_sem]) rfl ⟨HA1.out.fr, .inl ⟨hne, rfl⟩⟩
  have hok := (HOKM.out h0).1
  have HME := Lib.hid (HMEM.out h0)
  have hln := HLEN.out h0
  have HS1 := Lib.hid hat
  have HO1 := Lib.hid hown
  have hs1 := HA1.out.fr.size
  have HBL : Hid (w.heap.size ≤ bm) := by have := HA0.out.fr.size; exact Nat.le_trans this hbm
  have HT0 := Lib.hid h0
  clear hat hown HOKM HMEM HLEN c0 c1 h0
  have hbw : bm < w1.heap.size := by obtain ⟨es, kk, hm⟩ := HS1.out.cm.mp; exact (Array.getElem?_eq_some_iff.1 hm).1
  have hbM : w.heap.size ≠ bm := by
    intro e
    obtain ⟨es, kk, hm⟩ := HS1.out.cm.mp
    rw [← e, (HA1.out.bk _ _ _ (.head _)).2] at hm
    cases hm
  have HTR := Lib.hid (fun s n W (hs : s < 2 ^ m.nw) (hf : rsT m 0 s < 1048576) hn hW => tour_any hok x A bm s n hs hf hn W hW)
  unfold GivesT at HTR
  clear hok
  have HF0 := Lib.hid (AF.base HS1.out)
  obtain ⟨nD, hnD⟩ : ∃ nD, D.length = nD := ⟨_, rfl⟩
  have HND := Lib.hid hnD
  rw [hnD] at HO1 hln ⊢
  clear hnD
  go_wp2_with fail
  go_loopw [9, 11, 24] (fun v _ i wr => ∃ (k : Nat) (va : Option Addr) (vc : Nat) (Q : List TQ), i = .int .i64 k ∧ k ≤ nD ∧ Q.length = k ∧ v = .slice va k vc ∧ AF w1 wr A bm (30000000000000000 + k * 1800000) x m [] ∧ Q.map (fun q => q.2) = (D.take k).map (fun s => (tourL m s, plc s)) ∧ wr.ownsRow w1.heap.size 30 2 (.slice va k vc) k (flQ Q) ∧ (∀ q, q ∈ Q → TqO w1.heap.size wr q) ∧ wr.ownsRow 0 124 1 (.slice (some ⟨g, 0, none⟩) nD c) nD (nL D)) (fun _ _ i _ => nD - (intOf i).toNat)
  case atStart => exact ⟨0, none, 0, [], rfl, Nat.zero_le _, rfl, rfl, by simpa using HF0.out, rfl, World.ownsRow_nil _ _ _ _, (fun q hq => by cases hq), HO1.out⟩
  case round =>
    clear HF0 HO1
    obtain ⟨k, va, vc, Q, rfl, hk, hQ, rfl, haf, hqm, how, hqo, hset⟩ := hrel
    rename World => wx
    have HF1 := Lib.hid haf; have HQM := Lib.hid hqm; have HO2 := Lib.hid how; have HQO := Lib.hid hqo; have HST := Lib.hid hset; have HQL := Lib.hid hQ
    clear haf hqm how hqo hset hQ
    by_cases hlt : k < nD
    · have hkD : k < D.length := by rw [HND.out]; exact hlt
      obtain ⟨s, hs⟩ : ∃ s, s = D[k] := ⟨_, rfl⟩
      have hsD : s ∈ D := by rw [hs]; exact List.getElem_mem _
      have HTK : Hid (D.take (k + 1) = D.take k ++ [s]) := by unfold Hid; rw [hs, List.take_add_one, List.getElem?_eq_getElem hkD]; rfl
      have x0 : wx.cell? ⟨g, k, none⟩ = some (.int .i64 (s : Int)) := by
        rcases HST.out.2 with ⟨e1, _⟩ | ⟨g', cap, cur, e1, _, hg, _⟩
        · cases e1
        · refine (HST.out.cellAt k (by omega)).trans ?_
          rw [nL_get hkD]
          rw [List.getD_eq_getElem?_getD, List.getElem?_eq_getElem hkD, hs]
          rfl
      obtain ⟨s1, s2, s3, s4⟩ := HME.out s hsD
      have HT1 := Lib.hid (HTR.out s (30000000000000000 + k * 1800000) wx s1 s4 (by omega) HF1.out.st)
      have ki : (0 : Int) ≤ (k : Int) := by omega
      have kn : (k : Int) < (nD : Int) := by omega
      clear hs hsD s1 s2 s3 s4 hkD
      go_wp2_with fail
      refine HT1.out.mono ?_
      rintro _ w5 ⟨z, rfl, hwo, hs5, hf5⟩
      have hnI : ∀ b cs T, wx.heap[b]? = some (.cells cs T (0, 0)) → ¬ b = bm := fun b cs T hb e => by subst e; obtain ⟨es, kk, hm⟩ := HF1.out.st.cm.mp; rw [hm] at hb; cases hb
      have hsw := HF1.out.fr.size
      have HF5 := Lib.hid (HF1.out.go hbw hf5 hs5)
      have HO5 := Lib.hid (own_fr HO2.out hf5 (fun g' cur _ _ hc => hnI g' cur _ hc))
      have HST5 := Lib.hid (own_fr HST.out hf5 (fun g' cur _ _ hc => hnI g' cur _ hc))
      have HQO5 := Lib.hid (fun q (hq : q ∈ Q) => (HQO.out q hq).fr hf5 (fun b cs hb => hnI b cs _ hb))
      have HTQ : Hid (TqO w1.heap.size w5 (z, tourL m s, plc s)) := ⟨own_mono (hwo.own 0 _ rfl) hsw, own_mono (hwo.own 1 _ rfl) hsw⟩
      obtain ⟨R, hR⟩ : ∃ R, R = tourL m s := ⟨_, rfl⟩
      obtain ⟨C, hC⟩ : ∃ C, C = plc s := ⟨_, rfl⟩
      have HRC := Lib.hid (And.intro hR hC)
      rw [← hR, ← hC] at HTQ ⊢
      clear hwo hs5 hf5 hnI hR hC HF1 HO2 HST HQO HT1 hsw x0
      obtain ⟨za, zc, ya, yc⟩ := z
      simp only at HTQ ⊢
      go_wp2_with (at_builtin; refine wpList_append_src _ rfl (.tmp 28) (.tmp 32) 85 rfl w1.heap.size 30 i0 (.agg #[.slice none 0 0, .slice none 0 0]) 2 48 Try.underlying85 hi0 hz0 hz1 hz2 rfl (by decide) (.slice va k vc) k (flQ Q) rfl (own_below HO5.out (below_alloc _ _)) (some ⟨w5.heap.size, 0, none⟩) 1 1 [.slice za R.length zc, .slice ya C.length yc] rfl ⟨rfl, fun j u hu => ⟨_, rfl, World.news_of_block (heap_alloc_new w5 _) j u hu⟩⟩ (by simp [Value.oneCell']) ?a1 ?a2 ?a3 ?_)
      case a1 => unfold maxLen; omega
      case a2 => omega
      case a3 => have := HF5.out.fr.size; simp; omega
      intro v2 w6 hown hgr hlt1
      obtain ⟨ea, ec, rfl⟩ := own_slice' hown
      have HF6 := Lib.hid (HF5.out.below hbw (below_alloc w5 (.cells #[.slice za R.length zc, .slice ya C.length yc] 30)))
      have HF7 := Lib.hid (HF6.out.grow HS1.out (own_below HO5.out (below_alloc _ _)) (List.forall_mem_nil _) (Nat.le_refl _) hgr)
      have hne : ∀ b cs T, T ≠ 30 → (w5.alloc (.cells #[.slice za R.length zc, .slice ya C.length yc] 30)).heap[b]? = some (.cells cs T (0, 0)) → ¬ (Value.slice va k vc).ownBlock = some b := fun b cs T hT hb => own_type_ne (own_below HO5.out (below_alloc _ _)) hb hT
      have HST7 := Lib.hid (own_fr (own_below HST5.out (below_alloc w5 _)) (Fr.grown hgr) (fun g' cur _ _ hc => hne g' cur _ (by decide) hc))
      have HQO7 := Lib.hid (fun q (hq : q ∈ Q) => ((HQO5.out q hq).fr (Fr.below (below_alloc w5 _) (fun _ => False)) (fun _ _ _ h => h)).fr (Fr.grown hgr) (fun b cs hb => hne b cs _ (by decide) hb))
      have HTQ7 := Lib.hid ((HTQ.out.fr (Fr.below (below_alloc w5 _) (fun _ => False)) (fun _ _ _ h => h)).fr (Fr.grown hgr) (fun b cs hb => hne b cs _ (by decide) hb))
      have HO7 : Hid (w6.ownsRow w1.heap.size 30 2 (.slice ea (k + 1) ec) (k + 1) (flQ (Q ++ [(⟨za, zc, ya, yc⟩, R, C)]))) := by rw [flQ_snoc]; exact hown
      clear hown hgr hlt1 hne HF5 HF6 HO5 HST5 HQO5 HTQ
      go_wp2_with fail
      go_roundw
      case rel => exact ⟨k + 1, ea, ec, Q ++ [(⟨za, zc, ya, yc⟩, R, C)], by go_num, by omega, by rw [List.length_append, HQL.out]; rfl, rfl, HF7.out.mono (by omega), by rw [HTK.out, List.map_append, List.map_append, HQM.out]; rw [HRC.out.1, HRC.out.2]; rfl, HO7.out, (fun q hq => by rcases List.mem_append.1 hq with h | h; exact HQO7.out q h; obtain rfl := List.mem_singleton.1 h; exact HTQ7.out), HST7.out⟩
      case measure => simp [intOf]; omega
    · obtain rfl : k = nD := by omega
      have HBF := Lib.hid (HA1.out.frm HF1.out.fr HBL.out (List.forall_mem_cons.2 ⟨hbM, List.forall_mem_nil _⟩))
      have HOF : Hid (wx.ownsRow w.heap.size 30 2 (.slice va Q.length vc) Q.length (flQ Q)) := by rw [HQL.out]; exact own_mono HO2.out hs1
      have HQF : Hid (∀ q, q ∈ Q → TqO w.heap.size wx q) := fun q hq => ⟨own_mono (HQO.out q hq).1 hs1, own_mono (HQO.out q hq).2 hs1⟩
      have HQN : Hid (Q.map (fun q => q.2) = D.map (fun s => (tourL m s, plc s))) := by have h := HQM.out; rw [← HND.out, List.take_length] at h; exact h
      have HEV : Hid (Value.slice va k vc = Value.slice va Q.length vc) := by unfold Hid; rw [HQL.out]
      go_wp2_with fail
      exact bodyPost_ret (v := .tuple #[.slice va k vc, .int .i64 0]) (by simp [results, Try.results45, go_sem]) rfl ⟨HBF.out.fr, .inr ⟨HT0.out, va, vc, Q, by rw [HEV.out], HQN.out, HOF.out, HQF.out⟩⟩
theorem reach_pl {m : Mp} (ok : OkM m) (h0 : m.fault = 0) (x : MV) {lim : Int} (hl : 0 ≤ lim ∧ lim ≤ 10000) (w : World) (h : MpIn w x m) :
    Calls Try.prog 42 #[.agg #[.slice x.wa m.nw x.wc, .slice x.ra m.nr x.rc], .int .i64 lim] w fun e w' => ∃ a c, e = .returned (.tuple #[.slice a (rchN m lim m.nw).length c, .int .i64 0]) ∧ IntsIn w' (.slice a (rchN m lim m.nw).length c) (rchN m lim m.nw).length (zL (rchN m lim m.nw)) ∧ Below w.heap.size w w' := by
  have hn := ok.nw
  have hr := ok.nr
  refine (Reach_any x m lim w h (by omega) (by omega)).mono ?_
  rintro e w' ⟨hb, h⟩
  have e1 : inB lim 0 10000 = true := by simp only [inB, Bool.and_eq_true, decide_eq_true_eq]; omega
  have hE : rchE m lim = 0 := by unfold rchE; rw [h0, e1]; rfl
  rw [hE] at h
  rcases h with ⟨h1, _⟩ | ⟨_, v, rfl, how⟩
  · exact absurd rfl h1
  · obtain ⟨a, c, rfl⟩ := own_slice' how
    exact ⟨a, c, rfl, nL_ints how, hb⟩
def planX (m : Mp) (lim : Int) : Int := if dvW m lim = [] then 9 else 0
theorem plan_pl {m : Mp} (ok : OkM m) (h0 : m.fault = 0) (x : MV) {lim : Int} (hl : 0 ≤ lim ∧ lim ≤ 10000) (w : World) (h : MpIn w x m) :
    Calls Try.prog 45 #[.agg #[.slice x.wa m.nw x.wc, .slice x.ra m.nr x.rc], .int .i64 lim] w fun e w' => Below w.heap.size w w' ∧ ∃ (a : Option Addr) (c : Nat) (Q : List TQ), e = .returned (.tuple #[.slice a Q.length c, .int .i64 (planX m lim)]) ∧ Q.map (fun q => q.2) = (dvW m lim).map (fun s => (tourL m s, plc s)) ∧ w'.ownsRow w.heap.size 30 2 (.slice a Q.length c) Q.length (flQ Q) ∧ ∀ q, q ∈ Q → TqO w.heap.size w' q := by
  have hn := ok.nw
  have hr := ok.nr
  refine (Plan_any x m lim w h (by omega) (by omega)).mono ?_
  rintro e w' ⟨hb, h⟩
  refine ⟨hb, ?_⟩
  have e1 : inB lim 0 10000 = true := by simp only [inB, Bool.and_eq_true, decide_eq_true_eq]; omega
  have hE : dvdE m lim = planX m lim := by unfold dvdE planX; rw [h0, e1]; rfl
  rw [hE] at h
  rcases h with ⟨h1, rfl⟩ | ⟨h1, a, c, Q, rfl, h2, h3, h4⟩
  · have hd : dvW m lim = [] := by
      unfold planX at h1
      by_cases hh : dvW m lim = []
      · exact hh
      · rw [if_neg hh] at h1; exact absurd rfl h1
    refine ⟨none, 0, [], rfl, by rw [hd]; rfl, World.ownsRow_nil _ _ _ _, fun q hq => by cases hq⟩
  · rw [h1]; exact ⟨a, c, Q, rfl, h2, h3, h4⟩
end Go.Proofs.Ytpnkgjkoophckaa
