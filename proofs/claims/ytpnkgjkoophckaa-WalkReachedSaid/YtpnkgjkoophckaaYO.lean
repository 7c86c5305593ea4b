/- Walk: what Way says, in short; WalkReturns' walk. -/
import Derived.Test.YtpnkgjkoophckaaYM
import Derived.Test.YtpnkgjkoophckaaYH
import Derived.Test.YtpnkgjkoophckaaYK
import Derived.Test.YtpnkgjkoophckaaYL
import Derived.Test.YtpnkgjkoophckaaYI
import Derived.Test.YtpnkgjkoophckaaZB
namespace Go.Proofs.Ytpnkgjkoophckaa
open Go.RowKit Go.Shelf Go.Maps

def wayX (m : Mp) (i j : Nat) : Int := if 1048576 ≤ tmA m i j then 7 else 0
def wayT (m : Mp) (i j : Nat) : Int := if 1048576 ≤ tmA m i j then 0 else tmA m i j
theorem way_pl {m : Mp} (ok : OkM m) (h0 : m.fault = 0) (x : MV) {i j : Nat} (hi : i < m.nw) (hj : j < m.nw) (w : World) (h : MpIn w x m) :
    Calls Try.prog 37 #[.agg #[.slice x.wa m.nw x.wc, .slice x.ra m.nr x.rc], .int .i64 (i : Int), .int .i64 (j : Int)] w fun e w' => (∃ a n c, e = .returned (.tuple #[.slice a n c, .int .i64 (wayT m i j), .int .i64 (wayX m i j)])) ∧ Below w.heap.size w w' := by
  have hn := ok.nw
  have hr := ok.nr
  refine (Way_any x m i j w h (by omega) (by omega)).mono ?_
  rintro e w' ⟨hb, h⟩
  refine ⟨?_, hb⟩
  have e1 : inB (i : Int) 0 ((m.nw : Int) - 1) = true := by simp only [inB, Bool.and_eq_true, decide_eq_true_eq]; omega
  have e2 : inB (j : Int) 0 ((m.nw : Int) - 1) = true := by simp only [inB, Bool.and_eq_true, decide_eq_true_eq]; omega
  have hE : wayE m i j = wayX m i j := by
    unfold wayE wayX
    rw [h0, e1, e2, Int.toNat_natCast, Int.toNat_natCast]
    rfl
  rw [hE, Int.toNat_natCast, Int.toNat_natCast] at h
  unfold wayX wayT at *
  rcases h with ⟨h1, rfl⟩ | ⟨h1, g, c, rfl, _⟩
  · have hf : 1048576 ≤ tmA m i j := by
      by_cases hh : 1048576 ≤ tmA m i j
      · exact hh
      · rw [if_neg hh] at h1; exact absurd rfl h1
    rw [if_pos hf, if_pos hf]
    exact ⟨_, _, _, rfl⟩
  · have hf : ¬ 1048576 ≤ tmA m i j := by
      intro hh
      rw [if_pos hh] at h1; exact absurd h1 (by decide)
    rw [if_neg hf, if_neg hf]
    exact ⟨_, _, _, rfl⟩
theorem below_drewN (w : World) : ∀ n, Below w.heap.size w (w.drewN n)
  | 0 => Below.refl _ _
  | n + 1 => (below_drewN w n).drew
set_option maxRecDepth 100000 in
set_option maxHeartbeats 16000000 in
theorem walkReturns_walk (x : MV) (m : Mp) (a b c : Int) (w : World) (h : MpLaw w x m) (ha : 0 ≤ a ∧ a ≤ 255) (hb : 0 ≤ b ∧ b ≤ 255) (hc : 0 ≤ c ∧ c ≤ 255) :
    Calls Try.prog 8 #[.agg #[.slice x.wa m.nw x.wc, .slice x.ra m.nr x.rc], .int .u8 a, .int .u8 b, .int .u8 c] w fun e w' => e = .returned (.bool true) ∧ Below w.heap.size w w' := by
  obtain ⟨a, rfl⟩ : ∃ k : Nat, a = k := ⟨a.toNat, by omega⟩
  obtain ⟨b, rfl⟩ : ∃ k : Nat, b = k := ⟨b.toNat, by omega⟩
  obtain ⟨c, rfl⟩ : ∃ k : Nat, c = k := ⟨c.toNat, by omega⟩
  have HMP := Lib.hid h.l
  have HRE := Lib.hid (fun W (hW : Below w.heap.size w W) => ready_any x m W (h.l.below hW) h.bw h.br)
  clear h
  obtain ⟨rb, hrb⟩ : ∃ rb, rb = readyB m := ⟨_, rfl⟩
  have HRB : Hid (rb = true → m.fault = 0) := fun h => by rw [hrb] at h; unfold readyB at h; simp only [Bool.and_eq_true, decide_eq_true_eq] at h; exact h.2
  rw [← hrb] at HRE
  clear hrb
  have HA0 : Hid (BF w (w.alloc (.cells #[.slice x.wa m.nw x.wc, .slice x.ra m.nr x.rc] 25)) [(w.heap.size, #[.slice x.wa m.nw x.wc, .slice x.ra m.nr x.rc], 25)]) := (BF.base w).alloc _ _
  go_enter Try.func8, Try.ntmps8
  go_upto_region 1 with fail
  generalize w.alloc (.cells #[.slice x.wa m.nw x.wc, .slice x.ra m.nr x.rc] 25) = w0 at *
  have c0 := HA0.out.cell (.head _) 0
  have c1 := HA0.out.cell (.head _) 1
  cases rb
  · go_wp2_with (first | (go_at_call 35; refine (HRE.out _ HA0.out.fr).mono ?_; rintro _ w1 ⟨rfl, hb⟩; have HA1 := Lib.hid (HA0.out.below hb); clear hb) | (go_at_call 19; refine (awake_any _).mono ?_; rintro _ w2 ⟨rfl, hb⟩; have HA2 := Lib.hid (HA1.out.below hb); clear hb))
    go_ret
    exact ⟨rfl, HA2.out.fr⟩
  have hf := HRB.out rfl
  have hok := okM_of hf
  have HWY := Lib.hid (fun (y : MV) (i j : Nat) (hi : i < m.nw) (hj : j < m.nw) W (hW : MpIn W y m) => way_pl hok hf y hi hj W hW)
  have HMC := Lib.hid (fun W (hW : Below w.heap.size w W) => mapC_any x m W (HMP.out.below hW) (by have := hok.nw; omega) (by have := hok.nr; omega))
  have hnw := hok.nw
  have HX : Hid (∀ i j : Nat, i < m.nw → j < m.nw → (wayX m i j = 7 ∧ wayT m i j = 0 ∧ wayX m j i = 7 ∧ wayT m j i = 0 ∧ i ≠ j) ∨ (wayX m i j = 0 ∧ wayX m j i = 0 ∧ wayT m j i = wayT m i j ∧ 0 ≤ wayT m i j ∧ wayT m i j ≤ 350 ∧ (i = j ∧ wayT m i j = 0 ∨ i ≠ j ∧ wayT m i j ≠ 0))) := fun i j hi hj => by
    unfold wayX wayT
    rw [tmA_symm hok hj hi]
    have hbd := tmA_bd hok hi hj
    by_cases hh : 1048576 ≤ tmA m i j
    · left
      rw [if_pos hh, if_pos hh]
      exact ⟨rfl, rfl, rfl, rfl, fun e => by subst e; rw [tmA_self hok hi] at hh; omega⟩
    · right
      rw [if_neg hh, if_neg hh]
      refine ⟨rfl, rfl, rfl, hbd.1, tmA_fin hok hi hj (by omega), ?_⟩
      by_cases e : i = j
      · subst e; exact .inl ⟨rfl, tmA_self hok hi⟩
      · have := tmA_pos hok hi hj e; exact .inr ⟨e, by omega⟩
  have HTR : Hid (∀ i j k : Nat, i < m.nw → j < m.nw → k < m.nw → wayX m i j = 0 → wayX m j k = 0 → wayX m i k = 0 ∧ wayT m i k ≤ wayT m i j + wayT m j k) := fun i j k hi hj hk => by
    unfold wayX wayT
    intro h1 h2
    have f1 := tmA_fin hok hi hj
    have f2 := tmA_fin hok hj hk
    have t := tmA_tri hok hi hj hk
    by_cases q1 : 1048576 ≤ tmA m i j
    · rw [if_pos q1] at h1; exact absurd h1 (by decide)
    by_cases q2 : 1048576 ≤ tmA m j k
    · rw [if_pos q2] at h2; exact absurd h2 (by decide)
    rw [if_neg q1, if_neg q2, if_neg (by omega), if_neg (by omega)]
    exact ⟨rfl, t⟩
  clear hok hf HRB
  go_wp2_with (first | (go_at_call 35; refine (HRE.out _ HA0.out.fr).mono ?_; rintro _ w1 ⟨rfl, hb⟩; have HA1 := Lib.hid (HA0.out.below hb); clear hb; have d0 := HA1.out.cell (.head _) 0; have d1 := HA1.out.cell (.head _) 1))
  have hnz : ((m.nw : Int) == 0) = false := by simp; omega
  have hnz2 : (m.nw : Int) ≠ 0 := by omega
  go_quiet (fail)
  have HA2 : Hid (BF w (w1.drewN nq) [(w.heap.size, #[.slice x.wa m.nw x.wc, .slice x.ra m.nr x.rc], 25)]) := HA1.out.below (below_drewN w1 nq)
  clear HA1 HA0 d0 d1 c0 c1 hnz hnz2 HRE
  generalize w1.drewN nq = w2 at *
  obtain ⟨i, hi⟩ : ∃ i, i = a % m.nw := ⟨_, rfl⟩
  obtain ⟨j, hj⟩ : ∃ j, j = b % m.nw := ⟨_, rfl⟩
  obtain ⟨k, hk⟩ : ∃ k, k = c % m.nw := ⟨_, rfl⟩
  have ei : ((a : Int) % (m.nw : Int)) = (i : Int) := by rw [hi]; rfl
  have ej : ((b : Int) % (m.nw : Int)) = (j : Int) := by rw [hj]; rfl
  have ek : ((c : Int) % (m.nw : Int)) = (k : Int) := by rw [hk]; rfl
  rw [ei, ej, ek]
  have li : i < m.nw := by rw [hi]; exact Nat.mod_lt _ (by omega)
  have lj : j < m.nw := by rw [hj]; exact Nat.mod_lt _ (by omega)
  have lk : k < m.nw := by rw [hk]; exact Nat.mod_lt _ (by omega)
  clear ei ej ek hi hj hk
  have X1 := Lib.hid (HX.out i j li lj)
  have X3 := Lib.hid (HX.out j k lj lk)
  have X4 := Lib.hid (HX.out i k li lk)
  have XT := Lib.hid (HTR.out i j k li lj lk)
  have HW1 := Lib.hid (fun (y : MV) W hW => HWY.out y i j li lj W hW)
  have HW2 := Lib.hid (fun (y : MV) W hW => HWY.out y j i lj li W hW)
  have HW3 := Lib.hid (fun (y : MV) W hW => HWY.out y j k lj lk W hW)
  have HW4 := Lib.hid (fun (y : MV) W hW => HWY.out y i k li lk W hW)
  clear HX HTR HWY li lj lk
  generalize wayT m i j = t1 at *
  generalize wayX m i j = e1 at *
  generalize wayT m j i = t2 at *
  generalize wayX m j i = e2 at *
  generalize wayT m j k = t3 at *
  generalize wayX m j k = e3 at *
  generalize wayT m i k = t4 at *
  generalize wayX m i k = e4 at *
  have c0 := HA2.out.cell (.head _) 0
  have c1 := HA2.out.cell (.head _) 1
  go_wp2_with fail
  refine (HMC.out _ HA2.out.fr).mono ?_
  rintro _ v1 ⟨y, rfl, hm, hb⟩
  have HA3 := Lib.hid (HA2.out.below hb)
  have HM := Lib.hid hm
  clear hm hb c0 c1 HA2
  go_wp2_with fail
  refine (HW1.out y _ HM.out).mono ?_
  rintro _ x1 ⟨⟨ga, gn, gc, rfl⟩, hb⟩
  have HA4 := Lib.hid (HA3.out.below hb)
  clear hb HA3 HM
  have c0 := HA4.out.cell (.head _) 0
  have c1 := HA4.out.cell (.head _) 1
  go_wp2_with fail
  refine (HMC.out _ HA4.out.fr).mono ?_
  rintro _ v2 ⟨y, rfl, hm, hb⟩
  have HA5 := Lib.hid (HA4.out.below hb)
  have HM := Lib.hid hm
  clear hm hb c0 c1 HA4
  go_wp2_with fail
  refine (HW2.out y _ HM.out).mono ?_
  rintro _ x2 ⟨⟨ga, gn, gc, rfl⟩, hb⟩
  have HA6 := Lib.hid (HA5.out.below hb)
  clear hb HA5 HM
  have c0 := HA6.out.cell (.head _) 0
  have c1 := HA6.out.cell (.head _) 1
  go_wp2_with fail
  refine (HMC.out _ HA6.out.fr).mono ?_
  rintro _ v3 ⟨y, rfl, hm, hb⟩
  have HA7 := Lib.hid (HA6.out.below hb)
  have HM := Lib.hid hm
  clear hm hb c0 c1 HA6
  go_wp2_with fail
  refine (HW3.out y _ HM.out).mono ?_
  rintro _ x3 ⟨⟨ga, gn, gc, rfl⟩, hb⟩
  have HA8 := Lib.hid (HA7.out.below hb)
  clear hb HA7 HM
  have c0 := HA8.out.cell (.head _) 0
  have c1 := HA8.out.cell (.head _) 1
  go_wp2_with fail
  refine (HMC.out _ HA8.out.fr).mono ?_
  rintro _ v4 ⟨y, rfl, hm, hb⟩
  have HA9 := Lib.hid (HA8.out.below hb)
  have HM := Lib.hid hm
  clear hm hb c0 c1 HA8
  go_wp2_with fail
  refine (HW4.out y _ HM.out).mono ?_
  rintro _ x4 ⟨⟨ga, gn, gc, rfl⟩, hb⟩
  have HA10 := Lib.hid (HA9.out.below hb)
  clear hb HA9 HM
  clear HW1 HW2 HW3 HW4
  have qi : (0 : Int) ≤ (i : Int) := by omega
  rcases X1.out with ⟨rfl, rfl, rfl, rfl, hne⟩ | ⟨rfl, rfl, rfl, h0, h350, hd⟩
  · have kne : ((i : Int) == (j : Int)) = false := by simp; omega
    clear X1 X3 X4 XT
    go_wp2_with (go_at_call 19; refine (awake_any _).mono ?_; rintro _ w9 ⟨rfl, hb⟩; have HZ := Lib.hid (HA10.out.below hb); clear hb)
    go_ret
    exact ⟨rfl, HZ.out.fr⟩
  · rcases X3.out with ⟨rfl, rfl, h31, h32, h33⟩ | ⟨rfl, h31, h32, h3, h33, h34⟩
    · clear X1 X3 X4 XT h31 h32 h33
      rcases hd with ⟨rfl, rfl⟩ | ⟨hne, hnt⟩
      · go_wp2_with (go_at_call 19; refine (awake_any _).mono ?_; rintro _ w9 ⟨rfl, hb⟩; have HZ := Lib.hid (HA10.out.below hb); clear hb)
        go_ret
        exact ⟨rfl, HZ.out.fr⟩
      · have kne : ((i : Int) == (j : Int)) = false := by simp; omega
        have knt : (t2 == 0) = false := by simp; omega
        go_wp2_with (go_at_call 19; refine (awake_any _).mono ?_; rintro _ w9 ⟨rfl, hb⟩; have HZ := Lib.hid (HA10.out.below hb); clear hb)
        go_ret
        exact ⟨rfl, HZ.out.fr⟩
    · obtain ⟨rfl, hle⟩ := XT.out rfl rfl
      have kw : IntKind.i64.wrap (t2 + t3) = t2 + t3 := IntWalk.i64_in _ (by omega)
      have kle : ¬ (t4 > t2 + t3) := by omega
      clear X1 X3 X4 XT h31 h32 h34
      rcases hd with ⟨rfl, rfl⟩ | ⟨hne, hnt⟩
      · go_wp2_with (go_at_call 19; refine (awake_any _).mono ?_; rintro _ w9 ⟨rfl, hb⟩; have HZ := Lib.hid (HA10.out.below hb); clear hb)
        go_ret
        exact ⟨rfl, HZ.out.fr⟩
      · have kne : ((i : Int) == (j : Int)) = false := by simp; omega
        have knt : (t2 == 0) = false := by simp; omega
        go_wp2_with (go_at_call 19; refine (awake_any _).mono ?_; rintro _ w9 ⟨rfl, hb⟩; have HZ := Lib.hid (HA10.out.below hb); clear hb)
        go_ret
        exact ⟨rfl, HZ.out.fr⟩
end Go.Proofs.Ytpnkgjkoophckaa
