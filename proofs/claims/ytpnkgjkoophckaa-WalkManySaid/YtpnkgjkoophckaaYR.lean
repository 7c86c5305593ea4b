/- Walk: WalkMany's walk. Printed by gen_yr.py. -/
import Derived.Test.YtpnkgjkoophckaaYQ
namespace Go.Proofs.Ytpnkgjkoophckaa
open Go.RowKit Go.Shelf Go.Maps

set_option maxRecDepth 100000 in
set_option maxHeartbeats 16000000 in
theorem walkMany_walk (x : MV) (m : Mp) (a : Int) (w : World) (h : MpLaw w x m) (ha : 0 ≤ a ∧ a ≤ 255) :
    Calls Try.prog 6 #[.agg #[.slice x.wa m.nw x.wc, .slice x.ra m.nr x.rc], .int .u8 a] w fun e w' => e = .returned (.bool true) ∧ Below w.heap.size w w' := by
  obtain ⟨a, rfl⟩ : ∃ k : Nat, a = k := ⟨a.toNat, by omega⟩
  have HMP := Lib.hid h.l
  have HRE := Lib.hid (fun W (hW : Below w.heap.size w W) => ready_any x m W (h.l.below hW) h.bw h.br)
  clear h
  obtain ⟨rb, hrb⟩ : ∃ rb, rb = readyB m := ⟨_, rfl⟩
  have HRB : Hid (rb = true → m.fault = 0) := fun h => by rw [hrb] at h; unfold readyB at h; simp only [Bool.and_eq_true, decide_eq_true_eq] at h; exact h.2
  rw [← hrb] at HRE
  clear hrb
  have HA0 : Hid (BF w (w.alloc (.cells #[.slice x.wa m.nw x.wc, .slice x.ra m.nr x.rc] 25)) [(w.heap.size, #[.slice x.wa m.nw x.wc, .slice x.ra m.nr x.rc], 25)]) := (BF.base w).alloc _ _
  go_enter Try.func6, Try.ntmps6
  go_upto_region 1 with fail
  generalize w.alloc (.cells #[.slice x.wa m.nw x.wc, .slice x.ra m.nr x.rc] 25) = w0 at *
  have c0 := HA0.out.cell (.head _) 0
  have c1 := HA0.out.cell (.head _) 1
  cases rb
  · go_wp2_with (first | (go_at_call 35; refine (HRE.out _ HA0.out.fr).mono ?_; rintro _ w1 ⟨rfl, hb⟩; have HA1 := Lib.hid (HA0.out.below hb); clear hb) | (go_at_call 19; refine (awake_any _).mono ?_; rintro _ w2 ⟨rfl, hb⟩; have HA2 := Lib.hid (HA1.out.below hb); clear hb))
    go_ret
    exact ⟨rfl, HA2.out.fr⟩
  have hf := HRB.out rfl
  have hok := okM_of hf
  have hnw := hok.nw
  have HMC := Lib.hid (fun W (hW : Below w.heap.size w W) => mapC_any x m W (HMP.out.below hW) (by omega) (by have := hok.nr; omega))
  have e7 : ((a : Int) % 7) = ((a % 7 : Nat) : Int) := rfl
  obtain ⟨q, hq⟩ : ∃ q, q = a % 7 := ⟨_, rfl⟩
  rw [← hq] at e7
  have q7 : q < 7 := by rw [hq]; exact Nat.mod_lt _ (by decide)
  clear hq HRB
  have HL1 := Lib.hid (fun (y : MV) W hW => least_pl hok hf y (k := 1 + (q : Int)) (by omega) W hW)
  have HL2 := Lib.hid (fun (y : MV) W hW => least_pl hok hf y (k := 1 + (q : Int) + 1) (by omega) W hW)
  have HL3 := Lib.hid (fun (y : MV) W hW => least_pl hok hf y (k := (m.nw : Int)) (by omega) W hW)
  have HTO := Lib.hid (fun (y : MV) (i : Nat) (hi : i < m.nw) (pa : Option Addr) W hW hz => tour_pl hok hf y pa 1 1 (fun _ => (i : Int)) (places_one hi) (by decide) W hW hz)
  have HOK := Lib.hid hok
  have w1' : IntKind.i64.wrap (1 + (q : Int)) = 1 + (q : Int) := IntWalk.i64_in _ (by omega)
  have w2' : IntKind.i64.wrap (1 + (q : Int) + 1) = 1 + (q : Int) + 1 := IntWalk.i64_in _ (by omega)
  have HT : Hid (lowL m m.nw < 1048576 → lstT m (1 + (q : Int) + 1) ≤ lstT m (1 + (q : Int)) ∧ lstT m (m.nw : Int) = lowL m m.nw ∧ lstX m = 0) := fun h => by
    unfold lstT lstX
    rw [if_neg (by omega), if_neg (by omega), if_neg (by omega), if_neg (by omega)]
    exact ⟨lst_more HOK.out (by omega) h, lst_all HOK.out h, rfl⟩
  have HTF : Hid (1048576 ≤ lowL m m.nw → lstX m = 7) := fun h => by unfold lstX; rw [if_pos h]
  clear hok hf
  generalize lstT m (1 + (q : Int) + 1) = t2 at *
  generalize lstT m (1 + (q : Int)) = t1 at *
  generalize lstT m (m.nw : Int) = t3 at *
  obtain ⟨ex, hex⟩ : ∃ ex, ex = lstX m := ⟨_, rfl⟩
  rw [← hex] at HL1 HL2 HL3 HT HTF
  clear hex
  go_wp2_with (first | (go_at_call 35; refine (HRE.out _ HA0.out.fr).mono ?_; rintro _ w1 ⟨rfl, hb⟩; have HA1 := Lib.hid (HA0.out.below hb); clear hb; have d0 := HA1.out.cell (.head _) 0; have d1 := HA1.out.cell (.head _) 1))
  rw [e7]
  go_wp2_with fail
  refine (HMC.out _ HA1.out.fr).mono ?_
  rintro _ v1 ⟨y, rfl, hm, hb⟩
  have HA2 := Lib.hid (HA1.out.below hb)
  have HM := Lib.hid hm
  clear hm hb c0 c1 d0 d1 HA0 HA1 HRE
  go_wp2_with fail
  refine (HL1.out y _ HM.out).mono ?_
  rintro _ x1 ⟨rfl, hb⟩
  have HA3 := Lib.hid (HA2.out.below hb)
  have c0 := HA3.out.cell (.head _) 0
  have c1 := HA3.out.cell (.head _) 1
  clear hb HM HA2
  go_wp2_with fail
  refine (HMC.out _ HA3.out.fr).mono ?_
  rintro _ v2 ⟨y, rfl, hm, hb⟩
  have HA4 := Lib.hid (HA3.out.below hb)
  have HM := Lib.hid hm
  clear hm hb c0 c1 HA3
  go_wp2_with fail
  refine (HL2.out y _ HM.out).mono ?_
  rintro _ x2 ⟨rfl, hb⟩
  have HA5 := Lib.hid (HA4.out.below hb)
  clear hb HM HA4
  go_upto_region 6 with fail
  have HAX : Hid (BF w x2.drew [(w.heap.size, #[.slice x.wa m.nw x.wc, .slice x.ra m.nr x.rc], 25)]) := HA5.out.below (Below.refl _ _).drew
  clear HA5
  refine wp_region_Z (S := fun X => X.cell? ⟨w.heap.size, 0, none⟩ = some (.slice x.wa m.nw x.wc) ∧ X.cell? ⟨w.heap.size, 1, none⟩ = some (.slice x.ra m.nr x.rc)) (by kernel_rfl) (⟨HAX.out.cell (.head _) 0, HAX.out.cell (.head _) 1⟩) (fun hS => ?_)
  generalize x2.drew = X at *
  refine tk [0, 2, 3, 4] ?_
  repeat (refine tkZ (oi := ⟨_, _, _, _, _, _⟩) (v := ?_) rfl (by kernel_rfl) (by rfl) (fun _ _ _ h => h) hS ?_ ?_; rotate_left; (· rintro W' ⟨z0, z1⟩; go_simp; try with_reducible rfl); try simp only [Act.put, putA, putZ, putS])
  refine tk0 ?_
  refine wpAnyZ_next (rs := [1]) (by kernel_rfl) (by simp) ?_
  refine NextZ.cons (o := ⟨some 42, _, _, _, _, _⟩) rfl (fun K hK => ?_) NextZ.nil
  go_simp
  refine (HMC.out X HAX.out.fr).mono ?_
  rintro _ X0 ⟨y0, rfl, hm0, hb0⟩
  (try go_wp2_with fail)
  have HA0 := Lib.hid (HAX.out.below hb0)
  have HM0 := Lib.hid hm0
  refine hK.out _ _ (⟨HA0.out.cell (.head _) 0, HA0.out.cell (.head _) 1⟩) (fun hS => ?_)
  clear hK K
  try simp only [Act.put, putA, putZ, putS]
  clear hb0 hm0
  refine wpAnyZ_next (rs := [5]) (by kernel_rfl) (by simp) ?_
  refine NextZ.cons (o := ⟨some 46, _, _, _, _, _⟩) rfl (fun K hK => ?_) NextZ.nil
  go_simp
  refine (HL3.out y0 _ HM0.out).mono ?_
  rintro _ X1 ⟨rfl, hb1⟩
  (try go_wp2_with fail)
  have HA1 := Lib.hid (HA0.out.below hb1)
  refine hK.out _ _ (⟨HA1.out.cell (.head _) 0, HA1.out.cell (.head _) 1⟩) (fun hS => ?_)
  clear hK K
  try simp only [Act.put, putA, putZ, putS]
  clear hb1
  refine tk [6, 7, 8, 9, 10] ?_
  repeat (refine tkZ (oi := ⟨_, _, _, _, _, _⟩) (v := ?_) rfl (by kernel_rfl) (by rfl) (fun _ _ _ h => h) hS ?_ ?_; rotate_left; (· rintro W' ⟨z0, z1⟩; go_simp; try with_reducible rfl); try simp only [Act.put, putA, putZ, putS])
  refine tk0 ?_
  refine wpAnyZ_done (by kernel_rfl) ?_ _
  have HA6 := Lib.hid (HA1.out)
  generalize X1 = w6 at *
  clear hS
  have c0 := HA6.out.cell (.head _) 0
  have c1 := HA6.out.cell (.head _) 1
  by_cases hfar : 1048576 ≤ lowL m m.nw
  · have hx : ex = 7 := HTF.out hfar
    subst hx
    go_wp2_with (go_at_call 19; refine (awake_any _).mono ?_; rintro _ w9 ⟨rfl, hb⟩; have HZ := Lib.hid (HA6.out.below hb); clear hb)
    go_ret
    exact ⟨rfl, HZ.out.fr⟩
  obtain ⟨ht12, ht3, hx⟩ := HT.out (by omega)
  subst hx ht3
  have HLF : Hid (∀ i, i < m.nw → tourX m (2 ^ i) = 0 ∧ tourT m (2 ^ i) = lgM m (2 ^ i)) := fun i hi => by
    have := lowL_ge (m := m) m.nw i hi
    unfold tourX tourT
    rw [if_neg (by omega), if_neg (by omega)]
    exact ⟨rfl, rfl⟩
  clear HT HTF HL1 HL2 HL3
  go_wp2_with fail
  go_loopw [12, 13] (fun s12 i wr => ∃ k : Nat, i = .int .i64 k ∧ k ≤ m.nw ∧ s12 = .int .i64 (lowL m k) ∧ BF w wr [(w.heap.size, #[.slice x.wa m.nw x.wc, .slice x.ra m.nr x.rc], 25)]) (fun _ i _ => m.nw - (intOf i).toNat)
  case atStart => exact ⟨0, rfl, Nat.zero_le _, rfl, HA6.out⟩
  case round =>
    clear HA6 c0 c1
    obtain ⟨k, rfl, hk, rfl, hbf⟩ := hrel
    have HA7 := Lib.hid hbf
    clear hbf
    have c0 := HA7.out.cell (.head _) 0
    have c1 := HA7.out.cell (.head _) 1
    by_cases hlt : k < m.nw
    · have HT1 := Lib.hid (fun y pa W hW hz => HTO.out y k hlt pa W hW hz)
      have HOO : Hid (orL (fun _ => (k : Int)) 1 = 2 ^ k) := orL_one k
      rw [HOO.out, (HLF.out k hlt).1, (HLF.out k hlt).2] at HT1
      have HLS : Hid (lowL m (k + 1) = if lowL m k < lgM m (2 ^ k) then lgM m (2 ^ k) else lowL m k) := rfl
      obtain ⟨low2, hlow2⟩ : ∃ q, lowL m (k + 1) = q := ⟨_, rfl⟩
      have HLE := Lib.hid hlow2
      rw [hlow2] at HLS
      clear hlow2
      generalize lgM m (2 ^ k) = lg at *
      generalize lowL m k = low at *
      have ki : (0 : Int) ≤ (k : Int) := by omega
      have kn : (k : Int) < (m.nw : Int) := by omega
      go_wp2_with fail
      refine (HMC.out _ HA7.out.fr).mono ?_
      rintro _ v2 ⟨y, rfl, hm, hb⟩
      have HA8 := Lib.hid (HA7.out.below hb)
      have HB8 := Lib.hid ((BF.base v2).alloc #[.int .i64 (k : Int)] 3)
      have HM := Lib.hid (hm.below HB8.out.fr)
      have HZ8 : Hid (IntsIn (v2.alloc (.cells #[.int .i64 (k : Int)] 3)) (.slice (some ⟨v2.heap.size, 0, none⟩) 1 1) 1 (fun _ => (k : Int))) := HB8.out.ints (n := 1) (z := fun _ => (k : Int)) (.head _) (fun j hj => by rcases j with _ | j; exact rfl; exact absurd hj (by omega)) 1
      have HA9 := Lib.hid (HA8.out.below HB8.out.fr)
      clear hm hb c0 c1 HA8 HB8 HA7
      go_wp2_with fail
      refine (HT1.out y _ _ HM.out HZ8.out).mono ?_
      rintro _ x3 ⟨⟨a1, n1, b1, a2, n2, b2, rfl⟩, hb⟩
      have HA10 := Lib.hid ((HA9.out.below hb).below (below_alloc x3 (.cells #[.slice a1 n1 b1, .slice a2 n2 b2] 30)))
      clear hb HM HZ8 HA9 HT1
      by_cases hlg : low < lg
      · have hl2 : low2 = lg := by rw [HLS.out, if_pos hlg]
        clear HLS
        subst hl2
        go_wp2_with fail
        go_roundw
        case rel => exact ⟨k + 1, by go_num, by omega, by rw [HLE.out], HA10.out⟩
        case measure => simp [intOf]; omega
      · have hl2 : low2 = low := by rw [HLS.out, if_neg hlg]
        clear HLS
        subst hl2
        go_wp2_with fail
        go_roundw
        case rel => exact ⟨k + 1, by go_num, by omega, by rw [HLE.out], HA10.out⟩
        case measure => simp [intOf]; omega
    · have hkn : k = m.nw := by omega
      have HKN := Lib.hid hkn
      rw [HKN.out]
      have kk : ¬ ((k : Int) < (m.nw : Int)) := by omega
      clear hkn hlt
      obtain ⟨lw, hlw⟩ : ∃ lw, lw = lowL m m.nw := ⟨_, rfl⟩
      rw [← hlw]
      clear hlw
      go_wp2_with (go_at_call 19; refine (awake_any _).mono ?_; rintro _ w9 ⟨rfl, hb⟩; have HZ := Lib.hid (HA7.out.below hb); clear hb)
      go_ret
      exact ⟨rfl, HZ.out.fr⟩
end Go.Proofs.Ytpnkgjkoophckaa
