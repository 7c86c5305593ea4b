/- Walk: the reference's Least. Printed by gen_zb.py. -/
import Derived.Test.YtpnkgjkoophckaaZA
namespace Go.Proofs.Ytpnkgjkoophckaa
open Go.RowKit Go.Shelf

set_option maxRecDepth 100000 in
set_option maxHeartbeats 16000000 in
theorem least_step (F : Nat → Int) (s k kk : Nat) (hkk : kk = k + 1) (hs : s < 256) (hk : k < 100000) (h0 : s ≠ 0) (w : World) (HI : ∀ q : Nat, q < 256 → ∀ W, Below w.heap.size w W → Calls Try.prog 32 #[.agg (t256 F), .int .i64 (q : Int), .int .i64 (k : Int)] W fun e w' => e = .returned (.int .i64 (lsF F k q)) ∧ Below W.heap.size W w') :
    Calls Try.prog 32 #[.agg (t256 F), .int .i64 (s : Int), .int .i64 (kk : Int)] w fun e w' => e = .returned (.int .i64 (lsF F kk s)) ∧ Below w.heap.size w w' := by
  have HIH := Lib.hid HI
  clear HI
  have HSU := Lib.hid (lsB_succ F k s)
  have HEN : Hid (lsF F kk s = lsB F k s s) := by unfold Hid; rw [hkk]; exact (lsB_end F k h0).symm
  have hl8 := lowb_8 ⟨s, hs⟩
  have hlow := bit_low ⟨s, hs⟩ (by show 0 < s; omega)
  have hf : 2 ^ lowb s < 256 := Nat.lt_of_lt_of_le (Nat.pow_lt_pow_right (by decide) hl8) (show 2 ^ 8 ≤ 256 by decide)
  have HLB := Lib.hid (fun p => low_bit p (lowb s))
  simp only at hlow
  generalize 2 ^ lowb s = f at *
  have hk1 : IntKind.i64.wrap ((kk : Int) - 1) = (k : Int) := (IntWalk.i64_in _ (by omega)).trans (by omega)
  have HK1 := Lib.hid hk1
  have kpos : (0 : Int) < (kk : Int) := by omega
  have kpos2 : 0 < kk := by omega
  have kz : ((s : Int) == 0) = false := by simp; omega
  have HAND := Lib.hid (fun a b ha hb => bit_and64 a b ha hb)
  have HA0 : Hid (BF w (w.alloc (.cells (t256 F) 58)) [(w.heap.size, t256 F, 58)]) := (BF.base w).alloc _ _
  clear hkk hk1 hl8
  go_enter Try.func32, Try.ntmps32
  go_upto_region 1 with (refine wpList_box_row (o := ⟨some 3, .box 58 (.tmp 0), _, _, _, _⟩) rfl 58 (.tmp 0) rfl (t256 F) rfl ?_)
  generalize w.alloc (.cells (t256 F) 58) = w0 at *
  go_wp2_with fail
  go_loopw [7, 9] (fun s7 i wr => ∃ p j : Nat, i = .int .i64 p ∧ Hid (p = j + 1) ∧ j ≤ s ∧ s7 = .int .i64 (lsB F k s j) ∧ BF w wr [(w.heap.size, t256 F, 58)]) (fun _ i _ => s + 1 - (intOf i).toNat)
  case atStart => exact ⟨1, 0, rfl, Lib.hid rfl, Nat.zero_le _, rfl, HA0.out⟩
  case round =>
    clear HA0
    obtain ⟨p, j, rfl, HPJ, hj, rfl, hbf⟩ := hrel
    have HA1 := Lib.hid hbf
    clear hbf
    have hpj := HPJ.out
    by_cases hlt : p ≤ s
    · have kle : (p : Int) ≤ (s : Int) := by omega
      have hp256 : p < 256 := by omega
      have hsu := HSU.out j
      rw [← hpj] at hsu
      have q1 := HAND.out p s hp256 hs
      have q2 := HAND.out p f hp256 hf
      have hlb := HLB.out p
      have hps : p &&& s = p → p ≤ s := fun h => by omega
      obtain ⟨u, hu⟩ : ∃ u, p &&& s = u := ⟨_, rfl⟩
      obtain ⟨v, hv⟩ : ∃ v, p &&& f = v := ⟨_, rfl⟩
      rw [hu] at q1 hsu
      rw [hv] at q2 hlb
      obtain ⟨bv, hbv⟩ : ∃ bv, lsB F k s j = bv := ⟨_, rfl⟩
      obtain ⟨bn, hbn⟩ : ∃ bn, lsB F k s p = bn := ⟨_, rfl⟩
      have HBS := Lib.hid hbn
      rw [hbv, hbn] at hsu
      rw [hbv]
      clear hbv hbn hu hv hps hpj
      by_cases e1 : u = p
      · have e1' := e1.symm
        subst e1'
        clear e1
        by_cases e2 : v = 0
        · subst e2
          have hbe : bn = bv := by rw [hsu, if_neg]; rintro ⟨_, h⟩; rw [hlb.1 rfl] at h; cases h
          clear hsu hlb
          subst hbe
          go_wp2_with fail
          go_roundw
          case rel => exact ⟨p + 1, p, by go_num, Lib.hid rfl, hlt, by rw [HBS.out], HA1.out⟩
          case measure => simp [intOf]; omega
        · have hvb : p.testBit (lowb s) = true := by
            cases h : p.testBit (lowb s)
            · exact absurd (hlb.2 h) e2
            · rfl
          rw [if_pos ⟨rfl, hvb⟩] at hsu
          have kv : ((v : Int) != 0) = true := by simp; omega
          have HIK := Lib.hid (HIH.out (s - p) (by omega))
          obtain ⟨fp, hfp⟩ : ∃ fp, F p = fp := ⟨_, rfl⟩
          have HFP := Lib.hid hfp
          obtain ⟨lr, hlr⟩ : ∃ lr, lsF F k (s - p) = lr := ⟨_, rfl⟩
          rw [hfp, hlr] at hsu
          rw [hlr] at HIK
          clear hfp hlr hlb hvb
          have KS : Hid (IntKind.i64.wrap ((s : Int) - (p : Int)) = ((s - p : Nat) : Int)) := (IntWalk.i64_in _ (by omega)).trans (by omega)
          have hmx : bn ≤ bv ∧ (bn = bv ∨ bn = fp ∨ bn = lr) ∧ (bn ≤ fp ∨ bn ≤ lr) ∧ (bn = bv ∨ (fp ≤ bn ∧ lr ≤ bn)) := by omega
          have HBN := Lib.hid hsu
          clear hsu hmx
          have kp0 : (0 : Int) ≤ (p : Int) := by omega
          have kp256 : (p : Int) < 256 := by omega
          go_upto_region 8 with fail
          have HAX : Hid (BF w wr.drew [(w.heap.size, t256 F, 58)]) := HA1.out.below (Below.refl _ _).drew
          clear HA1
          refine wp_region_Z (S := fun X => X.cell? ⟨w.heap.size, p, none⟩ = some (.int .i64 fp) ∧ X.rangeAt w.heap.size 0 (t256L F)) (by kernel_rfl) (⟨(HAX.out.cell (.head _) p).trans ((t256_get _ hp256).trans (by rw [HFP.out])), row_range (HAX.out.bk _ _ _ (.head _)).2⟩) (fun hS => ?_)
          generalize wr.drew = X at *
          refine tk [0, 1, 2, 3] ?_
          repeat (refine tkZ (oi := ⟨_, _, _, _, _, _⟩) (v := ?_) rfl (by kernel_rfl) (by rfl) (fun _ _ _ h => h) hS ?_ ?_; rotate_left; (· rintro W' ⟨z0, z1⟩; go_simp; try with_reducible rfl); try simp only [Act.put, putA, putZ, putS])
          refine tk0 ?_
          refine wpAnyZ_take (i := 4) (oi := ⟨some 40, _, _, _, _, _⟩) (v := .agg (t256 F)) rfl (by kernel_rfl) (by kernel_rfl) (by kernel_rfl) (fun _ _ _ h => h) (ld_tours F (by rfl) (.tmp 3) rfl w.heap.size rfl (fun _ h => h.2)) hS ?_
          try simp only [Act.put, putA, putZ, putS]
          refine tk [5, 6, 7, 8, 9] ?_
          repeat (refine tkZ (oi := ⟨_, _, _, _, _, _⟩) (v := ?_) rfl (by kernel_rfl) (by rfl) (fun _ _ _ h => h) hS ?_ ?_; rotate_left; (· rintro W' ⟨z0, z1⟩; go_simp; try with_reducible rfl); try simp only [Act.put, putA, putZ, putS])
          refine tk0 ?_
          refine wpAnyZ_next (rs := [10]) (by kernel_rfl) (by simp) ?_
          refine NextZ.cons (o := ⟨some 46, _, _, _, _, _⟩) rfl (fun K hK => ?_) NextZ.nil
          go_simp
          ((try rw [KS.out]); (try rw [HK1.out]))
          refine (HIK.out X HAX.out.fr).mono ?_
          rintro _ X0 ⟨rfl, hb0⟩
          (try go_wp2_with fail)
          have HA0 := Lib.hid (HAX.out.below hb0)
          refine hK.out _ _ (⟨(HA0.out.cell (.head _) p).trans ((t256_get _ hp256).trans (by rw [HFP.out])), row_range (HA0.out.bk _ _ _ (.head _)).2⟩) (fun hS => ?_)
          clear hK K
          try simp only [Act.put, putA, putZ, putS]
          clear hb0
          refine tZ 11 (oi := ⟨_, _, _, _, _, _⟩) (v := ?_) rfl (by kernel_rfl) (by rfl) (fun _ _ _ h => h) hS ?_ ?_
          rotate_left
          · rintro W' ⟨z0, z1⟩; go_simp; try with_reducible rfl
          try simp only [Act.put, putA, putZ, putS]
          refine tZ 12 (oi := ⟨_, _, _, _, _, _⟩) (v := .int .i64 bn) rfl (by kernel_rfl) (by rfl) (fun _ _ _ h => h) hS ?_ ?_
          · rintro W' ⟨z0, z1⟩; go_simp; (first | (with_reducible rfl) | (have hq := HBN.out; repeat' split) <;> (first | rfl | (congr 2; omega)) | (have hq := HBN.out; congr 2; omega))
          try simp only [Act.put, putA, putZ, putS]
          refine tZ 13 (oi := ⟨_, _, _, _, _, _⟩) (v := ?_) rfl (by kernel_rfl) (by rfl) (fun _ _ _ h => h) hS ?_ ?_
          rotate_left
          · rintro W' ⟨z0, z1⟩; go_simp; try with_reducible rfl
          try simp only [Act.put, putA, putZ, putS]
          refine wpAnyZ_done (by kernel_rfl) ?_ _
          go_wp2_with fail
          go_roundw
          case rel => exact ⟨p + 1, p, by go_num, Lib.hid rfl, hlt, by rw [HBS.out], HA0.out⟩
          case measure => simp [intOf]; omega
      · have hbe : bn = bv := by rw [hsu, if_neg (fun h => e1 h.1)]
        clear hsu hlb
        subst hbe
        have ku : ((u : Int) == (p : Int)) = false := by simp; omega
        go_wp2_with fail
        go_roundw
        case rel => exact ⟨p + 1, p, by go_num, Lib.hid rfl, hlt, by rw [HBS.out], HA1.out⟩
        case measure => simp [intOf]; omega
    · have hjs : j = s := by omega
      have kle : ¬ ((p : Int) ≤ (s : Int)) := by omega
      rw [hjs]
      clear hjs hpj
      go_wp2_with fail
      go_ret
      exact ⟨congrArg (fun z => Ending.returned (.int .i64 z)) HEN.out.symm, HA1.out.fr⟩
set_option maxRecDepth 100000 in
set_option maxHeartbeats 4000000 in
theorem least_nil (F : Nat → Int) (k : Nat) (w : World) :
    Calls Try.prog 32 #[.agg (t256 F), .int .i64 ((0 : Nat) : Int), .int .i64 (k : Int)] w fun e w' => e = .returned (.int .i64 (lsF F k 0)) ∧ Below w.heap.size w w' := by
  rw [lsF_zero]
  have HA0 : Hid (BF w (w.alloc (.cells (t256 F) 58)) [(w.heap.size, t256 F, 58)]) := (BF.base w).alloc _ _
  go_enter Try.func32, Try.ntmps32
  go_upto_region 1 with (refine wpList_box_row (o := ⟨some 3, .box 58 (.tmp 0), _, _, _, _⟩) rfl 58 (.tmp 0) rfl (t256 F) rfl ?_)
  generalize w.alloc (.cells (t256 F) 58) = w0 at *
  go_wp2_with fail
  go_ret
  exact ⟨rfl, HA0.out.fr⟩
set_option maxRecDepth 100000 in
set_option maxHeartbeats 4000000 in
theorem least_none (F : Nat → Int) (s : Nat) (hs : s < 256) (h0 : s ≠ 0) (w : World) :
    Calls Try.prog 32 #[.agg (t256 F), .int .i64 (s : Int), .int .i64 ((0 : Nat) : Int)] w fun e w' => e = .returned (.int .i64 (lsF F 0 s)) ∧ Below w.heap.size w w' := by
  rw [lsF_none F h0]
  have kz : ((s : Int) == 0) = false := by simp; omega
  have kle : (1 : Int) ≤ (s : Int) := by omega
  have hlow := bit_low ⟨s, hs⟩ (by show 0 < s; omega)
  simp only at hlow
  generalize 2 ^ lowb s = f at *
  have HA0 : Hid (BF w (w.alloc (.cells (t256 F) 58)) [(w.heap.size, t256 F, 58)]) := (BF.base w).alloc _ _
  go_enter Try.func32, Try.ntmps32
  go_upto_region 1 with (refine wpList_box_row (o := ⟨some 3, .box 58 (.tmp 0), _, _, _, _⟩) rfl 58 (.tmp 0) rfl (t256 F) rfl ?_)
  generalize w.alloc (.cells (t256 F) 58) = w0 at *
  go_wp2_with fail
  go_loopw [7, 9] (fun s7 i wr => i = .int .i64 1 ∧ s7 = .int .i64 1048576 ∧ BF w wr [(w.heap.size, t256 F, 58)]) (fun _ i _ => 0)
  case atStart => exact ⟨rfl, rfl, HA0.out⟩
  case round =>
    clear HA0
    obtain ⟨rfl, rfl, hbf⟩ := hrel
    have HA1 := Lib.hid hbf
    clear hbf
    go_wp2_with fail
    go_ret
    exact ⟨rfl, HA1.out.fr⟩
theorem least_any (F : Nat → Int) : ∀ (k s : Nat), s < 256 → k < 100000 → ∀ w, Calls Try.prog 32 #[.agg (t256 F), .int .i64 (s : Int), .int .i64 (k : Int)] w fun e w' => e = .returned (.int .i64 (lsF F k s)) ∧ Below w.heap.size w w'
  | 0, s, hs, hk, w => by
    by_cases h0 : s = 0
    · subst h0; exact least_nil F 0 w
    · exact least_none F s hs h0 w
  | k + 1, s, hs, hk, w => by
    by_cases h0 : s = 0
    · subst h0; exact least_nil F (k + 1) w
    · exact least_step F s k (k + 1) rfl hs (by omega) h0 w (fun q hq W _ => least_any F k q hq (by omega) W)
end Go.Proofs.Ytpnkgjkoophckaa
