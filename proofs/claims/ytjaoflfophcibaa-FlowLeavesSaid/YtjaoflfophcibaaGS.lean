/- Fault (of the reference). -/
import Derived.Test.YtjaoflfophcibaaPI
namespace Go.Proofs.Ytjaoflfophcibaa
open Go.RowKit Go.Shelf

def Tb.lensBad (t : Tb) : Bool := !(decide (2 ≤ t.ng) && decide ((t.nb : Int) = t.nc - 1) && decide (t.nr = t.ng + 1) && decide (t.nn = t.ng))
theorem fault_three {t : Tb} (h : 4 < t.nc ∨ 4 < t.ng) : t.fault = 3 := by unfold Tb.fault; rw [if_pos h]
theorem fault_one {t : Tb} (h1 : ¬ 4 < t.nc) (h2 : ¬ 4 < t.ng) (h : t.okAll = false) : t.fault = 1 := by unfold Tb.fault; rw [if_neg (by omega), h]; rfl
theorem fault_zero {t : Tb} (h1 : ¬ 4 < t.nc) (h2 : ¬ 4 < t.ng) (hl : t.lensBad = false) (ha : ∀ q, q < t.nc → t.rowOk q = true) (hb : ∀ q, q < t.nb → isCountR (t.b q) = true) (hr : ∀ q, q < t.nr → isRateR (t.r q) = true) (hn : ∀ q, q < t.nn → isNetR (t.n q) = true) : t.fault = 0 := by
  unfold Tb.lensBad at hl
  simp only [Bool.not_eq_false', Bool.and_eq_true] at hl
  unfold Tb.fault Tb.okAll
  rw [if_neg (by omega), if_pos (by rw [allB_true ha, allB_true hb, allB_true hr, allB_true hn, hl.1.1.1, hl.1.1.2, hl.1.2, hl.2]; rfl)]
theorem ok_lens {t : Tb} (h : t.lensBad = true) : t.okAll = false := by
  unfold Tb.lensBad at h
  unfold Tb.okAll
  revert h
  cases decide (2 ≤ t.ng) <;> cases decide ((t.nb : Int) = t.nc - 1) <;> cases decide (t.nr = t.ng + 1) <;> cases decide (t.nn = t.ng) <;> simp
theorem ok_row {t : Tb} {k : Nat} (hk : k < t.nc) (h : t.rowOk k = false) : t.okAll = false := by unfold Tb.okAll; rw [allB_false hk h]; simp
theorem ok_b {t : Tb} {k : Nat} (hk : k < t.nb) (h : isCountR (t.b k) = false) : t.okAll = false := by unfold Tb.okAll; rw [allB_false (p := fun j => isCountR (t.b j)) hk h]; simp
theorem ok_r {t : Tb} {k : Nat} (hk : k < t.nr) (h : isRateR (t.r k) = false) : t.okAll = false := by unfold Tb.okAll; rw [allB_false (p := fun j => isRateR (t.r j)) hk h]; simp
theorem ok_n {t : Tb} {k : Nat} (hk : k < t.nn) (h : isNetR (t.n k) = false) : t.okAll = false := by unfold Tb.okAll; rw [allB_false (p := fun j => isNetR (t.n j)) hk h]; simp
set_option maxRecDepth 100000 in
set_option maxHeartbeats 4000000 in
theorem refFault_any (x : WV) (t : Tb) (hs : t.small) (w : World) (hl : WLi w x t) :
    Calls Try.prog 63 #[.agg #[x.cv t, x.bv t, x.rv t, x.nv t]] w fun e w' => e = .returned (.int .i64 t.fault) ∧ Below w.heap.size w w' := by
  have HG : Hid (∀ X, Below w.heap.size w X → Calls Try.prog 23 #[.agg #[x.cv t, x.bv t, x.rv t, x.nv t]] X fun e w' => e = .returned (.int .i64 (t.ng : Nat)) ∧ Below X.heap.size X w') := fun X hX => rgroups_any _ t X (hl.below hX).tb hs
  have hg := hs.ng
  obtain ⟨hs1, hs2, hs3, hs4, hs5⟩ := hs
  have HS2 := Lib.hid hs2
  have HRC := Lib.hid hl.1; have HRB := Lib.hid hl.2.1; have HRR := Lib.hid hl.2.2.1; have HRN := Lib.hid hl.2.2.2
  clear hl hs2
  simp only [WV.cv, WV.bv, WV.rv, WV.nv] at HG HRC HRB HRR HRN ⊢
  obtain ⟨i0, hi0, hz0, hz1, hz2⟩ := info_parts Try.infoRangeR
  have HA0 : Hid (BF w (w.alloc (.cells #[.slice x.ca t.nc x.cc, .slice x.ba t.nb x.bc, .slice x.ra t.nr x.rc, .slice x.na t.nn x.nc] 25)) [(w.heap.size, #[.slice x.ca t.nc x.cc, .slice x.ba t.nb x.bc, .slice x.ra t.nr x.rc, .slice x.na t.nn x.nc], 25)]) := (BF.base w).alloc _ _
  have c0 := HA0.out.cell (.head _) 0; have c1 := HA0.out.cell (.head _) 1; have c2 := HA0.out.cell (.head _) 2; have c3 := HA0.out.cell (.head _) 3
  by_cases k1 : 4 < t.nc
  · have HF := Lib.hid (fault_three (t := t) (.inl k1))
    go_enter Try.func63, Try.ntmps63
    go_wp2_with fail
    go_ret
    exact ⟨ret_int (by rw [HF.out]), HA0.out.fr⟩
  by_cases k2 : 4 < t.ng
  · have HF := Lib.hid (fault_three (t := t) (.inr k2))
    go_enter Try.func63, Try.ntmps63
    go_wp2_with (go_at_call 23; refine (HG.out _ HA0.out.fr).mono ?_; rintro _ w1 ⟨rfl, hb1⟩; have HA1 := Lib.hid (HA0.out.below hb1))
    go_ret
    exact ⟨ret_int (by rw [HF.out]), HA1.out.fr⟩
  have HF1 := Lib.hid (fun h => fault_one (t := t) k1 k2 h)
  have HF0 := Lib.hid (fun h1 h2 h3 h4 h5 => fault_zero (t := t) k1 k2 h1 h2 h3 h4 h5)
  have wnc : IntKind.i64.wrap ((t.nc : Int) - 1) = (t.nc : Int) - 1 := IntWalk.i64_in _ (by omega)
  have wng : IntKind.i64.wrap ((t.ng : Int) + 1) = (t.ng : Int) + 1 := IntWalk.i64_in _ (by omega)
  go_enter Try.func63, Try.ntmps63
  go_wp2_with (go_at_call 23; refine (HG.out _ HA0.out.fr).mono ?_; rintro _ w1 ⟨rfl, hb1⟩; have HA1 := Lib.hid (HA0.out.below hb1); clear hb1)
  go_cut [46] (fun s46 wx => s46 = .bool t.lensBad ∧ BF w wx [(w.heap.size, #[.slice x.ca t.nc x.cc, .slice x.ba t.nb x.bc, .slice x.ra t.nr x.rc, .slice x.na t.nn x.nc], 25)])
  case first =>
    have HAX : Hid (BF w w1.drew [(w.heap.size, #[.slice x.ca t.nc x.cc, .slice x.ba t.nb x.bc, .slice x.ra t.nr x.rc, .slice x.na t.nn x.nc], 25)]) := HA1.out.below ((Below.refl _ _).drew)
    refine wp_region_held_drew (S := fun X => X.cell? ⟨w.heap.size, 0, none⟩ = some (.slice x.ca t.nc x.cc) ∧ X.cell? ⟨w.heap.size, 1, none⟩ = some (.slice x.ba t.nb x.bc) ∧ X.cell? ⟨w.heap.size, 2, none⟩ = some (.slice x.ra t.nr x.rc) ∧ X.cell? ⟨w.heap.size, 3, none⟩ = some (.slice x.na t.nn x.nc)) (by kernel_rfl) (⟨HAX.out.cell (.head _) 0, HAX.out.cell (.head _) 1, HAX.out.cell (.head _) 2, HAX.out.cell (.head _) 3⟩) (fun hS => ?_)
    clear HA1 HA0 c0 c1 c2 c3
    generalize w1.drew = X at *
    by_cases k3 : t.ng < 2
    · have HBD : Hid (t.lensBad = true) := by unfold Hid Tb.lensBad; rw [decide_eq_false (by omega : ¬ 2 ≤ t.ng)]; rfl
      refine tH 0 (oi := ⟨_, _, _, _, _, _⟩) (v := ?_) rfl (by kernel_rfl) (by rfl) (fun _ _ _ h => h) hS ?_ ?_
      rotate_left
      · rintro W' ⟨z0, z1, z2, z3⟩; go_simp; try with_reducible rfl
      try simp only [Act.put, putA, putZ, putS]
      refine wpAnyH_ready (rs := [1]) (by kernel_rfl) (by simp) ?_
      refine AllReadyH.cons (o := ⟨some 18, _, _, _, _, _⟩) rfl (fun K hK => ?_) AllReadyH.nil
      go_simp
      refine (HG.out X HAX.out.fr).mono ?_
      rintro _ X0 ⟨rfl, hb0⟩
      (try go_wp2_with fail)
      have HA0 := Lib.hid (HAX.out.below hb0)
      refine hK.out _ _ (⟨HA0.out.cell (.head _) 0, HA0.out.cell (.head _) 1, HA0.out.cell (.head _) 2, HA0.out.cell (.head _) 3⟩) (fun hS => ?_)
      clear hK K
      try simp only [Act.put, putA, putZ, putS]
      clear hb0
      refine tH 2 (oi := ⟨_, _, _, _, _, _⟩) (v := .bool true) rfl (by kernel_rfl) (by rfl) (fun _ _ _ h => h) hS ?_ ?_
      · rintro W' ⟨z0, z1, z2, z3⟩; go_simp; omega
      try simp only [Act.put, putA, putZ, putS]
      refine tH 3 (oi := ⟨_, _, _, _, _, _⟩) (v := ?_) rfl (by kernel_rfl) (by rfl) (fun _ _ _ h => h) hS ?_ ?_
      rotate_left
      · rintro W' ⟨z0, z1, z2, z3⟩; go_simp; try with_reducible rfl
      try simp only [Act.put, putA, putZ, putS]
      refine wpAnyH_take (i := 4) (oi := ⟨some 21, _, _, _, _, _⟩) (v := undef) rfl (by kernel_rfl) (by kernel_rfl) (by kernel_rfl) (fun _ _ _ h => h) (Or.inr ⟨by rfl, rfl⟩) hS ?_
      try simp only [Act.put, putA, putZ, putS]
      refine wpAnyH_take (i := 5) (oi := ⟨some 22, _, _, _, _, _⟩) (v := undef) rfl (by kernel_rfl) (by kernel_rfl) (by kernel_rfl) (fun _ _ _ h => h) (Or.inr ⟨by rfl, rfl⟩) hS ?_
      try simp only [Act.put, putA, putZ, putS]
      refine wpAnyH_take (i := 6) (oi := ⟨some 23, _, _, _, _, _⟩) (v := undef) rfl (by kernel_rfl) (by kernel_rfl) (by kernel_rfl) (fun _ _ _ h => h) (Or.inr ⟨by rfl, rfl⟩) hS ?_
      try simp only [Act.put, putA, putZ, putS]
      refine wpAnyH_take (i := 7) (oi := ⟨some 24, _, _, _, _, _⟩) (v := undef) rfl (by kernel_rfl) (by kernel_rfl) (by kernel_rfl) (fun _ _ _ h => h) (Or.inr ⟨by rfl, rfl⟩) hS ?_
      try simp only [Act.put, putA, putZ, putS]
      refine wpAnyH_take (i := 8) (oi := ⟨some 25, _, _, _, _, _⟩) (v := undef) rfl (by kernel_rfl) (by kernel_rfl) (by kernel_rfl) (fun _ _ _ h => h) (Or.inr ⟨by rfl, rfl⟩) hS ?_
      try simp only [Act.put, putA, putZ, putS]
      refine wpAnyH_take (i := 9) (oi := ⟨some 26, _, _, _, _, _⟩) (v := undef) rfl (by kernel_rfl) (by kernel_rfl) (by kernel_rfl) (fun _ _ _ h => h) (Or.inr ⟨by rfl, rfl⟩) hS ?_
      try simp only [Act.put, putA, putZ, putS]
      refine wpAnyH_take (i := 10) (oi := ⟨some 27, _, _, _, _, _⟩) (v := undef) rfl (by kernel_rfl) (by kernel_rfl) (by kernel_rfl) (fun _ _ _ h => h) (Or.inr ⟨by rfl, rfl⟩) hS ?_
      try simp only [Act.put, putA, putZ, putS]
      refine wpAnyH_take (i := 11) (oi := ⟨some 28, _, _, _, _, _⟩) (v := undef) rfl (by kernel_rfl) (by kernel_rfl) (by kernel_rfl) (fun _ _ _ h => h) (Or.inr ⟨by rfl, rfl⟩) hS ?_
      try simp only [Act.put, putA, putZ, putS]
      refine tk [12, 13] ?_
      repeat (refine tkH (oi := ⟨_, _, _, _, _, _⟩) (v := ?_) rfl (by kernel_rfl) (by rfl) (fun _ _ _ h => h) hS ?_ ?_; rotate_left; (· rintro W' ⟨z0, z1, z2, z3⟩; go_simp; try with_reducible rfl); try simp only [Act.put, putA, putZ, putS])
      refine tk0 ?_
      refine wpAnyH_take (i := 14) (oi := ⟨some 31, _, _, _, _, _⟩) (v := undef) rfl (by kernel_rfl) (by kernel_rfl) (by kernel_rfl) (fun _ _ _ h => h) (Or.inr ⟨by rfl, rfl⟩) hS ?_
      try simp only [Act.put, putA, putZ, putS]
      refine wpAnyH_take (i := 15) (oi := ⟨some 32, _, _, _, _, _⟩) (v := undef) rfl (by kernel_rfl) (by kernel_rfl) (by kernel_rfl) (fun _ _ _ h => h) (Or.inr ⟨by rfl, rfl⟩) hS ?_
      try simp only [Act.put, putA, putZ, putS]
      refine wpAnyH_take (i := 16) (oi := ⟨some 33, _, _, _, _, _⟩) (v := undef) rfl (by kernel_rfl) (by kernel_rfl) (by kernel_rfl) (fun _ _ _ h => h) (Or.inr ⟨by rfl, rfl⟩) hS ?_
      try simp only [Act.put, putA, putZ, putS]
      refine wpAnyH_take (i := 17) (oi := ⟨some 34, _, _, _, _, _⟩) (v := undef) rfl (by kernel_rfl) (by kernel_rfl) (by kernel_rfl) (fun _ _ _ h => h) (Or.inr ⟨by rfl, rfl⟩) hS ?_
      try simp only [Act.put, putA, putZ, putS]
      refine wpAnyH_take (i := 18) (oi := ⟨some 35, _, _, _, _, _⟩) (v := undef) rfl (by kernel_rfl) (by kernel_rfl) (by kernel_rfl) (fun _ _ _ h => h) (Or.inr ⟨by rfl, rfl⟩) hS ?_
      try simp only [Act.put, putA, putZ, putS]
      refine wpAnyH_take (i := 19) (oi := ⟨some 36, _, _, _, _, _⟩) (v := undef) rfl (by kernel_rfl) (by kernel_rfl) (by kernel_rfl) (fun _ _ _ h => h) (Or.inr ⟨by rfl, rfl⟩) hS ?_
      try simp only [Act.put, putA, putZ, putS]
      refine wpAnyH_take (i := 20) (oi := ⟨some 37, _, _, _, _, _⟩) (v := undef) rfl (by kernel_rfl) (by kernel_rfl) (by kernel_rfl) (fun _ _ _ h => h) (Or.inr ⟨by rfl, rfl⟩) hS ?_
      try simp only [Act.put, putA, putZ, putS]
      refine tk [21, 22] ?_
      repeat (refine tkH (oi := ⟨_, _, _, _, _, _⟩) (v := ?_) rfl (by kernel_rfl) (by rfl) (fun _ _ _ h => h) hS ?_ ?_; rotate_left; (· rintro W' ⟨z0, z1, z2, z3⟩; go_simp; try with_reducible rfl); try simp only [Act.put, putA, putZ, putS])
      refine tk0 ?_
      refine wpAnyH_take (i := 23) (oi := ⟨some 40, _, _, _, _, _⟩) (v := undef) rfl (by kernel_rfl) (by kernel_rfl) (by kernel_rfl) (fun _ _ _ h => h) (Or.inr ⟨by rfl, rfl⟩) hS ?_
      try simp only [Act.put, putA, putZ, putS]
      refine wpAnyH_take (i := 24) (oi := ⟨some 41, _, _, _, _, _⟩) (v := undef) rfl (by kernel_rfl) (by kernel_rfl) (by kernel_rfl) (fun _ _ _ h => h) (Or.inr ⟨by rfl, rfl⟩) hS ?_
      try simp only [Act.put, putA, putZ, putS]
      refine wpAnyH_take (i := 25) (oi := ⟨some 42, _, _, _, _, _⟩) (v := undef) rfl (by kernel_rfl) (by kernel_rfl) (by kernel_rfl) (fun _ _ _ h => h) (Or.inr ⟨by rfl, rfl⟩) hS ?_
      try simp only [Act.put, putA, putZ, putS]
      refine wpAnyH_take (i := 26) (oi := ⟨some 43, _, _, _, _, _⟩) (v := undef) rfl (by kernel_rfl) (by kernel_rfl) (by kernel_rfl) (fun _ _ _ h => h) (Or.inr ⟨by rfl, rfl⟩) hS ?_
      try simp only [Act.put, putA, putZ, putS]
      refine wpAnyH_take (i := 27) (oi := ⟨some 44, _, _, _, _, _⟩) (v := undef) rfl (by kernel_rfl) (by kernel_rfl) (by kernel_rfl) (fun _ _ _ h => h) (Or.inr ⟨by rfl, rfl⟩) hS ?_
      try simp only [Act.put, putA, putZ, putS]
      refine wpAnyH_take (i := 28) (oi := ⟨some 45, _, _, _, _, _⟩) (v := undef) rfl (by kernel_rfl) (by kernel_rfl) (by kernel_rfl) (fun _ _ _ h => h) (Or.inr ⟨by rfl, rfl⟩) hS ?_
      try simp only [Act.put, putA, putZ, putS]
      refine tH 29 (oi := ⟨_, _, _, _, _, _⟩) (v := ?_) rfl (by kernel_rfl) (by rfl) (fun _ _ _ h => h) hS ?_ ?_
      rotate_left
      · rintro W' ⟨z0, z1, z2, z3⟩; go_simp; try with_reducible rfl
      try simp only [Act.put, putA, putZ, putS]
      refine wpAnyH_done (by kernel_rfl) ?_ _
      go_wp2_with fail
      go_meet
      exact ⟨by rw [HBD.out], HA0.out⟩
    by_cases k4 : (t.nb : Int) = t.nc - 1
    · have k4n : ((t.nb : Int) != (t.nc : Int) - 1) = false := by simp [k4]
      have K4 := Lib.hid k4
      clear k4
      by_cases k5 : t.nr = t.ng + 1
      · have k5n : ((t.nr : Int) != (t.ng : Int) + 1) = false := by simp [k5]
        have K5 := Lib.hid k5
        clear k5
        by_cases k6 : t.nn = t.ng
        · have k6n : ((t.nn : Int) != (t.ng : Int)) = false := by simp [k6]
          have HBD : Hid (t.lensBad = false) := by unfold Hid Tb.lensBad; rw [decide_eq_true (by omega : 2 ≤ t.ng), decide_eq_true K4.out, decide_eq_true K5.out, decide_eq_true k6]; rfl
          clear k6
          refine tH 0 (oi := ⟨_, _, _, _, _, _⟩) (v := ?_) rfl (by kernel_rfl) (by rfl) (fun _ _ _ h => h) hS ?_ ?_
          rotate_left
          · rintro W' ⟨z0, z1, z2, z3⟩; go_simp; try with_reducible rfl
          try simp only [Act.put, putA, putZ, putS]
          refine wpAnyH_ready (rs := [1]) (by kernel_rfl) (by simp) ?_
          refine AllReadyH.cons (o := ⟨some 18, _, _, _, _, _⟩) rfl (fun K hK => ?_) AllReadyH.nil
          go_simp
          refine (HG.out X HAX.out.fr).mono ?_
          rintro _ X0 ⟨rfl, hb0⟩
          (try go_wp2_with fail)
          have HA0 := Lib.hid (HAX.out.below hb0)
          refine hK.out _ _ (⟨HA0.out.cell (.head _) 0, HA0.out.cell (.head _) 1, HA0.out.cell (.head _) 2, HA0.out.cell (.head _) 3⟩) (fun hS => ?_)
          clear hK K
          try simp only [Act.put, putA, putZ, putS]
          clear hb0
          refine tH 2 (oi := ⟨_, _, _, _, _, _⟩) (v := .bool false) rfl (by kernel_rfl) (by rfl) (fun _ _ _ h => h) hS ?_ ?_
          · rintro W' ⟨z0, z1, z2, z3⟩; go_simp; omega
          try simp only [Act.put, putA, putZ, putS]
          refine tk [3, 4, 5, 6, 7, 8, 9, 10, 11, 12, 13, 14, 15, 16, 17] ?_
          repeat (refine tkH (oi := ⟨_, _, _, _, _, _⟩) (v := ?_) rfl (by kernel_rfl) (by rfl) (fun _ _ _ h => h) hS ?_ ?_; rotate_left; (· rintro W' ⟨z0, z1, z2, z3⟩; go_simp; try with_reducible rfl); try simp only [Act.put, putA, putZ, putS])
          refine tk0 ?_
          refine wpAnyH_ready (rs := [18]) (by kernel_rfl) (by simp) ?_
          refine AllReadyH.cons (o := ⟨some 35, _, _, _, _, _⟩) rfl (fun K hK => ?_) AllReadyH.nil
          go_simp
          refine (HG.out X0 HA0.out.fr).mono ?_
          rintro _ X1 ⟨rfl, hb1⟩
          (try go_wp2_with fail)
          have HA1 := Lib.hid (HA0.out.below hb1)
          refine hK.out _ _ (⟨HA1.out.cell (.head _) 0, HA1.out.cell (.head _) 1, HA1.out.cell (.head _) 2, HA1.out.cell (.head _) 3⟩) (fun hS => ?_)
          clear hK K
          try simp only [Act.put, putA, putZ, putS]
          clear hb1
          refine tk [19, 20, 21, 22, 23, 24, 25, 26] ?_
          repeat (refine tkH (oi := ⟨_, _, _, _, _, _⟩) (v := ?_) rfl (by kernel_rfl) (by rfl) (fun _ _ _ h => h) hS ?_ ?_; rotate_left; (· rintro W' ⟨z0, z1, z2, z3⟩; go_simp; try with_reducible rfl); try simp only [Act.put, putA, putZ, putS])
          refine tk0 ?_
          refine wpAnyH_ready (rs := [27]) (by kernel_rfl) (by simp) ?_
          refine AllReadyH.cons (o := ⟨some 44, _, _, _, _, _⟩) rfl (fun K hK => ?_) AllReadyH.nil
          go_simp
          refine (HG.out X1 HA1.out.fr).mono ?_
          rintro _ X2 ⟨rfl, hb2⟩
          (try go_wp2_with fail)
          have HA2 := Lib.hid (HA1.out.below hb2)
          refine hK.out _ _ (⟨HA2.out.cell (.head _) 0, HA2.out.cell (.head _) 1, HA2.out.cell (.head _) 2, HA2.out.cell (.head _) 3⟩) (fun hS => ?_)
          clear hK K
          try simp only [Act.put, putA, putZ, putS]
          clear hb2
          refine tk [28, 29] ?_
          repeat (refine tkH (oi := ⟨_, _, _, _, _, _⟩) (v := ?_) rfl (by kernel_rfl) (by rfl) (fun _ _ _ h => h) hS ?_ ?_; rotate_left; (· rintro W' ⟨z0, z1, z2, z3⟩; go_simp; try with_reducible rfl); try simp only [Act.put, putA, putZ, putS])
          refine tk0 ?_
          refine wpAnyH_done (by kernel_rfl) ?_ _
          go_wp2_with fail
          go_meet
          exact ⟨by rw [HBD.out], HA2.out⟩
        · have k6n : ((t.nn : Int) != (t.ng : Int)) = true := by simp; omega
          have HBD : Hid (t.lensBad = true) := by unfold Hid Tb.lensBad; rw [decide_eq_false k6]; simp
          clear k6
          refine tH 0 (oi := ⟨_, _, _, _, _, _⟩) (v := ?_) rfl (by kernel_rfl) (by rfl) (fun _ _ _ h => h) hS ?_ ?_
          rotate_left
          · rintro W' ⟨z0, z1, z2, z3⟩; go_simp; try with_reducible rfl
          try simp only [Act.put, putA, putZ, putS]
          refine wpAnyH_ready (rs := [1]) (by kernel_rfl) (by simp) ?_
          refine AllReadyH.cons (o := ⟨some 18, _, _, _, _, _⟩) rfl (fun K hK => ?_) AllReadyH.nil
          go_simp
          refine (HG.out X HAX.out.fr).mono ?_
          rintro _ X3 ⟨rfl, hb3⟩
          (try go_wp2_with fail)
          have HA3 := Lib.hid (HAX.out.below hb3)
          refine hK.out _ _ (⟨HA3.out.cell (.head _) 0, HA3.out.cell (.head _) 1, HA3.out.cell (.head _) 2, HA3.out.cell (.head _) 3⟩) (fun hS => ?_)
          clear hK K
          try simp only [Act.put, putA, putZ, putS]
          clear hb3
          refine tH 2 (oi := ⟨_, _, _, _, _, _⟩) (v := .bool false) rfl (by kernel_rfl) (by rfl) (fun _ _ _ h => h) hS ?_ ?_
          · rintro W' ⟨z0, z1, z2, z3⟩; go_simp; omega
          try simp only [Act.put, putA, putZ, putS]
          refine tk [3, 4, 5, 6, 7, 8, 9, 10, 11, 12, 13, 14, 15, 16, 17] ?_
          repeat (refine tkH (oi := ⟨_, _, _, _, _, _⟩) (v := ?_) rfl (by kernel_rfl) (by rfl) (fun _ _ _ h => h) hS ?_ ?_; rotate_left; (· rintro W' ⟨z0, z1, z2, z3⟩; go_simp; try with_reducible rfl); try simp only [Act.put, putA, putZ, putS])
          refine tk0 ?_
          refine wpAnyH_ready (rs := [18]) (by kernel_rfl) (by simp) ?_
          refine AllReadyH.cons (o := ⟨some 35, _, _, _, _, _⟩) rfl (fun K hK => ?_) AllReadyH.nil
          go_simp
          refine (HG.out X3 HA3.out.fr).mono ?_
          rintro _ X4 ⟨rfl, hb4⟩
          (try go_wp2_with fail)
          have HA4 := Lib.hid (HA3.out.below hb4)
          refine hK.out _ _ (⟨HA4.out.cell (.head _) 0, HA4.out.cell (.head _) 1, HA4.out.cell (.head _) 2, HA4.out.cell (.head _) 3⟩) (fun hS => ?_)
          clear hK K
          try simp only [Act.put, putA, putZ, putS]
          clear hb4
          refine tk [19, 20, 21, 22, 23, 24, 25, 26] ?_
          repeat (refine tkH (oi := ⟨_, _, _, _, _, _⟩) (v := ?_) rfl (by kernel_rfl) (by rfl) (fun _ _ _ h => h) hS ?_ ?_; rotate_left; (· rintro W' ⟨z0, z1, z2, z3⟩; go_simp; try with_reducible rfl); try simp only [Act.put, putA, putZ, putS])
          refine tk0 ?_
          refine wpAnyH_ready (rs := [27]) (by kernel_rfl) (by simp) ?_
          refine AllReadyH.cons (o := ⟨some 44, _, _, _, _, _⟩) rfl (fun K hK => ?_) AllReadyH.nil
          go_simp
          refine (HG.out X4 HA4.out.fr).mono ?_
          rintro _ X5 ⟨rfl, hb5⟩
          (try go_wp2_with fail)
          have HA5 := Lib.hid (HA4.out.below hb5)
          refine hK.out _ _ (⟨HA5.out.cell (.head _) 0, HA5.out.cell (.head _) 1, HA5.out.cell (.head _) 2, HA5.out.cell (.head _) 3⟩) (fun hS => ?_)
          clear hK K
          try simp only [Act.put, putA, putZ, putS]
          clear hb5
          refine tk [28, 29] ?_
          repeat (refine tkH (oi := ⟨_, _, _, _, _, _⟩) (v := ?_) rfl (by kernel_rfl) (by rfl) (fun _ _ _ h => h) hS ?_ ?_; rotate_left; (· rintro W' ⟨z0, z1, z2, z3⟩; go_simp; try with_reducible rfl); try simp only [Act.put, putA, putZ, putS])
          refine tk0 ?_
          refine wpAnyH_done (by kernel_rfl) ?_ _
          go_wp2_with fail
          go_meet
          exact ⟨by rw [HBD.out], HA5.out⟩
      · have k5n : ((t.nr : Int) != (t.ng : Int) + 1) = true := by simp; omega
        have HBD : Hid (t.lensBad = true) := by unfold Hid Tb.lensBad; rw [decide_eq_false k5]; simp
        clear k5
        refine tH 0 (oi := ⟨_, _, _, _, _, _⟩) (v := ?_) rfl (by kernel_rfl) (by rfl) (fun _ _ _ h => h) hS ?_ ?_
        rotate_left
        · rintro W' ⟨z0, z1, z2, z3⟩; go_simp; try with_reducible rfl
        try simp only [Act.put, putA, putZ, putS]
        refine wpAnyH_ready (rs := [1]) (by kernel_rfl) (by simp) ?_
        refine AllReadyH.cons (o := ⟨some 18, _, _, _, _, _⟩) rfl (fun K hK => ?_) AllReadyH.nil
        go_simp
        refine (HG.out X HAX.out.fr).mono ?_
        rintro _ X0 ⟨rfl, hb0⟩
        (try go_wp2_with fail)
        have HA0 := Lib.hid (HAX.out.below hb0)
        refine hK.out _ _ (⟨HA0.out.cell (.head _) 0, HA0.out.cell (.head _) 1, HA0.out.cell (.head _) 2, HA0.out.cell (.head _) 3⟩) (fun hS => ?_)
        clear hK K
        try simp only [Act.put, putA, putZ, putS]
        clear hb0
        refine tH 2 (oi := ⟨_, _, _, _, _, _⟩) (v := .bool false) rfl (by kernel_rfl) (by rfl) (fun _ _ _ h => h) hS ?_ ?_
        · rintro W' ⟨z0, z1, z2, z3⟩; go_simp; omega
        try simp only [Act.put, putA, putZ, putS]
        refine tk [3, 4, 5, 6, 7, 8, 9, 10, 11, 12, 13, 14, 15, 16, 17] ?_
        repeat (refine tkH (oi := ⟨_, _, _, _, _, _⟩) (v := ?_) rfl (by kernel_rfl) (by rfl) (fun _ _ _ h => h) hS ?_ ?_; rotate_left; (· rintro W' ⟨z0, z1, z2, z3⟩; go_simp; try with_reducible rfl); try simp only [Act.put, putA, putZ, putS])
        refine tk0 ?_
        refine wpAnyH_ready (rs := [18]) (by kernel_rfl) (by simp) ?_
        refine AllReadyH.cons (o := ⟨some 35, _, _, _, _, _⟩) rfl (fun K hK => ?_) AllReadyH.nil
        go_simp
        refine (HG.out X0 HA0.out.fr).mono ?_
        rintro _ X1 ⟨rfl, hb1⟩
        (try go_wp2_with fail)
        have HA1 := Lib.hid (HA0.out.below hb1)
        refine hK.out _ _ (⟨HA1.out.cell (.head _) 0, HA1.out.cell (.head _) 1, HA1.out.cell (.head _) 2, HA1.out.cell (.head _) 3⟩) (fun hS => ?_)
        clear hK K
        try simp only [Act.put, putA, putZ, putS]
        clear hb1
        refine tk [19, 20, 21, 22] ?_
        repeat (refine tkH (oi := ⟨_, _, _, _, _, _⟩) (v := ?_) rfl (by kernel_rfl) (by rfl) (fun _ _ _ h => h) hS ?_ ?_; rotate_left; (· rintro W' ⟨z0, z1, z2, z3⟩; go_simp; try with_reducible rfl); try simp only [Act.put, putA, putZ, putS])
        refine tk0 ?_
        refine wpAnyH_take (i := 23) (oi := ⟨some 40, _, _, _, _, _⟩) (v := undef) rfl (by kernel_rfl) (by kernel_rfl) (by kernel_rfl) (fun _ _ _ h => h) (Or.inr ⟨by rfl, rfl⟩) hS ?_
        try simp only [Act.put, putA, putZ, putS]
        refine wpAnyH_take (i := 24) (oi := ⟨some 41, _, _, _, _, _⟩) (v := undef) rfl (by kernel_rfl) (by kernel_rfl) (by kernel_rfl) (fun _ _ _ h => h) (Or.inr ⟨by rfl, rfl⟩) hS ?_
        try simp only [Act.put, putA, putZ, putS]
        refine wpAnyH_take (i := 25) (oi := ⟨some 42, _, _, _, _, _⟩) (v := undef) rfl (by kernel_rfl) (by kernel_rfl) (by kernel_rfl) (fun _ _ _ h => h) (Or.inr ⟨by rfl, rfl⟩) hS ?_
        try simp only [Act.put, putA, putZ, putS]
        refine wpAnyH_take (i := 26) (oi := ⟨some 43, _, _, _, _, _⟩) (v := undef) rfl (by kernel_rfl) (by kernel_rfl) (by kernel_rfl) (fun _ _ _ h => h) (Or.inr ⟨by rfl, rfl⟩) hS ?_
        try simp only [Act.put, putA, putZ, putS]
        refine wpAnyH_take (i := 27) (oi := ⟨some 44, _, _, _, _, _⟩) (v := undef) rfl (by kernel_rfl) (by kernel_rfl) (by kernel_rfl) (fun _ _ _ h => h) (Or.inr ⟨by rfl, rfl⟩) hS ?_
        try simp only [Act.put, putA, putZ, putS]
        refine wpAnyH_take (i := 28) (oi := ⟨some 45, _, _, _, _, _⟩) (v := undef) rfl (by kernel_rfl) (by kernel_rfl) (by kernel_rfl) (fun _ _ _ h => h) (Or.inr ⟨by rfl, rfl⟩) hS ?_
        try simp only [Act.put, putA, putZ, putS]
        refine tH 29 (oi := ⟨_, _, _, _, _, _⟩) (v := ?_) rfl (by kernel_rfl) (by rfl) (fun _ _ _ h => h) hS ?_ ?_
        rotate_left
        · rintro W' ⟨z0, z1, z2, z3⟩; go_simp; try with_reducible rfl
        try simp only [Act.put, putA, putZ, putS]
        refine wpAnyH_done (by kernel_rfl) ?_ _
        go_wp2_with fail
        go_meet
        exact ⟨by rw [HBD.out], HA1.out⟩
    · have k4n : ((t.nb : Int) != (t.nc : Int) - 1) = true := by simp; omega
      have HBD : Hid (t.lensBad = true) := by unfold Hid Tb.lensBad; rw [decide_eq_false k4]; simp
      clear k4
      refine tH 0 (oi := ⟨_, _, _, _, _, _⟩) (v := ?_) rfl (by kernel_rfl) (by rfl) (fun _ _ _ h => h) hS ?_ ?_
      rotate_left
      · rintro W' ⟨z0, z1, z2, z3⟩; go_simp; try with_reducible rfl
      try simp only [Act.put, putA, putZ, putS]
      refine wpAnyH_ready (rs := [1]) (by kernel_rfl) (by simp) ?_
      refine AllReadyH.cons (o := ⟨some 18, _, _, _, _, _⟩) rfl (fun K hK => ?_) AllReadyH.nil
      go_simp
      refine (HG.out X HAX.out.fr).mono ?_
      rintro _ X0 ⟨rfl, hb0⟩
      (try go_wp2_with fail)
      have HA0 := Lib.hid (HAX.out.below hb0)
      refine hK.out _ _ (⟨HA0.out.cell (.head _) 0, HA0.out.cell (.head _) 1, HA0.out.cell (.head _) 2, HA0.out.cell (.head _) 3⟩) (fun hS => ?_)
      clear hK K
      try simp only [Act.put, putA, putZ, putS]
      clear hb0
      refine tH 2 (oi := ⟨_, _, _, _, _, _⟩) (v := .bool false) rfl (by kernel_rfl) (by rfl) (fun _ _ _ h => h) hS ?_ ?_
      · rintro W' ⟨z0, z1, z2, z3⟩; go_simp; omega
      try simp only [Act.put, putA, putZ, putS]
      refine tk [3, 4, 5, 6, 7, 8, 9, 10, 11, 12, 13] ?_
      repeat (refine tkH (oi := ⟨_, _, _, _, _, _⟩) (v := ?_) rfl (by kernel_rfl) (by rfl) (fun _ _ _ h => h) hS ?_ ?_; rotate_left; (· rintro W' ⟨z0, z1, z2, z3⟩; go_simp; try with_reducible rfl); try simp only [Act.put, putA, putZ, putS])
      refine tk0 ?_
      refine wpAnyH_take (i := 14) (oi := ⟨some 31, _, _, _, _, _⟩) (v := undef) rfl (by kernel_rfl) (by kernel_rfl) (by kernel_rfl) (fun _ _ _ h => h) (Or.inr ⟨by rfl, rfl⟩) hS ?_
      try simp only [Act.put, putA, putZ, putS]
      refine wpAnyH_take (i := 15) (oi := ⟨some 32, _, _, _, _, _⟩) (v := undef) rfl (by kernel_rfl) (by kernel_rfl) (by kernel_rfl) (fun _ _ _ h => h) (Or.inr ⟨by rfl, rfl⟩) hS ?_
      try simp only [Act.put, putA, putZ, putS]
      refine wpAnyH_take (i := 16) (oi := ⟨some 33, _, _, _, _, _⟩) (v := undef) rfl (by kernel_rfl) (by kernel_rfl) (by kernel_rfl) (fun _ _ _ h => h) (Or.inr ⟨by rfl, rfl⟩) hS ?_
      try simp only [Act.put, putA, putZ, putS]
      refine wpAnyH_take (i := 17) (oi := ⟨some 34, _, _, _, _, _⟩) (v := undef) rfl (by kernel_rfl) (by kernel_rfl) (by kernel_rfl) (fun _ _ _ h => h) (Or.inr ⟨by rfl, rfl⟩) hS ?_
      try simp only [Act.put, putA, putZ, putS]
      refine wpAnyH_take (i := 18) (oi := ⟨some 35, _, _, _, _, _⟩) (v := undef) rfl (by kernel_rfl) (by kernel_rfl) (by kernel_rfl) (fun _ _ _ h => h) (Or.inr ⟨by rfl, rfl⟩) hS ?_
      try simp only [Act.put, putA, putZ, putS]
      refine wpAnyH_take (i := 19) (oi := ⟨some 36, _, _, _, _, _⟩) (v := undef) rfl (by kernel_rfl) (by kernel_rfl) (by kernel_rfl) (fun _ _ _ h => h) (Or.inr ⟨by rfl, rfl⟩) hS ?_
      try simp only [Act.put, putA, putZ, putS]
      refine wpAnyH_take (i := 20) (oi := ⟨some 37, _, _, _, _, _⟩) (v := undef) rfl (by kernel_rfl) (by kernel_rfl) (by kernel_rfl) (fun _ _ _ h => h) (Or.inr ⟨by rfl, rfl⟩) hS ?_
      try simp only [Act.put, putA, putZ, putS]
      refine tk [21, 22] ?_
      repeat (refine tkH (oi := ⟨_, _, _, _, _, _⟩) (v := ?_) rfl (by kernel_rfl) (by rfl) (fun _ _ _ h => h) hS ?_ ?_; rotate_left; (· rintro W' ⟨z0, z1, z2, z3⟩; go_simp; try with_reducible rfl); try simp only [Act.put, putA, putZ, putS])
      refine tk0 ?_
      refine wpAnyH_take (i := 23) (oi := ⟨some 40, _, _, _, _, _⟩) (v := undef) rfl (by kernel_rfl) (by kernel_rfl) (by kernel_rfl) (fun _ _ _ h => h) (Or.inr ⟨by rfl, rfl⟩) hS ?_
      try simp only [Act.put, putA, putZ, putS]
      refine wpAnyH_take (i := 24) (oi := ⟨some 41, _, _, _, _, _⟩) (v := undef) rfl (by kernel_rfl) (by kernel_rfl) (by kernel_rfl) (fun _ _ _ h => h) (Or.inr ⟨by rfl, rfl⟩) hS ?_
      try simp only [Act.put, putA, putZ, putS]
      refine wpAnyH_take (i := 25) (oi := ⟨some 42, _, _, _, _, _⟩) (v := undef) rfl (by kernel_rfl) (by kernel_rfl) (by kernel_rfl) (fun _ _ _ h => h) (Or.inr ⟨by rfl, rfl⟩) hS ?_
      try simp only [Act.put, putA, putZ, putS]
      refine wpAnyH_take (i := 26) (oi := ⟨some 43, _, _, _, _, _⟩) (v := undef) rfl (by kernel_rfl) (by kernel_rfl) (by kernel_rfl) (fun _ _ _ h => h) (Or.inr ⟨by rfl, rfl⟩) hS ?_
      try simp only [Act.put, putA, putZ, putS]
      refine wpAnyH_take (i := 27) (oi := ⟨some 44, _, _, _, _, _⟩) (v := undef) rfl (by kernel_rfl) (by kernel_rfl) (by kernel_rfl) (fun _ _ _ h => h) (Or.inr ⟨by rfl, rfl⟩) hS ?_
      try simp only [Act.put, putA, putZ, putS]
      refine wpAnyH_take (i := 28) (oi := ⟨some 45, _, _, _, _, _⟩) (v := undef) rfl (by kernel_rfl) (by kernel_rfl) (by kernel_rfl) (fun _ _ _ h => h) (Or.inr ⟨by rfl, rfl⟩) hS ?_
      try simp only [Act.put, putA, putZ, putS]
      refine tH 29 (oi := ⟨_, _, _, _, _, _⟩) (v := ?_) rfl (by kernel_rfl) (by rfl) (fun _ _ _ h => h) hS ?_ ?_
      rotate_left
      · rintro W' ⟨z0, z1, z2, z3⟩; go_simp; try with_reducible rfl
      try simp only [Act.put, putA, putZ, putS]
      refine wpAnyH_done (by kernel_rfl) ?_ _
      go_wp2_with fail
      go_meet
      exact ⟨by rw [HBD.out], HA0.out⟩
  case rest =>
    obtain ⟨rfl, hbf⟩ := hcut
    have HA9 := Lib.hid hbf
    clear hbf HA1 HA0 c0 c1 c2 c3 wnc wng
    cases hB : t.lensBad
    · have HNB := Lib.hid hB
      clear hB
      go_wp2_with fail
      go_loopw [3] (fun i wr => ∃ k : Nat, k ≤ t.nc ∧ i = .int .i64 k ∧ (∀ q, q < k → t.rowOk q = true) ∧ BF w wr [(w.heap.size, #[.slice x.ca t.nc x.cc, .slice x.ba t.nb x.bc, .slice x.ra t.nr x.rc, .slice x.na t.nn x.nc], 25)]) (fun i _ => t.nc - (intOf i).toNat)
      case atStart => exact ⟨0, Nat.zero_le _, rfl, fun q h => absurd h (Nat.not_lt_zero _), HA9.out⟩
      case round =>
        clear HA9
        obtain ⟨k, hk, rfl, hall, hbf⟩ := hrel
        have HALL := Lib.hid hall; have HA9 := Lib.hid hbf
        clear hall hbf
        have c0 := HA9.out.cell (.head _) 0
        by_cases hlt : k < t.nc
        · obtain ⟨bc, oc, ra, rc, hca, hbc, hx, hrow⟩ := HRC.out.at hlt
          have HROW := Lib.hid hrow; have HX := Lib.hid hx; have HCA := Lib.hid hca
          have ki : (0 : Int) ≤ (k : Int) := by omega
          have kj : (k : Int) < (t.nc : Int) := by omega
          rw [hca] at HG HA9 c0
          clear hrow hx hca
          have hrl := HS2.out k
          go_wp2_with fail
          go_cut [62] (fun s62 wx => ∃ b, s62 = .bool b ∧ b = ((t.rl k : Int) != (t.ng : Int)) ∧ BF w wx [(w.heap.size, #[.slice (some ⟨bc, oc, none⟩) t.nc x.cc, .slice x.ba t.nb x.bc, .slice x.ra t.nr x.rc, .slice x.na t.nn x.nc], 25)])
          case first =>
            have HAX : Hid (BF w wr.drew [(w.heap.size, #[.slice (some ⟨bc, oc, none⟩) t.nc x.cc, .slice x.ba t.nb x.bc, .slice x.ra t.nr x.rc, .slice x.na t.nn x.nc], 25)]) := HA9.out.below ((Below.refl _ _).drew)
            refine wp_region_held_drew (S := fun X => X.cell? ⟨w.heap.size, 0, none⟩ = some (.slice (some ⟨bc, oc, none⟩) t.nc x.cc) ∧ X.cell? ⟨w.heap.size, 1, none⟩ = some (.slice x.ba t.nb x.bc) ∧ X.cell? ⟨w.heap.size, 2, none⟩ = some (.slice x.ra t.nr x.rc) ∧ X.cell? ⟨w.heap.size, 3, none⟩ = some (.slice x.na t.nn x.nc) ∧ X.cell? ⟨bc, oc + k, none⟩ = some (.slice ra (t.rl k) rc)) (by kernel_rfl) (⟨HAX.out.cell (.head _) 0, HAX.out.cell (.head _) 1, HAX.out.cell (.head _) 2, HAX.out.cell (.head _) 3, kept HAX.out.fr hbc HX.out⟩) (fun hS => ?_)
            clear HA9 c0
            generalize wr.drew = X at *
            refine tk [0, 1, 2, 3, 4, 5, 6] ?_
            repeat (refine tkH (oi := ⟨_, _, _, _, _, _⟩) (v := ?_) rfl (by kernel_rfl) (by rfl) (fun _ _ _ h => h) hS ?_ ?_; rotate_left; (· rintro W' ⟨z0, z1, z2, z3, z4⟩; go_simp; try with_reducible rfl); try simp only [Act.put, putA, putZ, putS])
            refine tk0 ?_
            refine wpAnyH_ready (rs := [7]) (by kernel_rfl) (by simp) ?_
            refine AllReadyH.cons (o := ⟨some 61, _, _, _, _, _⟩) rfl (fun K hK => ?_) AllReadyH.nil
            go_simp
            refine (HG.out X HAX.out.fr).mono ?_
            rintro _ X0 ⟨rfl, hb0⟩
            (try go_wp2_with fail)
            have HA0 := Lib.hid (HAX.out.below hb0)
            refine hK.out _ _ (⟨HA0.out.cell (.head _) 0, HA0.out.cell (.head _) 1, HA0.out.cell (.head _) 2, HA0.out.cell (.head _) 3, kept HA0.out.fr hbc HX.out⟩) (fun hS => ?_)
            clear hK K
            try simp only [Act.put, putA, putZ, putS]
            clear hb0
            refine tH 8 (oi := ⟨_, _, _, _, _, _⟩) (v := ?_) rfl (by kernel_rfl) (by rfl) (fun _ _ _ h => h) hS ?_ ?_
            rotate_left
            · rintro W' ⟨z0, z1, z2, z3, z4⟩; go_simp; try with_reducible rfl
            try simp only [Act.put, putA, putZ, putS]
            refine wpAnyH_done (by kernel_rfl) ?_ _
            go_wp2_with fail
            go_meet
            exact ⟨_, rfl, rfl, HA0.out⟩
          case rest =>
            obtain ⟨b, rfl, hbq, hbf⟩ := hcut
            clear HA9 c0
            have HA9 := Lib.hid hbf
            clear hbf
            cases b
            · have HRW : Hid (t.rl k = t.ng) := by
                unfold Hid
                have := bne_eq_false_iff_eq.1 hbq.symm
                omega
              clear hbq
              go_wp2_with fail
              go_loopw [4] (fun i wr => ∃ m : Nat, m ≤ t.rl k ∧ i = .int .i64 m ∧ (∀ q, q < m → isCountR (t.ct k q) = true) ∧ BF w wr [(w.heap.size, #[.slice (some ⟨bc, oc, none⟩) t.nc x.cc, .slice x.ba t.nb x.bc, .slice x.ra t.nr x.rc, .slice x.na t.nn x.nc], 25)]) (fun i _ => t.rl k - (intOf i).toNat)
              case atStart => exact ⟨0, Nat.zero_le _, rfl, fun q h => absurd h (Nat.not_lt_zero _), HA9.out⟩
              case round =>
                clear HA9
                obtain ⟨m, hm, rfl, hall2, hbf⟩ := hrel
                have HALL2 := Lib.hid hall2; have HA9 := Lib.hid hbf
                clear hall2 hbf
                have c0 := HA9.out.cell (.head _) 0
                have yk := kept HA9.out.fr hbc HX.out
                by_cases hlm : m < t.rl k
                · obtain ⟨bq, oq, rfl, hbq, x0, x1⟩ := HROW.out.at hlm
                  have y0 := kept HA9.out.fr hbq x0
                  have y1 := kept HA9.out.fr hbq x1
                  clear x0 x1
                  have mi : (0 : Int) ≤ (m : Int) := by omega
                  have mj : (m : Int) < (t.rl k : Int) := by omega
                  obtain ⟨p, q, HPQ⟩ : ∃ p q, Hid (t.ct k m = (p, q)) := ⟨_, _, rfl⟩
                  rw [HPQ.out] at y0 y1
                  simp only at y0 y1
                  cases hin : isCountR (p, q)
                  · go_wp2_with (go_at_call 32; refine (span_any _ _ _ _ _).mono ?_; rw [show insideR (p, q) _ _ = false from hin]; rintro _ w2 ⟨rfl, hb2⟩; have HA8 := Lib.hid (HA9.out.below hb2); clear hb2)
                    go_ret
                    exact ⟨ret_int (HF1.out (ok_row hlt (by unfold Tb.rowOk; rw [allB_false (p := fun g => isCountR (t.ct k g)) hlm (by rw [HPQ.out]; exact hin)]; simp))).symm, HA8.out.fr⟩
                  · go_wp2_with (go_at_call 32; refine (span_any _ _ _ _ _).mono ?_; rw [show insideR (p, q) _ _ = true from hin]; rintro _ w2 ⟨rfl, hb2⟩; have HA8 := Lib.hid (HA9.out.below hb2); clear hb2)
                    go_roundw
                    case rel => exact ⟨m + 1, by omega, by go_num, fun q hq => by rcases Nat.lt_succ_iff_lt_or_eq.1 hq with h | rfl; exact HALL2.out q h; rw [HPQ.out]; exact hin, HA8.out⟩
                    case measure => simp [intOf]; omega
                · have HMR : Hid (m = t.rl k) := by unfold Hid; omega
                  have hmn : ¬ (m : Int) < (t.rl k : Int) := by omega
                  go_wp2_with fail
                  go_roundw
                  case rel => exact ⟨k + 1, by omega, by go_num, fun q hq => by
                    rcases Nat.lt_succ_iff_lt_or_eq.1 hq with h | rfl
                    · exact HALL.out q h
                    · unfold Tb.rowOk
                      rw [allB_true (fun g hg => HALL2.out g (by have := HMR.out; omega)), beq_iff_eq.2 HRW.out]; rfl, by rw [HCA.out]; exact HA9.out⟩
                  case measure => simp [intOf]; omega
            · have hrw : ¬ t.rl k = t.ng := fun e => by rw [e] at hbq; simp at hbq
              clear hbq
              go_wp2_with fail
              go_ret
              exact ⟨ret_int (HF1.out (ok_row hlt (by unfold Tb.rowOk; rw [beq_eq_false_iff_ne.2 hrw]; rfl))).symm, HA9.out.fr⟩
        · obtain rfl : k = t.nc := by omega
          have HL1 := Lib.hid HALL.out
          go_wp2_with fail
          clear HALL c0 hk hlt
          go_loopw [5] (fun i wr => ∃ k : Nat, k ≤ t.nb ∧ i = .int .i64 k ∧ (∀ q, q < k → isCountR (t.b q) = true) ∧ BF w wr [(w.heap.size, #[.slice x.ca t.nc x.cc, .slice x.ba t.nb x.bc, .slice x.ra t.nr x.rc, .slice x.na t.nn x.nc], 25)]) (fun i _ => t.nb - (intOf i).toNat)
          case atStart => exact ⟨0, Nat.zero_le _, rfl, fun q h => absurd h (Nat.not_lt_zero _), HA9.out⟩
          case round =>
            clear HA9
            obtain ⟨k, hk, rfl, hall, hbf⟩ := hrel
            have HALL := Lib.hid hall; have HA9 := Lib.hid hbf
            clear hall hbf
            have c1 := HA9.out.cell (.head _) 1
            by_cases hlt : k < t.nb
            · obtain ⟨bq, oq, hca, hbq, x0, x1⟩ := HRB.out.at hlt
              rw [hca] at c1
              have y0 := kept HA9.out.fr hbq x0
              have y1 := kept HA9.out.fr hbq x1
              clear x0 x1 hca
              have ki : (0 : Int) ≤ (k : Int) := by omega
              have kj : (k : Int) < (t.nb : Int) := by omega
              obtain ⟨p, q, HPQ⟩ : ∃ p q, Hid (t.b k = (p, q)) := ⟨_, _, rfl⟩
              rw [HPQ.out] at y0 y1
              simp only at y0 y1
              cases hin : isCountR (p, q)
              · go_wp2_with (go_at_call 32; refine (span_any _ _ _ _ _).mono ?_; rw [show insideR (p, q) _ _ = false from hin]; rintro _ w2 ⟨rfl, hb2⟩; have HA8 := Lib.hid (HA9.out.below hb2); clear hb2)
                go_ret
                exact ⟨ret_int (HF1.out (ok_b hlt (by rw [HPQ.out]; exact hin))).symm, HA8.out.fr⟩
              · go_wp2_with (go_at_call 32; refine (span_any _ _ _ _ _).mono ?_; rw [show insideR (p, q) _ _ = true from hin]; rintro _ w2 ⟨rfl, hb2⟩; have HA8 := Lib.hid (HA9.out.below hb2); clear hb2)
                go_roundw
                case rel => exact ⟨k + 1, by omega, by go_num, fun q hq => by rcases Nat.lt_succ_iff_lt_or_eq.1 hq with h | rfl; exact HALL.out q h; rw [HPQ.out]; exact hin, HA8.out⟩
                case measure => simp [intOf]; omega
            · obtain rfl : k = t.nb := by omega
              have HL3 := Lib.hid HALL.out
              go_wp2_with fail
              clear HALL c1 hk hlt
              go_loopw [6] (fun i wr => ∃ k : Nat, k ≤ t.nr ∧ i = .int .i64 k ∧ (∀ q, q < k → isRateR (t.r q) = true) ∧ BF w wr [(w.heap.size, #[.slice x.ca t.nc x.cc, .slice x.ba t.nb x.bc, .slice x.ra t.nr x.rc, .slice x.na t.nn x.nc], 25)]) (fun i _ => t.nr - (intOf i).toNat)
              case atStart => exact ⟨0, Nat.zero_le _, rfl, fun q h => absurd h (Nat.not_lt_zero _), HA9.out⟩
              case round =>
                clear HA9
                obtain ⟨k, hk, rfl, hall, hbf⟩ := hrel
                have HALL := Lib.hid hall; have HA9 := Lib.hid hbf
                clear hall hbf
                have c2 := HA9.out.cell (.head _) 2
                by_cases hlt : k < t.nr
                · obtain ⟨bq, oq, hca, hbq, x0, x1⟩ := HRR.out.at hlt
                  rw [hca] at c2
                  have y0 := kept HA9.out.fr hbq x0
                  have y1 := kept HA9.out.fr hbq x1
                  clear x0 x1 hca
                  have ki : (0 : Int) ≤ (k : Int) := by omega
                  have kj : (k : Int) < (t.nr : Int) := by omega
                  obtain ⟨p, q, HPQ⟩ : ∃ p q, Hid (t.r k = (p, q)) := ⟨_, _, rfl⟩
                  rw [HPQ.out] at y0 y1
                  simp only at y0 y1
                  cases hin : isRateR (p, q)
                  · go_wp2_with (go_at_call 32; refine (span_any _ _ _ _ _).mono ?_; rw [show insideR (p, q) _ _ = false from hin]; rintro _ w2 ⟨rfl, hb2⟩; have HA8 := Lib.hid (HA9.out.below hb2); clear hb2)
                    go_ret
                    exact ⟨ret_int (HF1.out (ok_r hlt (by rw [HPQ.out]; exact hin))).symm, HA8.out.fr⟩
                  · go_wp2_with (go_at_call 32; refine (span_any _ _ _ _ _).mono ?_; rw [show insideR (p, q) _ _ = true from hin]; rintro _ w2 ⟨rfl, hb2⟩; have HA8 := Lib.hid (HA9.out.below hb2); clear hb2)
                    go_roundw
                    case rel => exact ⟨k + 1, by omega, by go_num, fun q hq => by rcases Nat.lt_succ_iff_lt_or_eq.1 hq with h | rfl; exact HALL.out q h; rw [HPQ.out]; exact hin, HA8.out⟩
                    case measure => simp [intOf]; omega
                · obtain rfl : k = t.nr := by omega
                  have HL4 := Lib.hid HALL.out
                  go_wp2_with fail
                  clear HALL c2 hk hlt
                  go_loopw [7] (fun i wr => ∃ k : Nat, k ≤ t.nn ∧ i = .int .i64 k ∧ (∀ q, q < k → isNetR (t.n q) = true) ∧ BF w wr [(w.heap.size, #[.slice x.ca t.nc x.cc, .slice x.ba t.nb x.bc, .slice x.ra t.nr x.rc, .slice x.na t.nn x.nc], 25)]) (fun i _ => t.nn - (intOf i).toNat)
                  case atStart => exact ⟨0, Nat.zero_le _, rfl, fun q h => absurd h (Nat.not_lt_zero _), HA9.out⟩
                  case round =>
                    clear HA9
                    obtain ⟨k, hk, rfl, hall, hbf⟩ := hrel
                    have HALL := Lib.hid hall; have HA9 := Lib.hid hbf
                    clear hall hbf
                    have c3 := HA9.out.cell (.head _) 3
                    by_cases hlt : k < t.nn
                    · obtain ⟨bq, oq, hca, hbq, x0, x1⟩ := HRN.out.at hlt
                      rw [hca] at c3
                      have y0 := kept HA9.out.fr hbq x0
                      have y1 := kept HA9.out.fr hbq x1
                      clear x0 x1 hca
                      have ki : (0 : Int) ≤ (k : Int) := by omega
                      have kj : (k : Int) < (t.nn : Int) := by omega
                      obtain ⟨p, q, HPQ⟩ : ∃ p q, Hid (t.n k = (p, q)) := ⟨_, _, rfl⟩
                      rw [HPQ.out] at y0 y1
                      simp only at y0 y1
                      cases hin : isNetR (p, q)
                      · go_wp2_with (go_at_call 32; refine (span_any _ _ _ _ _).mono ?_; rw [show insideR (p, q) _ _ = false from hin]; rintro _ w2 ⟨rfl, hb2⟩; have HA8 := Lib.hid (HA9.out.below hb2); clear hb2)
                        go_ret
                        exact ⟨ret_int (HF1.out (ok_n hlt (by rw [HPQ.out]; exact hin))).symm, HA8.out.fr⟩
                      · go_wp2_with (go_at_call 32; refine (span_any _ _ _ _ _).mono ?_; rw [show insideR (p, q) _ _ = true from hin]; rintro _ w2 ⟨rfl, hb2⟩; have HA8 := Lib.hid (HA9.out.below hb2); clear hb2)
                        go_roundw
                        case rel => exact ⟨k + 1, by omega, by go_num, fun q hq => by rcases Nat.lt_succ_iff_lt_or_eq.1 hq with h | rfl; exact HALL.out q h; rw [HPQ.out]; exact hin, HA8.out⟩
                        case measure => simp [intOf]; omega
                    · obtain rfl : k = t.nn := by omega
                      go_wp2_with fail
                      go_ret
                      exact ⟨ret_int (HF0.out HNB.out HL1.out HL3.out HL4.out HALL.out).symm, HA9.out.fr⟩
    · have HF := Lib.hid (HF1.out (ok_lens hB))
      go_wp2_with fail
      go_ret
      exact ⟨ret_int HF.out.symm, HA9.out.fr⟩
end Go.Proofs.Ytjaoflfophcibaa
