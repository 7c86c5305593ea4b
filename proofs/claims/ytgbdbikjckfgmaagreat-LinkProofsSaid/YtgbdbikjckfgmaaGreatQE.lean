/- Link: the reference's Rising. Printed by gen_qe.py. -/
import Derived.Test.YtgbdbikjckfgmaaGreatQD
namespace Go.Proofs.YtgbdbikjckfgmaaGreat
open Go.RowKit Go.Shelf

set_option maxRecDepth 100000 in
set_option maxHeartbeats 16000000 in
theorem rRising_any (a : Option Addr) (n c : Nat) (z : Nat → Int) (lim : Nat) (w : World) (h : IntsIn w (.slice a n c) n z) (hn : n ≤ 100000) (hlim : lim ≤ 100000) :
    Calls Tryz.prog 90 #[.slice a n c, .int .i64 (lim : Int)] w fun e w' => e = .returned (.bool (risesB z n (lim : Int))) ∧ Below w.heap.size w w' := by
  have HL := Lib.hid h
  have HF : Hid (∀ k, k < n → (inB (z k) 0 ((lim : Int) - 1) && !(decide (0 < k) && decide (z k ≤ z (k - 1)))) = false → risesB z n (lim : Int) = false) := fun k hk h => by unfold risesB; exact allB_false hk h
  have HT : Hid ((∀ k, k < n → (inB (z k) 0 ((lim : Int) - 1) && !(decide (0 < k) && decide (z k ≤ z (k - 1)))) = true) → risesB z n (lim : Int) = true) := fun h => by unfold risesB; exact allB_true h
  clear h
  have kw : IntKind.i64.wrap ((lim : Int) - 1) = (lim : Int) - 1 := IntWalk.i64_in _ (by omega)
  generalize risesB z n (lim : Int) = r at *
  go_enter Tryz.func90, Tryz.ntmps90
  go_wp2_with fail
  go_loopw [5] (fun v wr => ∃ k : Nat, v = .int .i64 (k : Int) ∧ k ≤ n ∧ (∀ i, i < k → (inB (z i) 0 ((lim : Int) - 1) && !(decide (0 < i) && decide (z i ≤ z (i - 1)))) = true) ∧ Below w.heap.size w wr) (fun v _ => n - (intOf v).toNat)
  case atStart => exact ⟨0, rfl, Nat.zero_le _, fun i hi => absurd hi (Nat.not_lt_zero i), Below.refl _ _⟩
  case round =>
    obtain ⟨k, rfl, hk, hall, hbl⟩ := hrel
    rename World => wx
    have HALL := Lib.hid hall
    have HAB : Hid (BF w wx []) := (BF.base w).below hbl
    clear hall hbl
    by_cases hlt : k < n
    · obtain ⟨lb, lo, rfl, hlb, _⟩ := HL.out.at hlt
      have HZ : Hid (∀ j, j < n → ∀ X, Below w.heap.size w X → X.cell? ⟨lb, lo + j, none⟩ = some (.int .i64 (z j))) := fun j hj X hX => by
        obtain ⟨lb', lo', e, h1, h2⟩ := HL.out.at hj
        cases e
        exact kept hX h1 h2
      have HFK := Lib.hid (HF.out k hlt)
      have HNK : Hid ((inB (z k) 0 ((lim : Int) - 1) && !(decide (0 < k) && decide (z k ≤ z (k - 1)))) = true → ∀ i, i < k + 1 → (inB (z i) 0 ((lim : Int) - 1) && !(decide (0 < i) && decide (z i ≤ z (i - 1)))) = true) := fun h i hi => by
        rcases Nat.lt_succ_iff_lt_or_eq.1 hi with hi | rfl
        · exact HALL.out i hi
        · exact h
      have HIN := Lib.hid (fun X => refIn_any (z k) 0 ((lim : Int) - 1) X)
      clear HALL HF HT
      have kn : (k : Int) < (n : Int) := by omega
      have kp : (0 : Int) ≤ (k : Int) := by omega
      rcases k with _ | q
      · have hz0 : ∀ X, Below w.heap.size w X → X.cell? ⟨lb, lo, none⟩ = some (.int .i64 (z 0)) := fun X hX => HZ.out 0 hlt X hX
        have k00 : (0 : Int) < (n : Int) := by omega
        obtain ⟨zi, hzi⟩ : ∃ v, z 0 = v := ⟨_, rfl⟩
        rw [hzi] at hz0 HIN
        have HZ0 := Lib.hid hz0
        have HFK2 : Hid (inB zi 0 ((lim : Int) - 1) = false → r = false) := fun h => HFK.out (by rw [hzi, h]; rfl)
        have HNK2 : Hid (inB zi 0 ((lim : Int) - 1) = true → ∀ i, i < 1 → (inB (z i) 0 ((lim : Int) - 1) && !(decide (0 < i) && decide (z i ≤ z (i - 1)))) = true) := fun h => HNK.out (by rw [hzi, h]; simp)
        clear hz0 hzi HFK HNK
        obtain ⟨p1, hp1⟩ : ∃ p, inB zi 0 ((lim : Int) - 1) = p := ⟨_, rfl⟩
        rw [hp1] at HIN HFK2 HNK2
        clear hp1
        go_upto_region 4 with fail
        have HAX : Hid (BF w wx.drew []) := HAB.out.below (Below.refl _ _).drew
        have hE := HZ0.out _ HAX.out.fr
        refine wp_region_Z (S := fun X => X.cell? ⟨lb, lo, none⟩ = some (.int .i64 zi)) (by kernel_rfl) hE (fun hS => ?_)
        generalize wx.drew = X at *
        cases p1
        · have hr := HFK2.out rfl
          subst hr
          refine tk [0, 1, 2, 3, 4, 5] ?_
          repeat (refine tkZ (oi := ⟨_, _, _, _, _, _⟩) (v := ?_) rfl (by kernel_rfl) (by rfl) (fun _ _ _ h => h) hS ?_ ?_; rotate_left; (· intro W' hSw; (try dsimp only at hSw); go_simp; try with_reducible rfl); try simp only [Act.put, putA, putZ, putS])
          refine tk0 ?_
          refine wpAnyZ_next (rs := [6]) (by kernel_rfl) (by simp) ?_
          refine NextZ.cons (o := ⟨some 18, _, _, _, _, _⟩) rfl (fun K hK => ?_) NextZ.nil
          go_simp
          refine (HIN.out _).mono ?_
          rintro _ X0 ⟨rfl, rfl⟩
          (try go_wp2_with fail)
          refine hK.out _ _ (hE) (fun hS => ?_)
          clear hK K
          try simp only [Act.put, putA, putZ, putS]
          refine tk [7, 8] ?_
          repeat (refine tkZ (oi := ⟨_, _, _, _, _, _⟩) (v := ?_) rfl (by kernel_rfl) (by rfl) (fun _ _ _ h => h) hS ?_ ?_; rotate_left; (· intro W' hSw; (try dsimp only at hSw); go_simp; try with_reducible rfl); try simp only [Act.put, putA, putZ, putS])
          refine tk0 ?_
          refine wpAnyZ_take (i := 9) (oi := ⟨some 21, _, _, _, _, _⟩) (v := undef) rfl (by kernel_rfl) (by kernel_rfl) (by kernel_rfl) (fun _ _ _ h => h) (Or.inr ⟨by rfl, rfl⟩) hS ?_
          try simp only [Act.put, putA, putZ, putS]
          refine wpAnyZ_take (i := 10) (oi := ⟨some 22, _, _, _, _, _⟩) (v := undef) rfl (by kernel_rfl) (by kernel_rfl) (by kernel_rfl) (fun _ _ _ h => h) (Or.inr ⟨by rfl, rfl⟩) hS ?_
          try simp only [Act.put, putA, putZ, putS]
          refine wpAnyZ_take (i := 11) (oi := ⟨some 23, _, _, _, _, _⟩) (v := undef) rfl (by kernel_rfl) (by kernel_rfl) (by kernel_rfl) (fun _ _ _ h => h) (Or.inr ⟨by rfl, rfl⟩) hS ?_
          try simp only [Act.put, putA, putZ, putS]
          refine wpAnyZ_take (i := 12) (oi := ⟨some 24, _, _, _, _, _⟩) (v := undef) rfl (by kernel_rfl) (by kernel_rfl) (by kernel_rfl) (fun _ _ _ h => h) (Or.inr ⟨by rfl, rfl⟩) hS ?_
          try simp only [Act.put, putA, putZ, putS]
          refine wpAnyZ_take (i := 13) (oi := ⟨some 25, _, _, _, _, _⟩) (v := undef) rfl (by kernel_rfl) (by kernel_rfl) (by kernel_rfl) (fun _ _ _ h => h) (Or.inr ⟨by rfl, rfl⟩) hS ?_
          try simp only [Act.put, putA, putZ, putS]
          refine wpAnyZ_take (i := 14) (oi := ⟨some 26, _, _, _, _, _⟩) (v := undef) rfl (by kernel_rfl) (by kernel_rfl) (by kernel_rfl) (fun _ _ _ h => h) (Or.inr ⟨by rfl, rfl⟩) hS ?_
          try simp only [Act.put, putA, putZ, putS]
          refine wpAnyZ_take (i := 15) (oi := ⟨some 27, _, _, _, _, _⟩) (v := undef) rfl (by kernel_rfl) (by kernel_rfl) (by kernel_rfl) (fun _ _ _ h => h) (Or.inr ⟨by rfl, rfl⟩) hS ?_
          try simp only [Act.put, putA, putZ, putS]
          refine wpAnyZ_take (i := 16) (oi := ⟨some 28, _, _, _, _, _⟩) (v := undef) rfl (by kernel_rfl) (by kernel_rfl) (by kernel_rfl) (fun _ _ _ h => h) (Or.inr ⟨by rfl, rfl⟩) hS ?_
          try simp only [Act.put, putA, putZ, putS]
          refine wpAnyZ_take (i := 17) (oi := ⟨some 29, _, _, _, _, _⟩) (v := undef) rfl (by kernel_rfl) (by kernel_rfl) (by kernel_rfl) (fun _ _ _ h => h) (Or.inr ⟨by rfl, rfl⟩) hS ?_
          try simp only [Act.put, putA, putZ, putS]
          refine wpAnyZ_take (i := 18) (oi := ⟨some 30, _, _, _, _, _⟩) (v := undef) rfl (by kernel_rfl) (by kernel_rfl) (by kernel_rfl) (fun _ _ _ h => h) (Or.inr ⟨by rfl, rfl⟩) hS ?_
          try simp only [Act.put, putA, putZ, putS]
          refine wpAnyZ_take (i := 19) (oi := ⟨some 31, _, _, _, _, _⟩) (v := undef) rfl (by kernel_rfl) (by kernel_rfl) (by kernel_rfl) (fun _ _ _ h => h) (Or.inr ⟨by rfl, rfl⟩) hS ?_
          try simp only [Act.put, putA, putZ, putS]
          refine wpAnyZ_take (i := 20) (oi := ⟨some 32, _, _, _, _, _⟩) (v := undef) rfl (by kernel_rfl) (by kernel_rfl) (by kernel_rfl) (fun _ _ _ h => h) (Or.inr ⟨by rfl, rfl⟩) hS ?_
          try simp only [Act.put, putA, putZ, putS]
          refine wpAnyZ_take (i := 21) (oi := ⟨some 33, _, _, _, _, _⟩) (v := undef) rfl (by kernel_rfl) (by kernel_rfl) (by kernel_rfl) (fun _ _ _ h => h) (Or.inr ⟨by rfl, rfl⟩) hS ?_
          try simp only [Act.put, putA, putZ, putS]
          refine wpAnyZ_take (i := 22) (oi := ⟨some 34, _, _, _, _, _⟩) (v := undef) rfl (by kernel_rfl) (by kernel_rfl) (by kernel_rfl) (fun _ _ _ h => h) (Or.inr ⟨by rfl, rfl⟩) hS ?_
          try simp only [Act.put, putA, putZ, putS]
          refine tZ 23 (oi := ⟨_, _, _, _, _, _⟩) (v := ?_) rfl (by kernel_rfl) (by rfl) (fun _ _ _ h => h) hS ?_ ?_
          rotate_left
          · intro W' hSw; (try dsimp only at hSw); go_simp; try with_reducible rfl
          try simp only [Act.put, putA, putZ, putS]
          refine wpAnyZ_done (by kernel_rfl) ?_ _
          go_wp2_with fail
          go_ret
          exact ⟨rfl, HAX.out.fr⟩
        · have HN := Lib.hid (HNK2.out rfl)
          refine tk [0, 1, 2, 3, 4, 5] ?_
          repeat (refine tkZ (oi := ⟨_, _, _, _, _, _⟩) (v := ?_) rfl (by kernel_rfl) (by rfl) (fun _ _ _ h => h) hS ?_ ?_; rotate_left; (· intro W' hSw; (try dsimp only at hSw); go_simp; try with_reducible rfl); try simp only [Act.put, putA, putZ, putS])
          refine tk0 ?_
          refine wpAnyZ_next (rs := [6]) (by kernel_rfl) (by simp) ?_
          refine NextZ.cons (o := ⟨some 18, _, _, _, _, _⟩) rfl (fun K hK => ?_) NextZ.nil
          go_simp
          refine (HIN.out _).mono ?_
          rintro _ X0 ⟨rfl, rfl⟩
          (try go_wp2_with fail)
          refine hK.out _ _ (hE) (fun hS => ?_)
          clear hK K
          try simp only [Act.put, putA, putZ, putS]
          refine tk [7, 8, 9, 10, 11] ?_
          repeat (refine tkZ (oi := ⟨_, _, _, _, _, _⟩) (v := ?_) rfl (by kernel_rfl) (by rfl) (fun _ _ _ h => h) hS ?_ ?_; rotate_left; (· intro W' hSw; (try dsimp only at hSw); go_simp; try with_reducible rfl); try simp only [Act.put, putA, putZ, putS])
          refine tk0 ?_
          refine wpAnyZ_take (i := 12) (oi := ⟨some 24, _, _, _, _, _⟩) (v := undef) rfl (by kernel_rfl) (by kernel_rfl) (by kernel_rfl) (fun _ _ _ h => h) (Or.inr ⟨by rfl, rfl⟩) hS ?_
          try simp only [Act.put, putA, putZ, putS]
          refine wpAnyZ_take (i := 13) (oi := ⟨some 25, _, _, _, _, _⟩) (v := undef) rfl (by kernel_rfl) (by kernel_rfl) (by kernel_rfl) (fun _ _ _ h => h) (Or.inr ⟨by rfl, rfl⟩) hS ?_
          try simp only [Act.put, putA, putZ, putS]
          refine wpAnyZ_take (i := 14) (oi := ⟨some 26, _, _, _, _, _⟩) (v := undef) rfl (by kernel_rfl) (by kernel_rfl) (by kernel_rfl) (fun _ _ _ h => h) (Or.inr ⟨by rfl, rfl⟩) hS ?_
          try simp only [Act.put, putA, putZ, putS]
          refine wpAnyZ_take (i := 15) (oi := ⟨some 27, _, _, _, _, _⟩) (v := undef) rfl (by kernel_rfl) (by kernel_rfl) (by kernel_rfl) (fun _ _ _ h => h) (Or.inr ⟨by rfl, rfl⟩) hS ?_
          try simp only [Act.put, putA, putZ, putS]
          refine wpAnyZ_take (i := 16) (oi := ⟨some 28, _, _, _, _, _⟩) (v := undef) rfl (by kernel_rfl) (by kernel_rfl) (by kernel_rfl) (fun _ _ _ h => h) (Or.inr ⟨by rfl, rfl⟩) hS ?_
          try simp only [Act.put, putA, putZ, putS]
          refine wpAnyZ_take (i := 17) (oi := ⟨some 29, _, _, _, _, _⟩) (v := undef) rfl (by kernel_rfl) (by kernel_rfl) (by kernel_rfl) (fun _ _ _ h => h) (Or.inr ⟨by rfl, rfl⟩) hS ?_
          try simp only [Act.put, putA, putZ, putS]
          refine wpAnyZ_take (i := 18) (oi := ⟨some 30, _, _, _, _, _⟩) (v := undef) rfl (by kernel_rfl) (by kernel_rfl) (by kernel_rfl) (fun _ _ _ h => h) (Or.inr ⟨by rfl, rfl⟩) hS ?_
          try simp only [Act.put, putA, putZ, putS]
          refine wpAnyZ_take (i := 19) (oi := ⟨some 31, _, _, _, _, _⟩) (v := undef) rfl (by kernel_rfl) (by kernel_rfl) (by kernel_rfl) (fun _ _ _ h => h) (Or.inr ⟨by rfl, rfl⟩) hS ?_
          try simp only [Act.put, putA, putZ, putS]
          refine wpAnyZ_take (i := 20) (oi := ⟨some 32, _, _, _, _, _⟩) (v := undef) rfl (by kernel_rfl) (by kernel_rfl) (by kernel_rfl) (fun _ _ _ h => h) (Or.inr ⟨by rfl, rfl⟩) hS ?_
          try simp only [Act.put, putA, putZ, putS]
          refine wpAnyZ_take (i := 21) (oi := ⟨some 33, _, _, _, _, _⟩) (v := undef) rfl (by kernel_rfl) (by kernel_rfl) (by kernel_rfl) (fun _ _ _ h => h) (Or.inr ⟨by rfl, rfl⟩) hS ?_
          try simp only [Act.put, putA, putZ, putS]
          refine tk [22, 23] ?_
          repeat (refine tkZ (oi := ⟨_, _, _, _, _, _⟩) (v := ?_) rfl (by kernel_rfl) (by rfl) (fun _ _ _ h => h) hS ?_ ?_; rotate_left; (· intro W' hSw; (try dsimp only at hSw); go_simp; try with_reducible rfl); try simp only [Act.put, putA, putZ, putS])
          refine tk0 ?_
          refine wpAnyZ_done (by kernel_rfl) ?_ _
          go_wp2_with fail
          go_roundw
          case rel => exact ⟨1, by first | rfl | go_num, by omega, HN.out, HAX.out.fr⟩
          case measure => simp [intOf]; omega
      · have hq1 := HZ.out (q + 1) hlt
        have hq0 := HZ.out q (by omega)
        have kq : (q : Int) < (n : Int) := by omega
        have kq0 : (0 : Int) ≤ (q : Int) := by omega
        have kq1 : (q : Int) + 1 < (n : Int) := by omega
        have kq2 : (0 : Int) ≤ (q : Int) + 1 := by omega
        have kq3 : (0 : Int) < (q : Int) + 1 := by omega
        have kw2 : IntKind.i64.wrap ((q : Int) + 1 - 1) = (q : Int) := (IntWalk.i64_in _ (by omega)).trans (by omega)
        have kw3 : IntKind.i64.wrap (q : Int) = (q : Int) := IntWalk.i64_in _ (by omega)
        obtain ⟨zi, hzi⟩ : ∃ v, z (q + 1) = v := ⟨_, rfl⟩
        obtain ⟨zp, hzp⟩ : ∃ v, z q = v := ⟨_, rfl⟩
        rw [hzi] at hq1 HIN
        rw [hzp] at hq0
        have HZ1 := Lib.hid hq1
        have HZ2 := Lib.hid hq0
        have HFK2 : Hid (inB zi 0 ((lim : Int) - 1) = false → r = false) := fun h => HFK.out (by rw [hzi, h]; rfl)
        have HFK3 : Hid (zi ≤ zp → r = false) := fun h => HFK.out (by rw [hzi, show q + 1 - 1 = q by omega, hzp, decide_eq_true h]; simp)
        have HNK2 : Hid (inB zi 0 ((lim : Int) - 1) = true → ¬ zi ≤ zp → ∀ i, i < q + 2 → (inB (z i) 0 ((lim : Int) - 1) && !(decide (0 < i) && decide (z i ≤ z (i - 1)))) = true) := fun h h2 => HNK.out (by rw [hzi, h, show q + 1 - 1 = q by omega, hzp, decide_eq_false h2]; simp)
        clear hq1 hq0 hzi hzp HFK HNK HZ
        obtain ⟨p1, hp1⟩ : ∃ p, inB zi 0 ((lim : Int) - 1) = p := ⟨_, rfl⟩
        rw [hp1] at HIN HFK2 HNK2
        clear hp1
        go_upto_region 4 with fail
        have HAX : Hid (BF w wx.drew []) := HAB.out.below (Below.refl _ _).drew
        have hE := And.intro (HZ1.out _ HAX.out.fr) (HZ2.out _ HAX.out.fr)
        refine wp_region_Z (S := fun X => X.cell? ⟨lb, lo + (q + 1), none⟩ = some (.int .i64 zi) ∧ X.cell? ⟨lb, lo + q, none⟩ = some (.int .i64 zp)) (by kernel_rfl) hE (fun hS => ?_)
        generalize wx.drew = X at *
        cases p1
        · have hr := HFK2.out rfl
          subst hr
          refine tk [0, 1, 2, 3, 4, 5] ?_
          repeat (refine tkZ (oi := ⟨_, _, _, _, _, _⟩) (v := ?_) rfl (by kernel_rfl) (by rfl) (fun _ _ _ h => h) hS ?_ ?_; rotate_left; (· rintro W' ⟨z0, z1⟩; go_simp; try with_reducible rfl); try simp only [Act.put, putA, putZ, putS])
          refine tk0 ?_
          refine wpAnyZ_next (rs := [6]) (by kernel_rfl) (by simp) ?_
          refine NextZ.cons (o := ⟨some 18, _, _, _, _, _⟩) rfl (fun K hK => ?_) NextZ.nil
          go_simp
          refine (HIN.out _).mono ?_
          rintro _ X0 ⟨rfl, rfl⟩
          (try go_wp2_with fail)
          refine hK.out _ _ (hE) (fun hS => ?_)
          clear hK K
          try simp only [Act.put, putA, putZ, putS]
          refine tk [7, 8] ?_
          repeat (refine tkZ (oi := ⟨_, _, _, _, _, _⟩) (v := ?_) rfl (by kernel_rfl) (by rfl) (fun _ _ _ h => h) hS ?_ ?_; rotate_left; (· rintro W' ⟨z0, z1⟩; go_simp; try with_reducible rfl); try simp only [Act.put, putA, putZ, putS])
          refine tk0 ?_
          refine wpAnyZ_take (i := 9) (oi := ⟨some 21, _, _, _, _, _⟩) (v := undef) rfl (by kernel_rfl) (by kernel_rfl) (by kernel_rfl) (fun _ _ _ h => h) (Or.inr ⟨by rfl, rfl⟩) hS ?_
          try simp only [Act.put, putA, putZ, putS]
          refine wpAnyZ_take (i := 10) (oi := ⟨some 22, _, _, _, _, _⟩) (v := undef) rfl (by kernel_rfl) (by kernel_rfl) (by kernel_rfl) (fun _ _ _ h => h) (Or.inr ⟨by rfl, rfl⟩) hS ?_
          try simp only [Act.put, putA, putZ, putS]
          refine wpAnyZ_take (i := 11) (oi := ⟨some 23, _, _, _, _, _⟩) (v := undef) rfl (by kernel_rfl) (by kernel_rfl) (by kernel_rfl) (fun _ _ _ h => h) (Or.inr ⟨by rfl, rfl⟩) hS ?_
          try simp only [Act.put, putA, putZ, putS]
          refine wpAnyZ_take (i := 12) (oi := ⟨some 24, _, _, _, _, _⟩) (v := undef) rfl (by kernel_rfl) (by kernel_rfl) (by kernel_rfl) (fun _ _ _ h => h) (Or.inr ⟨by rfl, rfl⟩) hS ?_
          try simp only [Act.put, putA, putZ, putS]
          refine wpAnyZ_take (i := 13) (oi := ⟨some 25, _, _, _, _, _⟩) (v := undef) rfl (by kernel_rfl) (by kernel_rfl) (by kernel_rfl) (fun _ _ _ h => h) (Or.inr ⟨by rfl, rfl⟩) hS ?_
          try simp only [Act.put, putA, putZ, putS]
          refine wpAnyZ_take (i := 14) (oi := ⟨some 26, _, _, _, _, _⟩) (v := undef) rfl (by kernel_rfl) (by kernel_rfl) (by kernel_rfl) (fun _ _ _ h => h) (Or.inr ⟨by rfl, rfl⟩) hS ?_
          try simp only [Act.put, putA, putZ, putS]
          refine wpAnyZ_take (i := 15) (oi := ⟨some 27, _, _, _, _, _⟩) (v := undef) rfl (by kernel_rfl) (by kernel_rfl) (by kernel_rfl) (fun _ _ _ h => h) (Or.inr ⟨by rfl, rfl⟩) hS ?_
          try simp only [Act.put, putA, putZ, putS]
          refine wpAnyZ_take (i := 16) (oi := ⟨some 28, _, _, _, _, _⟩) (v := undef) rfl (by kernel_rfl) (by kernel_rfl) (by kernel_rfl) (fun _ _ _ h => h) (Or.inr ⟨by rfl, rfl⟩) hS ?_
          try simp only [Act.put, putA, putZ, putS]
          refine wpAnyZ_take (i := 17) (oi := ⟨some 29, _, _, _, _, _⟩) (v := undef) rfl (by kernel_rfl) (by kernel_rfl) (by kernel_rfl) (fun _ _ _ h => h) (Or.inr ⟨by rfl, rfl⟩) hS ?_
          try simp only [Act.put, putA, putZ, putS]
          refine wpAnyZ_take (i := 18) (oi := ⟨some 30, _, _, _, _, _⟩) (v := undef) rfl (by kernel_rfl) (by kernel_rfl) (by kernel_rfl) (fun _ _ _ h => h) (Or.inr ⟨by rfl, rfl⟩) hS ?_
          try simp only [Act.put, putA, putZ, putS]
          refine wpAnyZ_take (i := 19) (oi := ⟨some 31, _, _, _, _, _⟩) (v := undef) rfl (by kernel_rfl) (by kernel_rfl) (by kernel_rfl) (fun _ _ _ h => h) (Or.inr ⟨by rfl, rfl⟩) hS ?_
          try simp only [Act.put, putA, putZ, putS]
          refine wpAnyZ_take (i := 20) (oi := ⟨some 32, _, _, _, _, _⟩) (v := undef) rfl (by kernel_rfl) (by kernel_rfl) (by kernel_rfl) (fun _ _ _ h => h) (Or.inr ⟨by rfl, rfl⟩) hS ?_
          try simp only [Act.put, putA, putZ, putS]
          refine wpAnyZ_take (i := 21) (oi := ⟨some 33, _, _, _, _, _⟩) (v := undef) rfl (by kernel_rfl) (by kernel_rfl) (by kernel_rfl) (fun _ _ _ h => h) (Or.inr ⟨by rfl, rfl⟩) hS ?_
          try simp only [Act.put, putA, putZ, putS]
          refine wpAnyZ_take (i := 22) (oi := ⟨some 34, _, _, _, _, _⟩) (v := undef) rfl (by kernel_rfl) (by kernel_rfl) (by kernel_rfl) (fun _ _ _ h => h) (Or.inr ⟨by rfl, rfl⟩) hS ?_
          try simp only [Act.put, putA, putZ, putS]
          refine tZ 23 (oi := ⟨_, _, _, _, _, _⟩) (v := ?_) rfl (by kernel_rfl) (by rfl) (fun _ _ _ h => h) hS ?_ ?_
          rotate_left
          · rintro W' ⟨z0, z1⟩; go_simp; try with_reducible rfl
          try simp only [Act.put, putA, putZ, putS]
          refine wpAnyZ_done (by kernel_rfl) ?_ _
          go_wp2_with fail
          go_ret
          exact ⟨rfl, HAX.out.fr⟩
        · by_cases hle : zi ≤ zp
          · have hr := HFK3.out hle
            subst hr
            refine tk [0, 1, 2, 3, 4, 5] ?_
            repeat (refine tkZ (oi := ⟨_, _, _, _, _, _⟩) (v := ?_) rfl (by kernel_rfl) (by rfl) (fun _ _ _ h => h) hS ?_ ?_; rotate_left; (· rintro W' ⟨z0, z1⟩; go_simp; try with_reducible rfl); try simp only [Act.put, putA, putZ, putS])
            refine tk0 ?_
            refine wpAnyZ_next (rs := [6]) (by kernel_rfl) (by simp) ?_
            refine NextZ.cons (o := ⟨some 18, _, _, _, _, _⟩) rfl (fun K hK => ?_) NextZ.nil
            go_simp
            refine (HIN.out _).mono ?_
            rintro _ X0 ⟨rfl, rfl⟩
            (try go_wp2_with fail)
            refine hK.out _ _ (hE) (fun hS => ?_)
            clear hK K
            try simp only [Act.put, putA, putZ, putS]
            refine tk [7, 8, 9, 10, 11, 12, 13, 14, 15, 16, 17, 18, 19, 20, 21, 22, 23] ?_
            repeat (refine tkZ (oi := ⟨_, _, _, _, _, _⟩) (v := ?_) rfl (by kernel_rfl) (by rfl) (fun _ _ _ h => h) hS ?_ ?_; rotate_left; (· rintro W' ⟨z0, z1⟩; go_simp; try with_reducible rfl); try simp only [Act.put, putA, putZ, putS])
            refine tk0 ?_
            refine wpAnyZ_done (by kernel_rfl) ?_ _
            go_wp2_with fail
            go_ret
            exact ⟨rfl, HAX.out.fr⟩
          · have HN := Lib.hid (HNK2.out rfl hle)
            refine tk [0, 1, 2, 3, 4, 5] ?_
            repeat (refine tkZ (oi := ⟨_, _, _, _, _, _⟩) (v := ?_) rfl (by kernel_rfl) (by rfl) (fun _ _ _ h => h) hS ?_ ?_; rotate_left; (· rintro W' ⟨z0, z1⟩; go_simp; try with_reducible rfl); try simp only [Act.put, putA, putZ, putS])
            refine tk0 ?_
            refine wpAnyZ_next (rs := [6]) (by kernel_rfl) (by simp) ?_
            refine NextZ.cons (o := ⟨some 18, _, _, _, _, _⟩) rfl (fun K hK => ?_) NextZ.nil
            go_simp
            refine (HIN.out _).mono ?_
            rintro _ X0 ⟨rfl, rfl⟩
            (try go_wp2_with fail)
            refine hK.out _ _ (hE) (fun hS => ?_)
            clear hK K
            try simp only [Act.put, putA, putZ, putS]
            refine tk [7, 8, 9, 10, 11, 12, 13, 14, 15, 16, 17, 18, 19, 20, 21, 22, 23] ?_
            repeat (refine tkZ (oi := ⟨_, _, _, _, _, _⟩) (v := ?_) rfl (by kernel_rfl) (by rfl) (fun _ _ _ h => h) hS ?_ ?_; rotate_left; (· rintro W' ⟨z0, z1⟩; go_simp; try with_reducible rfl); try simp only [Act.put, putA, putZ, putS])
            refine tk0 ?_
            refine wpAnyZ_done (by kernel_rfl) ?_ _
            go_wp2_with fail
            go_roundw
            case rel => exact ⟨q + 2, by first | rfl | go_num, by omega, HN.out, HAX.out.fr⟩
            case measure => simp [intOf]; omega
    · have hr := HT.out fun i hi => HALL.out i (by omega)
      subst hr
      go_wp2_with fail
      go_ret
      exact ⟨rfl, HAB.out.fr⟩
end Go.Proofs.YtgbdbikjckfgmaaGreat
