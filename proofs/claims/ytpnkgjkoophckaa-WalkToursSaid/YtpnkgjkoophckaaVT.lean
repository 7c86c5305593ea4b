/- Walk: the law's Back and ints, the reference's Longest. Printed by gen_vt.py. -/
import Derived.Test.YtpnkgjkoophckaaVS
import Derived.Test.YtpnkgjkoophckaaVH
import Derived.Test.YtpnkgjkoophckaaVC
namespace Go.Proofs.Ytpnkgjkoophckaa
open Go.RowKit Go.Shelf

set_option maxRecDepth 100000 in
set_option maxHeartbeats 8000000 in
theorem backC_any (p1 p2 : Option Addr) (n1 c1 n2 c2 : Nat) (z1 z2 : Nat → Int) (w : World) (h1 : IntsIn w (.slice p1 n1 c1) n1 z1) (h2 : IntsIn w (.slice p2 n2 c2) n2 z2) (k1 : n1 ≤ 100000) (k2 : n2 ≤ 100000) :
    Calls Try.prog 28 #[.agg #[.slice p1 n1 c1, .slice p2 n2 c2]] w fun e w' => ∃ a1 d1 a2 d2, e = .returned (.agg #[.slice a1 n1 d1, .slice a2 n2 d2]) ∧ IntsIn w' (.slice a1 n1 d1) n1 z1 ∧ IntsIn w' (.slice a2 n2 d2) n2 z2 ∧ Below w.heap.size w w' := by
  have HLA := Lib.hid (fun W (hW : Below w.heap.size w W) => listC_any p1 n1 c1 z1 W k1 (h1.below hW))
  have HLB := Lib.hid (fun W (hW : Below w.heap.size w W) => listC_any p2 n2 c2 z2 W k2 (h2.below hW))
  clear h1 h2
  have HA0 : Hid (BF w ((w.alloc (.cells #[.slice p1 n1 c1, .slice p2 n2 c2] 30)).alloc (.cells #[.slice none 0 0, .slice none 0 0] 49)) [(w.heap.size, #[.slice p1 n1 c1, .slice p2 n2 c2], 30), (w.heap.size + 1, #[.slice none 0 0, .slice none 0 0], 49)]) := BF.made2 _ _ _ _ _
  go_enter Try.func28, Try.ntmps28
  go_upto_region 1 with fail
  generalize ((w.alloc (.cells #[.slice p1 n1 c1, .slice p2 n2 c2] 30)).alloc (.cells #[.slice none 0 0, .slice none 0 0] 49)) = w0 at *
  have HAX : Hid (BF w w0.drew [(w.heap.size, #[.slice p1 n1 c1, .slice p2 n2 c2], 30), (w.heap.size + 1, #[.slice none 0 0, .slice none 0 0], 49)]) := HA0.out.below (Below.refl _ _).drew
  clear HA0
  refine wp_region_Z (S := fun X => X.cell? ⟨w.heap.size, 0, none⟩ = some (.slice p1 n1 c1) ∧ X.cell? ⟨w.heap.size, 1, none⟩ = some (.slice p2 n2 c2)) (by kernel_rfl) (⟨HAX.out.cell (.head _) 0, HAX.out.cell (.head _) 1⟩) (fun hS => ?_)
  generalize w0.drew = X at *
  refine tk [0, 1, 3, 4] ?_
  repeat (refine tkZ (oi := ⟨_, _, _, _, _, _⟩) (v := ?_) rfl (by kernel_rfl) (by rfl) (fun _ _ _ h => h) hS ?_ ?_; rotate_left; (· rintro W' ⟨z0, z1⟩; go_simp; try with_reducible rfl); try simp only [Act.put, putA, putZ, putS])
  refine tk0 ?_
  refine wpAnyZ_next (rs := [2]) (by kernel_rfl) (by simp) ?_
  refine NextZ.cons (o := ⟨some 5, _, _, _, _, _⟩) rfl (fun K hK => ?_) NextZ.nil
  go_simp
  refine (HLA.out X HAX.out.fr).mono ?_
  rintro _ X0 ⟨aA, cA, rfl, ho0, hb0⟩
  (try go_wp2_with fail)
  have HA0 := Lib.hid (HAX.out.below hb0)
  have HOA0 : Hid (X0.ownsRow w.heap.size 3 1 (.slice aA n1 cA) n1 (iL z1 n1)) := own_mono ho0 HAX.out.fr.size
  refine hK.out _ _ (⟨HA0.out.cell (.head _) 0, HA0.out.cell (.head _) 1⟩) (fun hS => ?_)
  clear hK K
  try simp only [Act.put, putA, putZ, putS]
  clear hb0 ho0
  refine wpAnyZ_next (rs := [5]) (by kernel_rfl) (by simp) ?_
  refine NextZ.cons (o := ⟨some 8, _, _, _, _, _⟩) rfl (fun K hK => ?_) NextZ.nil
  go_simp
  refine (HLB.out X0 HA0.out.fr).mono ?_
  rintro _ X1 ⟨aB, cB, rfl, ho1, hb1⟩
  (try go_wp2_with fail)
  have HA1 := Lib.hid (HA0.out.below hb1)
  have HOA1 := Lib.hid (own_below HOA0.out hb1)
  have HOB1 : Hid (X1.ownsRow w.heap.size 3 1 (.slice aB n2 cB) n2 (iL z2 n2)) := own_mono ho1 HA0.out.fr.size
  refine hK.out _ _ (⟨HA1.out.cell (.head _) 0, HA1.out.cell (.head _) 1⟩) (fun hS => ?_)
  clear hK K
  try simp only [Act.put, putA, putZ, putS]
  clear hb1 ho1
  refine tZ 6 (oi := ⟨_, _, _, _, _, _⟩) (v := ?_) rfl (by kernel_rfl) (by rfl) (fun _ _ _ h => h) hS ?_ ?_
  rotate_left
  · rintro W' ⟨z0, z1⟩; go_simp; try with_reducible rfl
  try simp only [Act.put, putA, putZ, putS]
  refine wpAnyZ_next (rs := [7]) (by kernel_rfl) (by simp) ?_
  refine NextZ.last (o := ⟨none, _, _, _, _, _⟩) rfl (by kernel_rfl) (fun K hK => ?_)
  have e0 := HA1.out.cell (.tail _ (.head _)) 0
  have e1 := HA1.out.cell (.tail _ (.head _)) 1
  have f0 := HA1.out.thaw (.tail _ (.head _)) 0
  have f1 := HA1.out.thaw (.tail _ (.head _)) 1
  have hF := (Fr.set X1 (w.heap.size + 1) 0 (.slice aA n1 cA)).trans (Fr.set _ (w.heap.size + 1) 1 (.slice aB n2 cB))
  have hX := (HA1.out.bk _ _ _ (.tail _ (.head _))).2
  have HOA2 := Lib.hid (own_fr HOA1.out hF (fun g' cur _ _ hc e => by subst e; rw [hX] at hc; cases hc))
  have HOB2 := Lib.hid (own_fr HOB1.out hF (fun g' cur _ _ hc e => by subst e; rw [hX] at hc; cases hc))
  have HA2 := Lib.hid (BF.set2 HA1.out (.tail _ (.head _)) (.slice aA n1 cA) (.slice aB n2 cB) (L' := [(w.heap.size, #[.slice p1 n1 c1, .slice p2 n2 c2], 30)]) (List.forall_mem_cons.2 ⟨⟨show w.heap.size ≠ w.heap.size + 1 by omega, (.head _)⟩, List.forall_mem_nil _⟩))
  clear hF hX
  go_simp
  refine hK.out _ _ ?_
  clear hK K
  (try simp only [Act.put])
  clear e0 e1 f0 f1
  refine wpAnyZ_done (by kernel_rfl) ?_ _
  have g0 := HA2.out.cell (.head _) 0
  have g1 := HA2.out.cell (.head _) 1
  go_wp2_with fail
  exact bodyPost_ret (v := .agg #[.slice aA n1 cA, .slice aB n2 cB]) (by simp [results, Try.results28, go_sem, g0, g1]) rfl ⟨aA, cA, aB, cB, rfl, (IntsAt.own HOA2.out).toIn, (IntsAt.own HOB2.out).toIn, HA2.out.fr⟩
set_option maxHeartbeats 4000000 in
theorem ints_eq (p1 p2 : Option Addr) (n c1 c2 : Nat) (z1 z2 : Nat → Int) (w : World) (hn : n ≤ 100000) (h1 : IntsIn w (.slice p1 n c1) n z1) (h2 : IntsIn w (.slice p2 n c2) n z2) (he : ∀ j, j < n → z1 j = z2 j) :
    Calls Try.prog 29 #[.slice p1 n c1, .slice p2 n c2] w fun e w' => e = .returned (.bool true) ∧ Below w.heap.size w w' := by
  have H1 := Lib.hid h1
  have H2 := Lib.hid h2
  have HE := Lib.hid he
  clear h1 h2 he
  go_enter Try.func29, Try.ntmps29
  go_wp2_with fail
  go_loopw [5] (fun i wr => ∃ k : Nat, i = .int .i64 k ∧ k ≤ n ∧ Below w.heap.size w wr) (fun i _ => n - (intOf i).toNat)
  case atStart => exact ⟨0, rfl, Nat.zero_le _, Below.refl _ _⟩
  case round =>
    obtain ⟨k, rfl, hk, hb⟩ := hrel
    have HBQ := Lib.hid hb
    clear hb
    by_cases hlt : k < n
    · obtain ⟨b1, o1, rfl, hb1, x0⟩ := H1.out.at hlt
      obtain ⟨b2, o2, rfl, hb2, y0⟩ := H2.out.at hlt
      rw [HE.out k hlt] at x0
      have ki : (0 : Int) ≤ (k : Int) := by omega
      have kn : (k : Int) < (n : Int) := by omega
      obtain ⟨zk, hzk⟩ : ∃ zk, z2 k = zk := ⟨_, rfl⟩
      rw [hzk] at x0 y0
      clear hzk
      have x1 := kept HBQ.out hb1 x0
      have y1 := kept HBQ.out hb2 y0
      go_upto_region 6 with fail
      go_quiet (fail)
      go_wp2_with fail
      go_roundw
      case rel => exact ⟨k + 1, by go_num, by omega, HBQ.out.trans (below_drewS _ _ _)⟩
      case measure => simp [intOf]; omega
    · have hkn : k = n := by omega
      have hki : (k : Int) = (n : Int) := by omega
      have kq : ¬ ((k : Int) < (n : Int)) := by omega
      clear hkn hlt hk
      go_wp2_with fail
      go_ret
      exact ⟨rfl, HBQ.out⟩
set_option maxRecDepth 100000 in
set_option maxHeartbeats 16000000 in
theorem rLongest_any {m : Mp} (ok : OkM m) (x : MV) (u : LV) (y : Wl) (w : World) (h : MpIn w x m) (hu : WlIn w u y) (hy : WlOk m y) (hc : y.nc ≤ 100000) :
    Calls Try.prog 30 #[.agg #[.slice x.wa m.nw x.wc, .slice x.ra m.nr x.rc], .agg #[.slice u.ra y.nl u.rc, .slice u.ca y.nc u.cc]] w fun e w' => e = .returned (.int .i64 (timeZ m y (fun i => (m.wk i).2) (fun i => (m.rt i).2))) ∧ Below w.heap.size w w' := by
  have hn := ok.nw
  have hr := ok.nr
  have HSL := Lib.hid (fun W (hW : Below w.heap.size w W) => rSlow_any x m W (h.below hW) (by omega) (by omega))
  have HTM := Lib.hid (fun W (hW : Below w.heap.size w W) (t : TV) (ht : TrIn W t m (fun i => (m.wk i).2) (fun i => (m.rt i).2)) => rTime_any x m u y t _ _ W (h.below hW) (hu.below hW) ht hy (by omega) hc (trBd_high ok))
  clear h hu hy ok
  generalize timeZ m y (fun i => (m.wk i).2) (fun i => (m.rt i).2) = tz at *
  have HA0 : Hid (BF w ((w.alloc (.cells #[.slice x.wa m.nw x.wc, .slice x.ra m.nr x.rc] 25)).alloc (.cells #[.slice u.ra y.nl u.rc, .slice u.ca y.nc u.cc] 49)) [(w.heap.size, #[.slice x.wa m.nw x.wc, .slice x.ra m.nr x.rc], 25), (w.heap.size + 1, #[.slice u.ra y.nl u.rc, .slice u.ca y.nc u.cc], 49)]) := BF.made2 _ _ _ _ _
  go_enter Try.func30, Try.ntmps30
  go_upto_region 1 with fail
  generalize ((w.alloc (.cells #[.slice x.wa m.nw x.wc, .slice x.ra m.nr x.rc] 25)).alloc (.cells #[.slice u.ra y.nl u.rc, .slice u.ca y.nc u.cc] 49)) = w0 at *
  have HAX : Hid (BF w w0.drew [(w.heap.size, #[.slice x.wa m.nw x.wc, .slice x.ra m.nr x.rc], 25), (w.heap.size + 1, #[.slice u.ra y.nl u.rc, .slice u.ca y.nc u.cc], 49)]) := HA0.out.below (Below.refl _ _).drew
  clear HA0
  refine wp_region_Z (S := fun X => X.cell? ⟨w.heap.size, 0, none⟩ = some (.slice x.wa m.nw x.wc) ∧ X.cell? ⟨w.heap.size, 1, none⟩ = some (.slice x.ra m.nr x.rc) ∧ X.cell? ⟨w.heap.size + 1, 0, none⟩ = some (.slice u.ra y.nl u.rc) ∧ X.cell? ⟨w.heap.size + 1, 1, none⟩ = some (.slice u.ca y.nc u.cc)) (by kernel_rfl) (⟨HAX.out.cell (.head _) 0, HAX.out.cell (.head _) 1, HAX.out.cell (.tail _ (.head _)) 0, HAX.out.cell (.tail _ (.head _)) 1⟩) (fun hS => ?_)
  generalize w0.drew = X at *
  refine tk [0, 1, 2] ?_
  repeat (refine tkZ (oi := ⟨_, _, _, _, _, _⟩) (v := ?_) rfl (by kernel_rfl) (by rfl) (fun _ _ _ h => h) hS ?_ ?_; rotate_left; (· rintro W' ⟨z0, z1, z2, z3⟩; go_simp; try with_reducible rfl); try simp only [Act.put, putA, putZ, putS])
  refine tk0 ?_
  refine wpAnyZ_next (rs := [3]) (by kernel_rfl) (by simp) ?_
  refine NextZ.cons (o := ⟨some 8, _, _, _, _, _⟩) rfl (fun K hK => ?_) NextZ.nil
  go_simp
  refine (HSL.out X HAX.out.fr).mono ?_
  rintro _ X0 ⟨⟨h1, h2, h3, h4⟩, rfl, ht0, hb0⟩
  (try go_wp2_with fail)
  have HA0 := Lib.hid (HAX.out.below hb0)
  have HT0 := Lib.hid (ht0.tr)
  refine hK.out _ _ (⟨HA0.out.cell (.head _) 0, HA0.out.cell (.head _) 1, HA0.out.cell (.tail _ (.head _)) 0, HA0.out.cell (.tail _ (.head _)) 1⟩) (fun hS => ?_)
  clear hK K
  try simp only [Act.put, putA, putZ, putS]
  clear hb0 ht0
  refine wpAnyZ_next (rs := [4]) (by kernel_rfl) (by simp) ?_
  refine NextZ.cons (o := ⟨some 9, _, _, _, _, _⟩) rfl (fun K hK => ?_) NextZ.nil
  go_simp
  refine (HTM.out X0 HA0.out.fr ⟨h1, h2, h3, h4⟩ HT0.out).mono ?_
  rintro _ X1 ⟨rfl, hb1⟩
  (try go_wp2_with fail)
  have HA1 := Lib.hid (HA0.out.below hb1)
  refine hK.out _ _ (⟨HA1.out.cell (.head _) 0, HA1.out.cell (.head _) 1, HA1.out.cell (.tail _ (.head _)) 0, HA1.out.cell (.tail _ (.head _)) 1⟩) (fun hS => ?_)
  clear hK K
  try simp only [Act.put, putA, putZ, putS]
  clear hb1
  refine tZ 5 (oi := ⟨_, _, _, _, _, _⟩) (v := ?_) rfl (by kernel_rfl) (by rfl) (fun _ _ _ h => h) hS ?_ ?_
  rotate_left
  · rintro W' ⟨z0, z1, z2, z3⟩; go_simp; try with_reducible rfl
  try simp only [Act.put, putA, putZ, putS]
  refine wpAnyZ_done (by kernel_rfl) ?_ _
  go_wp2
  go_ret
  exact ⟨rfl, HA1.out.fr⟩
end Go.Proofs.Ytpnkgjkoophckaa
