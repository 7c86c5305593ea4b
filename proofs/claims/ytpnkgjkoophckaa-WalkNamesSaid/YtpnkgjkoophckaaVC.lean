/- Walk: the law's Walk, Truth, small. Printed by gen_vc.py. -/
import Derived.Test.YtpnkgjkoophckaaVA
namespace Go.Proofs.Ytpnkgjkoophckaa
open Go.RowKit Go.Shelf

theorem small_any (u : LV) (y : Wl) (w : World) :
    Calls Try.prog 50 #[.agg #[.slice u.ra y.nl u.rc, .slice u.ca y.nc u.cc]] w fun e w' => e = .returned (.bool (decide (y.nl ≤ 70) && decide (y.nc ≤ 12))) ∧ Below w.heap.size w w' := by
  go_enter Try.func50, Try.ntmps50
  go_wp2
  all_goals go_ret
  all_goals (refine ⟨ret_bool ?_, below_alloc _ _⟩; rw [Bool.eq_iff_iff]; simp; omega)
set_option maxRecDepth 100000 in
set_option maxHeartbeats 8000000 in
theorem walkC_own (p1 p2 : Option Addr) (n1 c1 n2 c2 : Nat) (z1 z2 : Nat → Int) (w : World) (h1 : IntsIn w (.slice p1 n1 c1) n1 z1) (h2 : IntsIn w (.slice p2 n2 c2) n2 z2) (k1 : n1 ≤ 100000) (k2 : n2 ≤ 100000) :
    Calls Try.prog 53 #[.agg #[.slice p1 n1 c1, .slice p2 n2 c2]] w fun e w' => ∃ a1 d1 a2 d2, e = .returned (.agg #[.slice a1 n1 d1, .slice a2 n2 d2]) ∧ w'.ownsRow w.heap.size 3 1 (.slice a1 n1 d1) n1 (iL z1 n1) ∧ w'.ownsRow w.heap.size 3 1 (.slice a2 n2 d2) n2 (iL z2 n2) ∧ Below w.heap.size w w' := by
  have HLA := Lib.hid (fun W (hW : Below w.heap.size w W) => listC_any p1 n1 c1 z1 W k1 (h1.below hW))
  have HLB := Lib.hid (fun W (hW : Below w.heap.size w W) => listC_any p2 n2 c2 z2 W k2 (h2.below hW))
  clear h1 h2
  have HA0 : Hid (BF w ((w.alloc (.cells #[.slice p1 n1 c1, .slice p2 n2 c2] 49)).alloc (.cells #[.slice none 0 0, .slice none 0 0] 30)) [(w.heap.size, #[.slice p1 n1 c1, .slice p2 n2 c2], 49), (w.heap.size + 1, #[.slice none 0 0, .slice none 0 0], 30)]) := BF.made2 _ _ _ _ _
  go_enter Try.func53, Try.ntmps53
  go_upto_region 1 with fail
  generalize ((w.alloc (.cells #[.slice p1 n1 c1, .slice p2 n2 c2] 49)).alloc (.cells #[.slice none 0 0, .slice none 0 0] 30)) = w0 at *
  have HAX : Hid (BF w w0.drew [(w.heap.size, #[.slice p1 n1 c1, .slice p2 n2 c2], 49), (w.heap.size + 1, #[.slice none 0 0, .slice none 0 0], 30)]) := HA0.out.below (Below.refl _ _).drew
  clear HA0
  refine wp_region_Z (S := fun X => X.cell? ⟨w.heap.size, 0, none⟩ = some (.slice p1 n1 c1) ∧ X.cell? ⟨w.heap.size, 1, none⟩ = some (.slice p2 n2 c2)) (by kernel_rfl) (⟨HAX.out.cell (.head _) 0, HAX.out.cell (.head _) 1⟩) (fun hS => ?_)
  generalize w0.drew = X at *
  refine tk [0, 1, 3, 4] ?_
  repeat (refine tkZ (oi := ⟨_, _, _, _, _, _⟩) (v := ?_) rfl (by kernel_rfl) (by rfl) (fun _ _ _ h => h) hS ?_ ?_; rotate_left; (· rintro W' ⟨z0, z1⟩; go_simp; try with_reducible rfl); try simp only [Act.put, putA, putZ, putS])
  refine tk0 ?_
  refine wpAnyZ_next (rs := [2]) (by kernel_rfl) (by simp) ?_
  refine NextZ.cons (o := ⟨some 5, _, _, _, _, _⟩) rfl (fun K hK => ?_) NextZ.nil
  go_simp
  refine (HLA.out X HAX.out.fr).mono ?_
  rintro _ X0 ⟨aA, cA, rfl, ho0, hb0⟩
  (try go_wp2_with fail)
  have HA0 := Lib.hid (HAX.out.below hb0)
  have HOA0 : Hid (X0.ownsRow w.heap.size 3 1 (.slice aA n1 cA) n1 (iL z1 n1)) := own_mono ho0 HAX.out.fr.size
  refine hK.out _ _ (⟨HA0.out.cell (.head _) 0, HA0.out.cell (.head _) 1⟩) (fun hS => ?_)
  clear hK K
  try simp only [Act.put, putA, putZ, putS]
  clear hb0 ho0
  refine wpAnyZ_next (rs := [5]) (by kernel_rfl) (by simp) ?_
  refine NextZ.cons (o := ⟨some 8, _, _, _, _, _⟩) rfl (fun K hK => ?_) NextZ.nil
  go_simp
  refine (HLB.out X0 HA0.out.fr).mono ?_
  rintro _ X1 ⟨aB, cB, rfl, ho1, hb1⟩
  (try go_wp2_with fail)
  have HA1 := Lib.hid (HA0.out.below hb1)
  have HOA1 := Lib.hid (own_below HOA0.out hb1)
  have HOB1 : Hid (X1.ownsRow w.heap.size 3 1 (.slice aB n2 cB) n2 (iL z2 n2)) := own_mono ho1 HA0.out.fr.size
  refine hK.out _ _ (⟨HA1.out.cell (.head _) 0, HA1.out.cell (.head _) 1⟩) (fun hS => ?_)
  clear hK K
  try simp only [Act.put, putA, putZ, putS]
  clear hb1 ho1
  refine tZ 6 (oi := ⟨_, _, _, _, _, _⟩) (v := ?_) rfl (by kernel_rfl) (by rfl) (fun _ _ _ h => h) hS ?_ ?_
  rotate_left
  · rintro W' ⟨z0, z1⟩; go_simp; try with_reducible rfl
  try simp only [Act.put, putA, putZ, putS]
  refine wpAnyZ_next (rs := [7]) (by kernel_rfl) (by simp) ?_
  refine NextZ.last (o := ⟨none, _, _, _, _, _⟩) rfl (by kernel_rfl) (fun K hK => ?_)
  have e0 := HA1.out.cell (.tail _ (.head _)) 0
  have e1 := HA1.out.cell (.tail _ (.head _)) 1
  have f0 := HA1.out.thaw (.tail _ (.head _)) 0
  have f1 := HA1.out.thaw (.tail _ (.head _)) 1
  have hF := (Fr.set X1 (w.heap.size + 1) 0 (.slice aA n1 cA)).trans (Fr.set _ (w.heap.size + 1) 1 (.slice aB n2 cB))
  have hX := (HA1.out.bk _ _ _ (.tail _ (.head _))).2
  have HOA2 := Lib.hid (own_fr HOA1.out hF (fun g' cur _ _ hc e => by subst e; rw [hX] at hc; cases hc))
  have HOB2 := Lib.hid (own_fr HOB1.out hF (fun g' cur _ _ hc e => by subst e; rw [hX] at hc; cases hc))
  have HA2 := Lib.hid (BF.set2 HA1.out (.tail _ (.head _)) (.slice aA n1 cA) (.slice aB n2 cB) (L' := [(w.heap.size, #[.slice p1 n1 c1, .slice p2 n2 c2], 49)]) (List.forall_mem_cons.2 ⟨⟨show w.heap.size ≠ w.heap.size + 1 by omega, (.head _)⟩, List.forall_mem_nil _⟩))
  clear hF hX
  go_simp
  refine hK.out _ _ ?_
  clear hK K
  (try simp only [Act.put])
  clear e0 e1 f0 f1
  refine wpAnyZ_done (by kernel_rfl) ?_ _
  have g0 := HA2.out.cell (.head _) 0
  have g1 := HA2.out.cell (.head _) 1
  go_wp2_with fail
  exact bodyPost_ret (v := .agg #[.slice aA n1 cA, .slice aB n2 cB]) (by simp [results, Try.results53, go_sem, g0, g1]) rfl ⟨aA, cA, aB, cB, rfl, HOA2.out, HOB2.out, HA2.out.fr⟩
theorem walkC_any (p1 p2 : Option Addr) (n1 c1 n2 c2 : Nat) (z1 z2 : Nat → Int) (w : World) (h1 : IntsIn w (.slice p1 n1 c1) n1 z1) (h2 : IntsIn w (.slice p2 n2 c2) n2 z2) (k1 : n1 ≤ 100000) (k2 : n2 ≤ 100000) :
    Calls Try.prog 53 #[.agg #[.slice p1 n1 c1, .slice p2 n2 c2]] w fun e w' => ∃ a1 d1 a2 d2, e = .returned (.agg #[.slice a1 n1 d1, .slice a2 n2 d2]) ∧ IntsIn w' (.slice a1 n1 d1) n1 z1 ∧ IntsIn w' (.slice a2 n2 d2) n2 z2 ∧ Below w.heap.size w w' := by
  refine (walkC_own p1 p2 n1 c1 n2 c2 z1 z2 w h1 h2 k1 k2).mono ?_
  rintro _ w' ⟨a1, d1, a2, d2, rfl, o1, o2, hb⟩
  exact ⟨a1, d1, a2, d2, rfl, (IntsAt.own o1).toIn, (IntsAt.own o2).toIn, hb⟩
set_option maxRecDepth 100000 in
set_option maxHeartbeats 8000000 in
theorem truthC_any (p1 p2 : Option Addr) (n1 c1 n2 c2 : Nat) (z1 z2 : Nat → Int) (w : World) (h1 : IntsIn w (.slice p1 n1 c1) n1 z1) (h2 : IntsIn w (.slice p2 n2 c2) n2 z2) (k1 : n1 ≤ 100000) (k2 : n2 ≤ 100000) :
    Calls Try.prog 54 #[.agg #[.slice p1 n1 c1, .slice p2 n2 c2]] w fun e w' => ∃ a1 d1 a2 d2, e = .returned (.agg #[.slice a1 n1 d1, .slice a2 n2 d2]) ∧ IntsIn w' (.slice a1 n1 d1) n1 z1 ∧ IntsIn w' (.slice a2 n2 d2) n2 z2 ∧ Below w.heap.size w w' := by
  have HLA := Lib.hid (fun W (hW : Below w.heap.size w W) => listC_any p1 n1 c1 z1 W k1 (h1.below hW))
  have HLB := Lib.hid (fun W (hW : Below w.heap.size w W) => listC_any p2 n2 c2 z2 W k2 (h2.below hW))
  clear h1 h2
  have HA0 : Hid (BF w ((w.alloc (.cells #[.slice p1 n1 c1, .slice p2 n2 c2] 71)).alloc (.cells #[.slice none 0 0, .slice none 0 0] 98)) [(w.heap.size, #[.slice p1 n1 c1, .slice p2 n2 c2], 71), (w.heap.size + 1, #[.slice none 0 0, .slice none 0 0], 98)]) := BF.made2 _ _ _ _ _
  go_enter Try.func54, Try.ntmps54
  go_upto_region 1 with fail
  generalize ((w.alloc (.cells #[.slice p1 n1 c1, .slice p2 n2 c2] 71)).alloc (.cells #[.slice none 0 0, .slice none 0 0] 98)) = w0 at *
  have HAX : Hid (BF w w0.drew [(w.heap.size, #[.slice p1 n1 c1, .slice p2 n2 c2], 71), (w.heap.size + 1, #[.slice none 0 0, .slice none 0 0], 98)]) := HA0.out.below (Below.refl _ _).drew
  clear HA0
  refine wp_region_Z (S := fun X => X.cell? ⟨w.heap.size, 0, none⟩ = some (.slice p1 n1 c1) ∧ X.cell? ⟨w.heap.size, 1, none⟩ = some (.slice p2 n2 c2)) (by kernel_rfl) (⟨HAX.out.cell (.head _) 0, HAX.out.cell (.head _) 1⟩) (fun hS => ?_)
  generalize w0.drew = X at *
  refine tk [0, 1, 3, 4] ?_
  repeat (refine tkZ (oi := ⟨_, _, _, _, _, _⟩) (v := ?_) rfl (by kernel_rfl) (by rfl) (fun _ _ _ h => h) hS ?_ ?_; rotate_left; (· rintro W' ⟨z0, z1⟩; go_simp; try with_reducible rfl); try simp only [Act.put, putA, putZ, putS])
  refine tk0 ?_
  refine wpAnyZ_next (rs := [2]) (by kernel_rfl) (by simp) ?_
  refine NextZ.cons (o := ⟨some 5, _, _, _, _, _⟩) rfl (fun K hK => ?_) NextZ.nil
  go_simp
  refine (HLA.out X HAX.out.fr).mono ?_
  rintro _ X0 ⟨aA, cA, rfl, ho0, hb0⟩
  (try go_wp2_with fail)
  have HA0 := Lib.hid (HAX.out.below hb0)
  have HOA0 : Hid (X0.ownsRow w.heap.size 3 1 (.slice aA n1 cA) n1 (iL z1 n1)) := own_mono ho0 HAX.out.fr.size
  refine hK.out _ _ (⟨HA0.out.cell (.head _) 0, HA0.out.cell (.head _) 1⟩) (fun hS => ?_)
  clear hK K
  try simp only [Act.put, putA, putZ, putS]
  clear hb0 ho0
  refine wpAnyZ_next (rs := [5]) (by kernel_rfl) (by simp) ?_
  refine NextZ.cons (o := ⟨some 8, _, _, _, _, _⟩) rfl (fun K hK => ?_) NextZ.nil
  go_simp
  refine (HLB.out X0 HA0.out.fr).mono ?_
  rintro _ X1 ⟨aB, cB, rfl, ho1, hb1⟩
  (try go_wp2_with fail)
  have HA1 := Lib.hid (HA0.out.below hb1)
  have HOA1 := Lib.hid (own_below HOA0.out hb1)
  have HOB1 : Hid (X1.ownsRow w.heap.size 3 1 (.slice aB n2 cB) n2 (iL z2 n2)) := own_mono ho1 HA0.out.fr.size
  refine hK.out _ _ (⟨HA1.out.cell (.head _) 0, HA1.out.cell (.head _) 1⟩) (fun hS => ?_)
  clear hK K
  try simp only [Act.put, putA, putZ, putS]
  clear hb1 ho1
  refine tZ 6 (oi := ⟨_, _, _, _, _, _⟩) (v := ?_) rfl (by kernel_rfl) (by rfl) (fun _ _ _ h => h) hS ?_ ?_
  rotate_left
  · rintro W' ⟨z0, z1⟩; go_simp; try with_reducible rfl
  try simp only [Act.put, putA, putZ, putS]
  refine wpAnyZ_next (rs := [7]) (by kernel_rfl) (by simp) ?_
  refine NextZ.last (o := ⟨none, _, _, _, _, _⟩) rfl (by kernel_rfl) (fun K hK => ?_)
  have e0 := HA1.out.cell (.tail _ (.head _)) 0
  have e1 := HA1.out.cell (.tail _ (.head _)) 1
  have f0 := HA1.out.thaw (.tail _ (.head _)) 0
  have f1 := HA1.out.thaw (.tail _ (.head _)) 1
  have hF := (Fr.set X1 (w.heap.size + 1) 0 (.slice aA n1 cA)).trans (Fr.set _ (w.heap.size + 1) 1 (.slice aB n2 cB))
  have hX := (HA1.out.bk _ _ _ (.tail _ (.head _))).2
  have HOA2 := Lib.hid (own_fr HOA1.out hF (fun g' cur _ _ hc e => by subst e; rw [hX] at hc; cases hc))
  have HOB2 := Lib.hid (own_fr HOB1.out hF (fun g' cur _ _ hc e => by subst e; rw [hX] at hc; cases hc))
  have HA2 := Lib.hid (BF.set2 HA1.out (.tail _ (.head _)) (.slice aA n1 cA) (.slice aB n2 cB) (L' := [(w.heap.size, #[.slice p1 n1 c1, .slice p2 n2 c2], 71)]) (List.forall_mem_cons.2 ⟨⟨show w.heap.size ≠ w.heap.size + 1 by omega, (.head _)⟩, List.forall_mem_nil _⟩))
  clear hF hX
  go_simp
  refine hK.out _ _ ?_
  clear hK K
  (try simp only [Act.put])
  clear e0 e1 f0 f1
  refine wpAnyZ_done (by kernel_rfl) ?_ _
  have g0 := HA2.out.cell (.head _) 0
  have g1 := HA2.out.cell (.head _) 1
  go_wp2_with fail
  exact bodyPost_ret (v := .agg #[.slice aA n1 cA, .slice aB n2 cB]) (by simp [results, Try.results54, go_sem, g0, g1]) rfl ⟨aA, cA, aB, cB, rfl, (IntsAt.own HOA2.out).toIn, (IntsAt.own HOB2.out).toIn, HA2.out.fr⟩
end Go.Proofs.Ytpnkgjkoophckaa
