/- Link: most, sure, cost, possible. Printed by gen_mj.py. -/
import Derived.Test.YtgbdbikjckfgmaaGreatMI
namespace Go.Proofs.YtgbdbikjckfgmaaGreat
open Go.RowKit Go.Shelf

theorem BF.sk1 {w X : World} {L : List (Nat × Array Value × TypeId)} (h : BF w X L) {b c : Nat} {T : TypeId} {p q : Int} (hb : (b, #[.int .i64 p, .int .i64 q], T) ∈ L) : SkIn X (.slice (some ⟨b, 0, none⟩) 1 c) [(p, q)] :=
  .inr ⟨b, 0, c, rfl, (h.lt hb).2, fun j hj => by
    obtain rfl : j = 0 := by simp at hj; exact hj
    exact ⟨h.cell hb 0, h.cell hb 1⟩⟩
theorem BF.sk2 {w X : World} {L : List (Nat × Array Value × TypeId)} (h : BF w X L) {b c : Nat} {T : TypeId} {p q r s : Int} (hb : (b, #[.int .i64 p, .int .i64 q, .int .i64 r, .int .i64 s], T) ∈ L) : SkIn X (.slice (some ⟨b, 0, none⟩) 2 c) [(p, q), (r, s)] :=
  .inr ⟨b, 0, c, rfl, (h.lt hb).2, fun j hj => by
    have : j = 0 ∨ j = 1 := by simp at hj; omega
    rcases this with rfl | rfl
    · exact ⟨h.cell hb 0, h.cell hb 1⟩
    · exact ⟨h.cell hb 2, h.cell hb 3⟩⟩
def l8 (l : Nat → Int) : Array Value := #[.int .i64 (l 0), .int .i64 (l 1), .int .i64 (l 2), .int .i64 (l 3), .int .i64 (l 4), .int .i64 (l 5), .int .i64 (l 6), .int .i64 (l 7)]
theorem a8_l8 (l : Nat → Int) : a8 l = l8 l := rfl
set_option maxHeartbeats 1000000 in
theorem lmost_any {f : Fl} (ok : OkF f) (B : Nat) (sa : Option Addr) (sc : Nat) (L : List (Int × Int)) (w : World) (hL : L.length ≤ 100000) (hwk : WkF w B f) (hsk : SkIn w (.slice sa L.length sc) L) :
    Calls Tryz.prog 73 #[.pointer (some ⟨B, 0, none⟩), .slice sa L.length sc] w fun e w' => e = .returned (.int .i64 ((f.m L).2 : Int)) ∧ Below w.heap.size w w' := by
  have HM := Lib.hid (matchF_any ok B sa sc L w hL hwk hsk)
  clear hwk hsk
  generalize (f.m L).1 = l at *
  generalize (f.m L).2 = n at *
  generalize L.length = k at *
  rw [a8_l8] at HM
  unfold l8 at HM
  generalize l 0 = l0 at *
  generalize l 1 = l1 at *
  generalize l 2 = l2 at *
  generalize l 3 = l3 at *
  generalize l 4 = l4 at *
  generalize l 5 = l5 at *
  generalize l 6 = l6 at *
  generalize l 7 = l7 at *
  go_enter Tryz.func73, Tryz.ntmps73
  go_wp2_with fail
  refine HM.out.mono ?_
  rintro _ w1 ⟨rfl, hb⟩
  have HB := Lib.hid (hb.trans ((below_alloc w1 (.cells #[.int .i64 l0, .int .i64 l1, .int .i64 l2, .int .i64 l3, .int .i64 l4, .int .i64 l5, .int .i64 l6, .int .i64 l7] 134)).mono hb.size))
  clear hb
  go_wp2_with fail
  go_ret
  exact ⟨rfl, HB.out⟩
set_option maxHeartbeats 1000000 in
theorem lsure_any {f : Fl} (ok : OkF f) (B i k : Nat) (w : World) (hwk : WkF w B f) :
    Calls Tryz.prog 79 #[.pointer (some ⟨B, 0, none⟩), .agg #[.int .i64 (i : Int), .int .i64 (k : Int)]] w fun e w' => e = .returned (.bool (f.sure i k)) ∧ Below w.heap.size w w' := by
  have HE : Hid (decide ((f.m [((i : Int), (k : Int))]).2 < (f.m []).2) = f.sure i k) := rfl
  have HA := Lib.hid (((BF.base w).alloc #[.int .i64 (i : Int), .int .i64 (k : Int)] 58).alloc #[.int .i64 (i : Int), .int .i64 (k : Int)] 127)
  rw [World.size_alloc] at HA
  have HW := Lib.hid (fun X (h : Below w.heap.size w X) => hwk.below h)
  clear hwk
  have HM1 := Lib.hid (fun X (h : Below w.heap.size w X) s c hs => lmost_any ok B s c [((i : Int), (k : Int))] X (by simp) (HW.out X h) hs)
  have HM0 := Lib.hid (fun X (h : Below w.heap.size w X) => lmost_any ok B none 0 [] X (by simp) (HW.out X h) (SkIn.nil _ _ _))
  generalize (f.m [((i : Int), (k : Int))]).2 = n1 at *
  generalize (f.m []).2 = n0 at *
  go_enter Tryz.func79, Tryz.ntmps79
  go_wp2_with fail
  refine (HM1.out _ HA.out.fr (some ⟨w.heap.size + 1, 0, none⟩) 1 (HA.out.sk1 (.head _))).mono ?_
  rintro _ w1 ⟨rfl, hb⟩
  have HA1 := Lib.hid (HA.out.below hb)
  clear hb HA
  go_wp2_with fail
  refine (HM0.out _ HA1.out.fr).mono ?_
  rintro _ w2 ⟨rfl, hb⟩
  have HA2 := Lib.hid (HA1.out.below hb)
  clear hb HA1
  go_wp2_with fail
  go_ret
  exact ⟨ret_bool HE.out, HA2.out.fr⟩
set_option maxHeartbeats 4000000 in
theorem lcost_any {f : Fl} (ok : OkF f) (B i k : Nat) (w : World) (hwk : WkF w B f) :
    Calls Tryz.prog 77 #[.pointer (some ⟨B, 0, none⟩), .agg #[.int .i64 (i : Int), .int .i64 (k : Int)]] w fun e w' => e = .returned (.int .i64 (f.cost i k)) ∧ Below w.heap.size w w' := by
  have h8 : (f.m []).2 ≤ 8 := Nat.le_trans (match_rg (g := offG f.g (SK [])) (P := f.P) (F := 9) (no := f.no) f.no (Nat.le_refl _)).2 ok.no
  have h8' : (f.m [((i : Int), -1), (-1, (k : Int))]).2 ≤ 8 := Nat.le_trans (match_rg (g := offG f.g (SK [((i : Int), -1), (-1, (k : Int))])) (P := f.P) (F := 9) (no := f.no) f.no (Nat.le_refl _)).2 ok.no
  have HCO : Hid (∀ x : Int, x = ((f.m []).2 : Int) - 1 - ((f.m [((i : Int), -1), (-1, (k : Int))]).2 : Int) → Ending.returned (.int .i64 x) = .returned (.int .i64 (f.cost i k))) := fun x h => by rw [h]; rfl
  have hw1 : IntKind.i64.wrap (((f.m []).2 : Int) - 1) = ((f.m []).2 : Int) - 1 := IntWalk.i64_in _ (by omega)
  have hw2 : IntKind.i64.wrap (((f.m []).2 : Int) - 1 - ((f.m [((i : Int), -1), (-1, (k : Int))]).2 : Int)) = ((f.m []).2 : Int) - 1 - ((f.m [((i : Int), -1), (-1, (k : Int))]).2 : Int) := IntWalk.i64_in _ (by omega)
  have HA0 := Lib.hid ((BF.base w).alloc #[.int .i64 (i : Int), .int .i64 (k : Int)] 58)
  have HAX : Hid (BF w (w.alloc (.cells #[.int .i64 (i : Int), .int .i64 (k : Int)] 58)).drew [(w.heap.size, #[.int .i64 (i : Int), .int .i64 (k : Int)], 58)]) := HA0.out.below (Below.refl _ _).drew
  have HWX := Lib.hid (hwk.below HAX.out.fr)
  clear hwk HA0
  go_enter Tryz.func77, Tryz.ntmps77
  go_wp2_with fail
  refine wp_region_Z (S := fun X => X.cell? ⟨w.heap.size, 0, none⟩ = some (.int .i64 (i : Int)) ∧ X.cell? ⟨w.heap.size, 1, none⟩ = some (.int .i64 (k : Int))) (by kernel_rfl) (⟨HAX.out.cell (.head _) 0, HAX.out.cell (.head _) 1⟩) (fun hS => ?_)
  generalize (w.alloc (.cells #[.int .i64 (i : Int), .int .i64 (k : Int)] 58)).drew = X at *
  refine tk [0, 3, 4, 5, 6, 7, 8, 9] ?_
  repeat (refine tkZ (oi := ⟨_, _, _, _, _, _⟩) (v := ?_) rfl (by kernel_rfl) (by rfl) (fun _ _ _ h => h) hS ?_ ?_; rotate_left; (· rintro W' ⟨z0, z1⟩; go_simp; try with_reducible rfl); try simp only [Act.put, putA, putZ, putS])
  refine tk0 ?_
  refine wpAnyZ_next (rs := [1, 10]) (by kernel_rfl) (by simp) ?_
  refine NextZ.cons (o := ⟨some 6, _, _, _, _, _⟩) rfl (fun K hK => ?_) ?_
  ·
   go_simp
   refine (lmost_any ok B none 0 [] _ (by simp) HWX.out (SkIn.nil _ _ _)).mono ?_
   rintro _ X0 ⟨rfl, hb0⟩
   (try go_wp2_with fail)
   have HA0 := Lib.hid (HAX.out.below hb0)
   have HW0 := Lib.hid (HWX.out.below hb0)
   refine hK.out _ _ (⟨HA0.out.cell (.head _) 0, HA0.out.cell (.head _) 1⟩) (fun hS => ?_)
   clear hK K
   try simp only [Act.put, putA, putZ, putS]
   clear hb0
   refine tZ 2 (oi := ⟨_, _, _, _, _, _⟩) (v := ?_) rfl (by kernel_rfl) (by rfl) (fun _ _ _ h => h) hS ?_ ?_
   rotate_left
   · rintro W' ⟨z0, z1⟩; go_simp; try with_reducible rfl
   try simp only [Act.put, putA, putZ, putS]
   refine wpAnyZ_next (rs := [10]) (by kernel_rfl) (by simp) ?_
   refine NextZ.cons (o := ⟨some 15, _, _, _, _, _⟩) rfl (fun K hK => ?_) NextZ.nil
   have HW1 := Lib.hid (HW0.out.below (below_alloc X0 (.cells #[.int .i64 (i : Int), .int .i64 (-1), .int .i64 (-1), .int .i64 (k : Int)] 127)))
   go_simp
   have HA1 := Lib.hid (HA0.out.alloc #[.int .i64 (i : Int), .int .i64 (-1), .int .i64 (-1), .int .i64 (k : Int)] 127)
   have hn1P := (HA0.out.lt (.head _)).2
   have hn1_ := HA0.out.fr.size
   refine hK.out _ _ (⟨HA1.out.cell (.tail _ (.head _)) 0, HA1.out.cell (.tail _ (.head _)) 1⟩) (fun hS => ?_)
   clear hK K
   try simp only [Act.put, putA, putZ, putS]
   generalize X0.heap.size = S1 at *
   generalize (X0.alloc (.cells #[.int .i64 (i : Int), .int .i64 (-1), .int .i64 (-1), .int .i64 (k : Int)] 127)) = X1 at *
   refine wpAnyZ_next (rs := [11]) (by kernel_rfl) (by simp) ?_
   refine NextZ.cons (o := ⟨some 16, _, _, _, _, _⟩) rfl (fun K hK => ?_) NextZ.nil
   go_simp
   refine (lmost_any ok B (some ⟨S1, 0, none⟩) 2 [((i : Int), -1), (-1, (k : Int))] _ (by simp) HW1.out (HA1.out.sk2 (.head _))).mono ?_
   rintro _ X2 ⟨rfl, hb2⟩
   (try go_wp2_with fail)
   have HA2 := Lib.hid (HA1.out.below hb2)
   have HW2 := Lib.hid (HW1.out.below hb2)
   refine hK.out _ _ (⟨HA2.out.cell (.tail _ (.head _)) 0, HA2.out.cell (.tail _ (.head _)) 1⟩) (fun hS => ?_)
   clear hK K
   try simp only [Act.put, putA, putZ, putS]
   clear hb2
   refine tk [12, 13] ?_
   repeat (refine tkZ (oi := ⟨_, _, _, _, _, _⟩) (v := ?_) rfl (by kernel_rfl) (by rfl) (fun _ _ _ h => h) hS ?_ ?_; rotate_left; (· rintro W' ⟨z0, z1⟩; go_simp; try with_reducible rfl); try simp only [Act.put, putA, putZ, putS])
   refine tk0 ?_
   refine wpAnyZ_done (by kernel_rfl) ?_ _
   go_wp2_with fail
   go_ret
   exact ⟨HCO.out _ rfl, HA2.out.fr⟩
  refine NextZ.cons (o := ⟨some 15, _, _, _, _, _⟩) rfl (fun K hK => ?_) NextZ.nil
  have HW3 := Lib.hid (HWX.out.below (below_alloc X (.cells #[.int .i64 (i : Int), .int .i64 (-1), .int .i64 (-1), .int .i64 (k : Int)] 127)))
  go_simp
  have HA3 := Lib.hid (HAX.out.alloc #[.int .i64 (i : Int), .int .i64 (-1), .int .i64 (-1), .int .i64 (k : Int)] 127)
  have hn3P := (HAX.out.lt (.head _)).2
  have hn3_ := HAX.out.fr.size
  refine hK.out _ _ (⟨HA3.out.cell (.tail _ (.head _)) 0, HA3.out.cell (.tail _ (.head _)) 1⟩) (fun hS => ?_)
  clear hK K
  try simp only [Act.put, putA, putZ, putS]
  generalize X.heap.size = S3 at *
  generalize (X.alloc (.cells #[.int .i64 (i : Int), .int .i64 (-1), .int .i64 (-1), .int .i64 (k : Int)] 127)) = X3 at *
  refine wpAnyZ_next (rs := [1]) (by kernel_rfl) (by simp) ?_
  refine NextZ.cons (o := ⟨some 6, _, _, _, _, _⟩) rfl (fun K hK => ?_) NextZ.nil
  go_simp
  refine (lmost_any ok B none 0 [] _ (by simp) HW3.out (SkIn.nil _ _ _)).mono ?_
  rintro _ X4 ⟨rfl, hb4⟩
  (try go_wp2_with fail)
  have HA4 := Lib.hid (HA3.out.below hb4)
  have HW4 := Lib.hid (HW3.out.below hb4)
  refine hK.out _ _ (⟨HA4.out.cell (.tail _ (.head _)) 0, HA4.out.cell (.tail _ (.head _)) 1⟩) (fun hS => ?_)
  clear hK K
  try simp only [Act.put, putA, putZ, putS]
  clear hb4
  refine tZ 2 (oi := ⟨_, _, _, _, _, _⟩) (v := ?_) rfl (by kernel_rfl) (by rfl) (fun _ _ _ h => h) hS ?_ ?_
  rotate_left
  · rintro W' ⟨z0, z1⟩; go_simp; try with_reducible rfl
  try simp only [Act.put, putA, putZ, putS]
  refine wpAnyZ_next (rs := [11]) (by kernel_rfl) (by simp) ?_
  refine NextZ.cons (o := ⟨some 16, _, _, _, _, _⟩) rfl (fun K hK => ?_) NextZ.nil
  go_simp
  refine (lmost_any ok B (some ⟨S3, 0, none⟩) 2 [((i : Int), -1), (-1, (k : Int))] _ (by simp) HW4.out (HA4.out.sk2 (.head _))).mono ?_
  rintro _ X5 ⟨rfl, hb5⟩
  (try go_wp2_with fail)
  have HA5 := Lib.hid (HA4.out.below hb5)
  have HW5 := Lib.hid (HW4.out.below hb5)
  refine hK.out _ _ (⟨HA5.out.cell (.tail _ (.head _)) 0, HA5.out.cell (.tail _ (.head _)) 1⟩) (fun hS => ?_)
  clear hK K
  try simp only [Act.put, putA, putZ, putS]
  clear hb5
  refine tk [12, 13] ?_
  repeat (refine tkZ (oi := ⟨_, _, _, _, _, _⟩) (v := ?_) rfl (by kernel_rfl) (by rfl) (fun _ _ _ h => h) hS ?_ ?_; rotate_left; (· rintro W' ⟨z0, z1⟩; go_simp; try with_reducible rfl); try simp only [Act.put, putA, putZ, putS])
  refine tk0 ?_
  refine wpAnyZ_done (by kernel_rfl) ?_ _
  go_wp2_with fail
  go_ret
  exact ⟨HCO.out _ rfl, HA5.out.fr⟩
set_option maxHeartbeats 1000000 in
theorem lpossible_any {f : Fl} (ok : OkF f) (B i k : Nat) (w : World) (hwk : WkF w B f) :
    Calls Tryz.prog 78 #[.pointer (some ⟨B, 0, none⟩), .agg #[.int .i64 (i : Int), .int .i64 (k : Int)]] w fun e w' => e = .returned (.bool (f.poss i k)) ∧ Below w.heap.size w w' := by
  have HC := Lib.hid (lcost_any ok B i k _ (hwk.below (below_alloc w (.cells #[.int .i64 (i : Int), .int .i64 (k : Int)] 58))))
  have HP : Hid (f.poss i k = (f.cost i k == 0)) := by unfold Hid Fl.poss; rw [Bool.eq_iff_iff]; simp
  clear hwk
  generalize f.cost i k = c at *
  go_enter Tryz.func78, Tryz.ntmps78
  go_wp2_with fail
  refine HC.out.mono ?_
  rintro _ w1 ⟨rfl, hb⟩
  have HB := Lib.hid (below_step (below_alloc _ _) hb)
  clear hb
  go_wp2_with fail
  go_ret
  exact ⟨ret_bool HP.out.symm, HB.out⟩
end Go.Proofs.YtgbdbikjckfgmaaGreat
