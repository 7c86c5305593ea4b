/- Play (the program's): step. Printed by gen_il.py. -/
import Derived.Test.YtjaoflfophcibaaIK
namespace Go.Proofs.Ytjaoflfophcibaa
open Go.RowKit Go.Shelf

theorem own_some2 {W : World} {base size n c : Nat} {T : TypeId} {a : Option Addr} {xs : List Value} (h : W.ownsRow base T size (.slice a n c) n xs) (hn : 0 < n) : ∃ b, a = some ⟨b, 0, none⟩ := by
  obtain ⟨g, cap, e, _⟩ := h.form hn
  cases e
  exact ⟨_, rfl⟩
/-- The row when k of those who come have been added. -/
def stP (last : Nat) (M A D : Nat → Int) : Nat → Nat → Int
  | 0, g => M g
  | k + 1, g => if g = min k last then wrap64 (stP last M A D k (min k last) + wrap64 (A k - D k)) else stP last M A D k g
theorem canD_and (r : Nat → R2) (A D : Nat → Int) : ∀ k b, canD r A D k b = (b && canD r A D k true)
  | 0, b => by unfold canD; simp
  | k + 1, b => by
    unfold canD
    rw [canD_and r A D k b, Bool.and_assoc]
theorem canR_and (S : Nat → Int) : ∀ n b, canR S n b = (b && allB (fun g => natB (S g)) n)
  | 0, b => by unfold canR; simp [allB]
  | n + 1, b => by
    unfold canR
    rw [canR_and S n b, Bool.and_assoc]
    congr 1
    unfold allB natB
    rw [List.range_succ, List.all_append]
    simp
theorem stP_next {last k tg : Nat} {M A D : Nat → Int} (h : tg = min k last) : (fun g => if g = tg then wrap64 (stP last M A D k tg + wrap64 (A k - D k)) else stP last M A D k g) = stP last M A D (k + 1) := by
  subst h
  rfl
set_option maxRecDepth 100000 in
set_option maxHeartbeats 4000000 in
theorem step_any (w : World) (tc tb tn : Value) (ra sa da ma : Option Addr) (rc nr sc ng dl dc mc : Nat) (R : Nat → R2) (S D M : Nat → Int) (b : Int) (hr : RsAt w (.slice ra nr rc) nr R) (hs : IntsAt w (.slice sa ng sc) ng S) (hd : IntsAt w (.slice da dl dc) dl D) (hm : IntsAt w (.slice ma ng mc) ng M)
    (hg1 : 1 ≤ ng) (hg2 : ng ≤ 100) (hnr : ng < nr) (hdl : ng < dl) (ht : ∃ x1 x2 x3 y1 y2 y3 z1 z2 z3, tc = .slice x1 x2 x3 ∧ tb = .slice y1 y2 y3 ∧ tn = .slice z1 z2 z3) :
    Calls Try.prog 114 #[.agg #[tc, tb, .slice ra nr rc, tn], .slice sa ng sc, .int .i64 b, .slice da dl dc, .slice ma ng mc] w fun e w' => ∃ v, e = .returned (.tuple #[v, .bool (canR (stP (ng - 1) M (allS b S) D (ng + 1)) ng (canD R (allS b S) D (ng + 1) true))]) ∧ w'.ownsRow w.heap.size 3 1 v ng (iL (stP (ng - 1) M (allS b S) D (ng + 1)) ng) ∧ Below w.heap.size w w' := by
  obtain ⟨x1, x2, x3, y1, y2, y3, z1, z2, z3, rfl, rfl, rfl⟩ := ht
  have HR := Lib.hid hr; have HS := Lib.hid hs; have HD := Lib.hid hd; have HM := Lib.hid hm
  have hA : BF w ((((w.alloc (.cells #[.slice x1 x2 x3, .slice y1 y2 y3, .slice ra nr rc, .slice z1 z2 z3] 36)).alloc (.cells #[.slice da dl dc] 72)).alloc (.cells #[.slice none 0 0] 72)).alloc (.cells #[.bool true] 4)) [(w.heap.size + 3, #[.bool true], 4), (w.heap.size, #[.slice x1 x2 x3, .slice y1 y2 y3, .slice ra nr rc, .slice z1 z2 z3], 36), (w.heap.size + 1, #[.slice da dl dc], 72), (w.heap.size + 2, #[.slice none 0 0], 72)] := ((BF.made3 w _ _ _ _ _ _).alloc _ _).sub (List.forall_mem_cons.2 ⟨by simp [World.size_alloc], List.forall_mem_cons.2 ⟨by simp, List.forall_mem_cons.2 ⟨by simp, List.forall_mem_cons.2 ⟨by simp, List.forall_mem_nil _⟩⟩⟩⟩)
  have HA0 := Lib.hid hA
  have wng : IntKind.i64.wrap ((ng : Int) - 1) = (ng : Int) - 1 := IntWalk.i64_in _ (by omega)
  clear hA hr hs hd hm
  go_enter Try.func114, Try.ntmps114
  go_wp2_with fail
  refine (clone_ints _ ng M _ (by omega) (HM.out.below HA0.out.fr)).mono ?_
  rintro _ w5 ⟨v5, rfl, ho5, hb5⟩
  obtain ⟨na, nc, rfl⟩ := own_slice' ho5
  obtain ⟨nx, rfl⟩ := own_some2 ho5 (by omega)
  have HA5 := Lib.hid (HA0.out.below hb5)
  have HO5 := Lib.hid (own_mono ho5 HA0.out.fr.size)
  have e0 : w5.cell? ⟨w.heap.size + 1 + 1, 0, none⟩ = some (.slice none 0 0) := HA5.out.cell (.tail _ (.tail _ (.tail _ (.head _)))) 0
  have f0 : w5.frozen? ⟨w.heap.size + 1 + 1, 0, none⟩ = false := HA5.out.thaw (.tail _ (.tail _ (.tail _ (.head _)))) 0
  have HA6 : Hid (BF w (w5.setCell ⟨w.heap.size + 2, 0, none⟩ (.slice (some ⟨nx, 0, none⟩) ng nc)) [(w.heap.size + 3, #[.bool true], 4), (w.heap.size, #[.slice x1 x2 x3, .slice y1 y2 y3, .slice ra nr rc, .slice z1 z2 z3], 36), (w.heap.size + 1, #[.slice da dl dc], 72), (w.heap.size + 2, #[.slice (some ⟨nx, 0, none⟩) ng nc], 72)]) := Lib.hid ((BF.set1 (i := 0) (cs' := #[.slice (some ⟨nx, 0, none⟩) ng nc]) HA5.out (.tail _ (.tail _ (.tail _ (.head _)))) (.slice (some ⟨nx, 0, none⟩) ng nc) (by simp) rfl (L' := [(w.heap.size + 3, #[.bool true], 4), (w.heap.size, #[.slice x1 x2 x3, .slice y1 y2 y3, .slice ra nr rc, .slice z1 z2 z3], 36), (w.heap.size + 1, #[.slice da dl dc], 72)]) (List.forall_mem_cons.2 ⟨⟨show w.heap.size + 3 ≠ w.heap.size + 2 by omega, (.head _)⟩, List.forall_mem_cons.2 ⟨⟨show w.heap.size ≠ w.heap.size + 2 by omega, (.tail _ (.head _))⟩, List.forall_mem_cons.2 ⟨⟨show w.heap.size + 1 ≠ w.heap.size + 2 by omega, (.tail _ (.tail _ (.head _)))⟩, List.forall_mem_nil _⟩⟩⟩)).sub (List.forall_mem_cons.2 ⟨.tail _ (.head _), List.forall_mem_cons.2 ⟨.tail _ (.tail _ (.head _)), List.forall_mem_cons.2 ⟨.tail _ (.tail _ (.tail _ (.head _))), List.forall_mem_cons.2 ⟨.head _, List.forall_mem_nil _⟩⟩⟩⟩))
  have HO6 : Hid ((w5.setCell ⟨w.heap.size + 2, 0, none⟩ (.slice (some ⟨nx, 0, none⟩) ng nc)).ownsRow w.heap.size 3 1 (.slice (some ⟨nx, 0, none⟩) ng nc) ng (iL (stP (ng - 1) M (allS b S) D 0) ng)) := own_fr HO5.out (Fr.set w5 (w.heap.size + 2) 0 (.slice (some ⟨nx, 0, none⟩) ng nc)) (fun g cur _ _ hg e => by subst e; rw [(HA5.out.bk _ _ _ (.tail _ (.tail _ (.tail _ (.head _))))).2] at hg; cases hg)
  clear ho5 hb5 HA0
  go_wp2_with (go_at_call 121; refine (add_any w _ (w.heap.size + 3) w.heap.size (w.heap.size + 1) (w.heap.size + 2) nx ng nc nr rc dl dc 0 0 _ _ _ ra da true R D _ b HA6.out HO6.out HR.out HD.out (by omega) (by omega) (by omega)).mono ?_; rintro _ w7 ⟨cn, rfl, hcn, hbf, hor⟩; rw [show (fun g => if g = 0 then wrap64 (stP (ng - 1) M (allS b S) D 0 0 + wrap64 (b - D 0)) else stP (ng - 1) M (allS b S) D 0 g) = stP (ng - 1) M (allS b S) D 1 from stP_next (k := 0) (by omega)] at hor; have hcn2 : cn = canD R (allS b S) D 1 true := hcn; have HA7 := Lib.hid hbf; have HO7 := Lib.hid hor; have HCN := Lib.hid hcn2; clear hbf hor hcn hcn2 e0 f0 HA6 HO6)
  go_loopw [27] (fun i wr => ∃ (k : Nat) (c : Bool), k ≤ ng ∧ i = .int .i64 k ∧ c = canD R (allS b S) D (k + 1) true ∧ BF w wr [(w.heap.size + 3, #[.bool c], 4), (w.heap.size, #[.slice x1 x2 x3, .slice y1 y2 y3, .slice ra nr rc, .slice z1 z2 z3], 36), (w.heap.size + 1, #[.slice da dl dc], 72), (w.heap.size + 2, #[.slice (some ⟨nx, 0, none⟩) ng nc], 72)] ∧ wr.ownsRow w.heap.size 3 1 (.slice (some ⟨nx, 0, none⟩) ng nc) ng (iL (stP (ng - 1) M (allS b S) D (k + 1)) ng)) (fun i _ => ng - (intOf i).toNat)
  case atStart => exact ⟨0, cn, Nat.zero_le _, rfl, HCN.out, HA7.out, HO7.out⟩
  case round =>
    obtain ⟨k, c, hk, rfl, hc, hbf, hor⟩ := hrel
    rename World => wx
    have HC := Lib.hid hc; have HA := Lib.hid hbf; have HO := Lib.hid hor
    clear hc hbf hor HCN HA7 HO7 HA5 HO5
    have ki : (0 : Int) ≤ (k : Int) := by omega
    by_cases hlt : k < ng
    · have kj : (k : Int) < (ng : Int) := by omega
      obtain ⟨sb, so, rfl, hsb, q0⟩ := HS.out.at hlt
      have q1 := kept HA.out.fr hsb q0
      have wk1 : IntKind.i64.wrap ((k : Int) + 1) = (k : Int) + 1 := IntWalk.i64_in _ (by omega)
      have htg : min ((k : Int) + 1) ((ng : Int) - 1) = ((min (k + 1) (ng - 1) : Nat) : Int) := by omega
      have HTG := Lib.hid htg
      obtain ⟨tg, HT⟩ : ∃ tg, Hid (min (k + 1) (ng - 1) = tg) := ⟨_, rfl⟩
      rw [HT.out] at HTG
      obtain ⟨sk, HSK⟩ : ∃ sk, Hid (S k = sk) := ⟨_, rfl⟩
      rw [HSK.out] at q1
      have HA8 : Hid (BF w (wx.alloc (.cells #[.int .i64 ((k : Int) + 1), .int .i64 ((ng : Int) - 1)] 3)) [(w.heap.size + 3, #[.bool c], 4), (w.heap.size, #[.slice x1 x2 x3, .slice y1 y2 y3, .slice ra nr rc, .slice z1 z2 z3], 36), (w.heap.size + 1, #[.slice da dl dc], 72), (w.heap.size + 2, #[.slice (some ⟨nx, 0, none⟩) ng nc], 72)]) := HA.out.below (below_alloc _ _)
      have HO8 := Lib.hid (own_below HO.out (below_alloc wx (.cells #[.int .i64 ((k : Int) + 1), .int .i64 ((ng : Int) - 1)] 3)))
      clear q0 hsb htg
      go_wp2_with (first | (go_at_call 92; refine (smallest_any _ _ _ _ (cell_of_row _ _ 0 _ _ _ (heap_alloc_new _ _)) (cell_of_row _ _ 1 _ _ _ (heap_alloc_new _ _))).mono ?_; rw [HTG.out]; rintro _ w9 ⟨rfl, rfl⟩) | (go_at_call 121; refine (add_any w _ (w.heap.size + 3) w.heap.size (w.heap.size + 1) (w.heap.size + 2) nx ng nc nr rc dl dc tg (k + 1) _ _ _ ra da c R D _ sk HA8.out HO8.out HR.out HD.out (by have := HT.out; omega) (by omega) (by omega)).mono ?_; rintro _ w9 ⟨c', rfl, hcn, hbf, hor⟩; have HA9 := Lib.hid hbf; have HO9 := Lib.hid hor; have HC9 := Lib.hid hcn; clear hbf hor hcn))
      go_roundw
      case rel =>
        refine ⟨k + 1, c', by omega, by go_num, ?_, HA9.out, ?_⟩
        · rw [HC9.out, HC.out, ← HSK.out]
          rfl
        · have ho := HO9.out
          rw [← HSK.out, show (fun g => if g = tg then wrap64 (stP (ng - 1) M (allS b S) D (k + 1) tg + wrap64 (S k - D (k + 1))) else stP (ng - 1) M (allS b S) D (k + 1) g) = stP (ng - 1) M (allS b S) D (k + 1 + 1) from stP_next (k := k + 1) HT.out.symm] at ho
          exact ho
      case measure => simp [intOf]; omega
    · obtain rfl : k = ng := by omega
      have HRES : Hid (canR (stP (k - 1) M (allS b S) D (k + 1)) k (canD R (allS b S) D (k + 1) true) = (c && allB (fun j => natB (stP (k - 1) M (allS b S) D (k + 1) j)) k)) := by unfold Hid; rw [canR_and, HC.out]
      go_wp2_with fail
      have HAX := Lib.hid (HA.out.below (Below.refl _ wx).drew)
      have HOX := Lib.hid (own_below HO.out (Below.refl _ wx).drew)
      clear HA HO
      cases c
      · refine wp_region_Z (S := fun X => X.cell? ⟨w.heap.size + 2, 0, none⟩ = some (.slice (some ⟨nx, 0, none⟩) k nc) ∧ X.cell? ⟨w.heap.size + 3, 0, none⟩ = some (.bool false)) (by kernel_rfl) (⟨HAX.out.cell (.tail _ (.tail _ (.tail _ (.head _)))) 0, HAX.out.cell (.head _) 0⟩) (fun hS => ?_)
        generalize wx.drew = X at *
        refine tk [0, 1, 2] ?_
        repeat (refine tkZ (oi := ⟨_, _, _, _, _, _⟩) (v := ?_) rfl (by kernel_rfl) (by rfl) (fun _ _ _ h => h) hS ?_ ?_; rotate_left; (· rintro W' ⟨z0, z1⟩; go_simp; try with_reducible rfl); try simp only [Act.put, putA, putZ, putS])
        refine tk0 ?_
        refine wpAnyZ_take (i := 3) (oi := ⟨some 46, _, _, _, _, _⟩) (v := undef) rfl (by kernel_rfl) (by kernel_rfl) (by kernel_rfl) (fun _ _ _ h => h) (Or.inr ⟨by rfl, rfl⟩) hS ?_
        try simp only [Act.put, putA, putZ, putS]
        refine wpAnyZ_take (i := 4) (oi := ⟨some 47, _, _, _, _, _⟩) (v := undef) rfl (by kernel_rfl) (by kernel_rfl) (by kernel_rfl) (fun _ _ _ h => h) (Or.inr ⟨by rfl, rfl⟩) hS ?_
        try simp only [Act.put, putA, putZ, putS]
        refine tZ 5 (oi := ⟨_, _, _, _, _, _⟩) (v := ?_) rfl (by kernel_rfl) (by rfl) (fun _ _ _ h => h) hS ?_ ?_
        rotate_left
        · rintro W' ⟨z0, z1⟩; go_simp; try with_reducible rfl
        try simp only [Act.put, putA, putZ, putS]
        refine wpAnyZ_next (rs := [6]) (by kernel_rfl) (by simp) ?_
        refine NextZ.cons (o := ⟨none, _, _, _, _, _⟩) rfl (fun K hK => ?_) NextZ.nil
        have e0 := HAX.out.cell (.tail _ (.tail _ (.tail _ (.head _)))) 0
        have f0 := HAX.out.thaw (.tail _ (.tail _ (.tail _ (.head _)))) 0
        have HO0 := Lib.hid (own_fr HOX.out (Fr.set X (w.heap.size + 2) 0 (.slice (some ⟨nx, 0, none⟩) k nc)) (fun g cur _ _ hg e => by subst e; rw [(HAX.out.bk _ _ _ (.tail _ (.tail _ (.tail _ (.head _))))).2] at hg; cases hg))
        have HA0 := Lib.hid (BF.set1 (i := 0) (cs' := #[.slice (some ⟨nx, 0, none⟩) k nc]) HAX.out (.tail _ (.tail _ (.tail _ (.head _)))) (.slice (some ⟨nx, 0, none⟩) k nc) (by simp) rfl (L' := [(w.heap.size + 3, #[.bool false], 4), (w.heap.size, #[.slice x1 x2 x3, .slice y1 y2 y3, .slice ra nr rc, .slice z1 z2 z3], 36), (w.heap.size + 1, #[.slice da dl dc], 72)]) (List.forall_mem_cons.2 ⟨⟨show w.heap.size + 3 ≠ w.heap.size + 2 by omega, (.head _)⟩, List.forall_mem_cons.2 ⟨⟨show w.heap.size ≠ w.heap.size + 2 by omega, (.tail _ (.head _))⟩, List.forall_mem_cons.2 ⟨⟨show w.heap.size + 1 ≠ w.heap.size + 2 by omega, (.tail _ (.tail _ (.head _)))⟩, List.forall_mem_nil _⟩⟩⟩))
        go_simp
        refine hK.out _ _ (⟨HA0.out.cell (.head _) 0, HA0.out.cell (.tail _ (.head _)) 0⟩) (fun hS => ?_)
        clear hK K
        (try simp only [Act.put])
        clear e0 f0
        refine wpAnyZ_next (rs := [7]) (by kernel_rfl) (by simp) ?_
        refine NextZ.last (o := ⟨none, _, _, _, _, _⟩) rfl (by kernel_rfl) (fun K hK => ?_)
        have e0 := HA0.out.cell (.tail _ (.head _)) 0
        have f0 := HA0.out.thaw (.tail _ (.head _)) 0
        have HO1 := Lib.hid (own_fr HO0.out (Fr.set (X.setCell ⟨w.heap.size + 2, 0, none⟩ (.slice (some ⟨nx, 0, none⟩) k nc)) (w.heap.size + 3) 0 (.bool false)) (fun g cur _ _ hg e => by subst e; rw [(HA0.out.bk _ _ _ (.tail _ (.head _))).2] at hg; cases hg))
        have HA1 := Lib.hid (BF.set1 (i := 0) (cs' := #[.bool false]) HA0.out (.tail _ (.head _)) (.bool false) (by simp) rfl (L' := [(w.heap.size + 2, #[.slice (some ⟨nx, 0, none⟩) k nc], 72), (w.heap.size, #[.slice x1 x2 x3, .slice y1 y2 y3, .slice ra nr rc, .slice z1 z2 z3], 36), (w.heap.size + 1, #[.slice da dl dc], 72)]) (List.forall_mem_cons.2 ⟨⟨show w.heap.size + 2 ≠ w.heap.size + 3 by omega, (.head _)⟩, List.forall_mem_cons.2 ⟨⟨show w.heap.size ≠ w.heap.size + 3 by omega, (.tail _ (.tail _ (.head _)))⟩, List.forall_mem_cons.2 ⟨⟨show w.heap.size + 1 ≠ w.heap.size + 3 by omega, (.tail _ (.tail _ (.tail _ (.head _))))⟩, List.forall_mem_nil _⟩⟩⟩))
        go_simp
        refine hK.out _ _ ?_
        clear hK K e0 f0
        (try simp only [Act.put])
        refine wpAnyZ_done (by kernel_rfl) ?_ _
        have z0 := HA1.out.cell (.tail _ (.head _)) 0
        have z1 := HA1.out.cell (.head _) 0
        go_wp2_with fail
        exact bodyPost_ret (v := .tuple #[.slice (some ⟨nx, 0, none⟩) k nc, .bool false]) (by simp [results, Try.results114, go_sem, z0, z1]) rfl ⟨_, by rw [HRES.out]; simp, HO1.out, HA1.out.fr⟩
      · obtain ⟨al, HAL⟩ : ∃ al, Hid (allB (fun j => natB (stP (k - 1) M (allS b S) D (k + 1) j)) k = al) := ⟨_, rfl⟩
        rw [HAL.out] at HRES
        refine wp_region_Z (S := fun X => X.cell? ⟨w.heap.size + 2, 0, none⟩ = some (.slice (some ⟨nx, 0, none⟩) k nc) ∧ X.cell? ⟨w.heap.size + 3, 0, none⟩ = some (.bool true)) (by kernel_rfl) (⟨HAX.out.cell (.tail _ (.tail _ (.tail _ (.head _)))) 0, HAX.out.cell (.head _) 0⟩) (fun hS => ?_)
        generalize wx.drew = X at *
        refine tk [0, 1, 2, 3] ?_
        repeat (refine tkZ (oi := ⟨_, _, _, _, _, _⟩) (v := ?_) rfl (by kernel_rfl) (by rfl) (fun _ _ _ h => h) hS ?_ ?_; rotate_left; (· rintro W' ⟨z0, z1⟩; go_simp; try with_reducible rfl); try simp only [Act.put, putA, putZ, putS])
        refine tk0 ?_
        refine wpAnyZ_next (rs := [4]) (by kernel_rfl) (by simp) ?_
        refine NextZ.cons (o := ⟨some 47, _, _, _, _, _⟩) rfl (fun K hK => ?_) NextZ.nil
        go_simp
        refine (all_natB k (.slice (some ⟨nx, 0, none⟩) k nc) (stP (k - 1) M (allS b S) D (k + 1)) _ (by omega) (IntsAt.own HOX.out)).mono ?_
        rw [HAL.out]
        rintro _ X0 ⟨rfl, hb0⟩
        (try go_wp2_with fail)
        have HA0 := Lib.hid (HAX.out.below hb0)
        have HO0 := Lib.hid (own_below HOX.out hb0)
        refine hK.out _ _ (⟨HA0.out.cell (.tail _ (.tail _ (.tail _ (.head _)))) 0, HA0.out.cell (.head _) 0⟩) (fun hS => ?_)
        clear hK K
        try simp only [Act.put, putA, putZ, putS]
        clear hb0
        refine tZ 5 (oi := ⟨_, _, _, _, _, _⟩) (v := ?_) rfl (by kernel_rfl) (by rfl) (fun _ _ _ h => h) hS ?_ ?_
        rotate_left
        · rintro W' ⟨z0, z1⟩; go_simp; try with_reducible rfl
        try simp only [Act.put, putA, putZ, putS]
        refine wpAnyZ_next (rs := [6]) (by kernel_rfl) (by simp) ?_
        refine NextZ.cons (o := ⟨none, _, _, _, _, _⟩) rfl (fun K hK => ?_) NextZ.nil
        have e0 := HA0.out.cell (.tail _ (.tail _ (.tail _ (.head _)))) 0
        have f0 := HA0.out.thaw (.tail _ (.tail _ (.tail _ (.head _)))) 0
        have HO1 := Lib.hid (own_fr HO0.out (Fr.set X0 (w.heap.size + 2) 0 (.slice (some ⟨nx, 0, none⟩) k nc)) (fun g cur _ _ hg e => by subst e; rw [(HA0.out.bk _ _ _ (.tail _ (.tail _ (.tail _ (.head _))))).2] at hg; cases hg))
        have HA1 := Lib.hid (BF.set1 (i := 0) (cs' := #[.slice (some ⟨nx, 0, none⟩) k nc]) HA0.out (.tail _ (.tail _ (.tail _ (.head _)))) (.slice (some ⟨nx, 0, none⟩) k nc) (by simp) rfl (L' := [(w.heap.size + 3, #[.bool true], 4), (w.heap.size, #[.slice x1 x2 x3, .slice y1 y2 y3, .slice ra nr rc, .slice z1 z2 z3], 36), (w.heap.size + 1, #[.slice da dl dc], 72)]) (List.forall_mem_cons.2 ⟨⟨show w.heap.size + 3 ≠ w.heap.size + 2 by omega, (.head _)⟩, List.forall_mem_cons.2 ⟨⟨show w.heap.size ≠ w.heap.size + 2 by omega, (.tail _ (.head _))⟩, List.forall_mem_cons.2 ⟨⟨show w.heap.size + 1 ≠ w.heap.size + 2 by omega, (.tail _ (.tail _ (.head _)))⟩, List.forall_mem_nil _⟩⟩⟩))
        go_simp
        refine hK.out _ _ (⟨HA1.out.cell (.head _) 0, HA1.out.cell (.tail _ (.head _)) 0⟩) (fun hS => ?_)
        clear hK K
        (try simp only [Act.put])
        clear e0 f0
        refine wpAnyZ_next (rs := [7]) (by kernel_rfl) (by simp) ?_
        refine NextZ.last (o := ⟨none, _, _, _, _, _⟩) rfl (by kernel_rfl) (fun K hK => ?_)
        have e0 := HA1.out.cell (.tail _ (.head _)) 0
        have f0 := HA1.out.thaw (.tail _ (.head _)) 0
        have HO2 := Lib.hid (own_fr HO1.out (Fr.set (X0.setCell ⟨w.heap.size + 2, 0, none⟩ (.slice (some ⟨nx, 0, none⟩) k nc)) (w.heap.size + 3) 0 (.bool al)) (fun g cur _ _ hg e => by subst e; rw [(HA1.out.bk _ _ _ (.tail _ (.head _))).2] at hg; cases hg))
        have HA2 := Lib.hid (BF.set1 (i := 0) (cs' := #[.bool al]) HA1.out (.tail _ (.head _)) (.bool al) (by simp) rfl (L' := [(w.heap.size + 2, #[.slice (some ⟨nx, 0, none⟩) k nc], 72), (w.heap.size, #[.slice x1 x2 x3, .slice y1 y2 y3, .slice ra nr rc, .slice z1 z2 z3], 36), (w.heap.size + 1, #[.slice da dl dc], 72)]) (List.forall_mem_cons.2 ⟨⟨show w.heap.size + 2 ≠ w.heap.size + 3 by omega, (.head _)⟩, List.forall_mem_cons.2 ⟨⟨show w.heap.size ≠ w.heap.size + 3 by omega, (.tail _ (.tail _ (.head _)))⟩, List.forall_mem_cons.2 ⟨⟨show w.heap.size + 1 ≠ w.heap.size + 3 by omega, (.tail _ (.tail _ (.tail _ (.head _))))⟩, List.forall_mem_nil _⟩⟩⟩))
        go_simp
        refine hK.out _ _ ?_
        clear hK K e0 f0
        (try simp only [Act.put])
        refine wpAnyZ_done (by kernel_rfl) ?_ _
        have z0 := HA2.out.cell (.tail _ (.head _)) 0
        have z1 := HA2.out.cell (.head _) 0
        go_wp2_with fail
        exact bodyPost_ret (v := .tuple #[.slice (some ⟨nx, 0, none⟩) k nc, .bool al]) (by simp [results, Try.results114, go_sem, z0, z1]) rfl ⟨_, by rw [HRES.out]; simp, HO2.out, HA2.out.fr⟩
end Go.Proofs.Ytjaoflfophcibaa
