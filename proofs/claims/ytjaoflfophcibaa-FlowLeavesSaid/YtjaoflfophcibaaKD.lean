/- The reference's Ends. Printed by gen_kd.py. -/
import Derived.Test.YtjaoflfophcibaaKC
namespace Go.Proofs.Ytjaoflfophcibaa
open Go.RowKit Go.Shelf

/-- The smallest and the greatest below n. -/
def EndP (p : Nat → Bool) (n : Nat) (lo hi : Int) : Prop :=
  (lo = 3000 ∧ hi = -1 ∧ ∀ m, m < n → p m = false) ∨ (∃ a b : Nat, lo = a ∧ hi = b ∧ a ≤ b ∧ b < n ∧ p a = true ∧ p b = true ∧ ∀ m, m < n → p m = true → a ≤ m ∧ m ≤ b)
set_option maxRecDepth 100000 in
set_option maxHeartbeats 4000000 in
theorem ends_any (p : Nat → Bool) (w : World) :
    Calls Try.prog 26 #[.agg (stA p)] w fun e w' => ∃ lo hi, e = .returned (.tuple #[.agg #[.int .i64 lo, .int .i64 hi], .bool (decide (0 ≤ hi))]) ∧ EndP p 3000 lo hi ∧ Below w.heap.size w w' := by
  have HA0 : Hid (BF w (((w.alloc (.cells (stA p) 54)).alloc (.cells #[.int .i64 0, .int .i64 0] 43)).alloc (.cells #[.int .i64 3000, .int .i64 (-1)] 43)) [(w.heap.size + 1 + 1, #[.int .i64 3000, .int .i64 (-1)], 43), (w.heap.size, stA p, 54), (w.heap.size + 1, #[.int .i64 0, .int .i64 0], 43)]) := by
    have h := BF.made3 w (stA p) #[.int .i64 0, .int .i64 0] #[.int .i64 3000, .int .i64 (-1)] 54 43 43
    exact h.sub (List.forall_mem_cons.2 ⟨.tail _ (.tail _ (.head _)), List.forall_mem_cons.2 ⟨.head _, List.forall_mem_cons.2 ⟨.tail _ (.head _), List.forall_mem_nil _⟩⟩⟩)
  go_enter Try.func26, Try.ntmps26
  go_upto_region 3 with (first | (with_reducible refine wpList_box_row (o := ⟨some 1, .box 54 (.tmp 0), _, _, _, _⟩) rfl 54 (.tmp 0) rfl (stA p) rfl ?_))
  generalize (((w.alloc (.cells (stA p) 54)).alloc (.cells #[.int .i64 0, .int .i64 0] 43)).alloc (.cells #[.int .i64 3000, .int .i64 (-1)] 43)) = w1 at *
  go_loopw [5] (fun i wr => ∃ (n : Nat) (lo hi : Int), i = .int .i64 n ∧ n ≤ 3000 ∧ EndP p n lo hi ∧ BF w wr [(w.heap.size + 1 + 1, #[.int .i64 lo, .int .i64 hi], 43), (w.heap.size, stA p, 54), (w.heap.size + 1, #[.int .i64 0, .int .i64 0], 43)]) (fun i _ => (3000 - intOf i).toNat)
  case atStart => exact ⟨0, _, _, rfl, by omega, .inl ⟨rfl, rfl, fun m h => absurd h (Nat.not_lt_zero _)⟩, HA0.out⟩
  case round =>
    obtain ⟨n, lo, hi, rfl, hn, hep, hbf⟩ := hrel
    rename World => wx
    have HA := Lib.hid hbf; have HEP := Lib.hid hep
    clear hbf HA0
    have ni : (0 : Int) ≤ (n : Int) := by omega
    by_cases hc : n < 3000
    · have nj : (n : Int) < 3000 := by omega
      have f1 : wx.cell? ⟨w.heap.size, n, none⟩ = some (.bool (p n)) := HA.out.stcell (.tail _ (.head _)) hc
      have c0 : wx.cell? ⟨w.heap.size + 1 + 1, 0, none⟩ = some (.int .i64 lo) := HA.out.cell (.head _) 0
      have d0 : wx.frozen? ⟨w.heap.size + 1 + 1, 0, none⟩ = false := HA.out.thaw (.head _) 0
      have c1 : wx.cell? ⟨w.heap.size + 1 + 1, 1, none⟩ = some (.int .i64 hi) := HA.out.cell (.head _) 1
      have d1 : wx.frozen? ⟨w.heap.size + 1 + 1, 1, none⟩ = false := HA.out.thaw (.head _) 1
      have HSET : Hid (∀ l : Int, BF w ((wx.setCell ⟨w.heap.size + 1 + 1, 0, none⟩ (.int .i64 l)).setCell ⟨w.heap.size + 1 + 1, 1, none⟩ (.int .i64 (n : Int))) [(w.heap.size + 1 + 1, #[.int .i64 l, .int .i64 (n : Int)], 43), (w.heap.size, stA p, 54), (w.heap.size + 1, #[.int .i64 0, .int .i64 0], 43)]) := fun l =>
        BF.set2 HA.out (.head _) (.int .i64 l) (.int .i64 (n : Int)) (List.forall_mem_cons.2 ⟨⟨show w.heap.size ≠ w.heap.size + 1 + 1 by omega, .tail _ (.head _)⟩, List.forall_mem_cons.2 ⟨⟨show w.heap.size + 1 ≠ w.heap.size + 1 + 1 by omega, .tail _ (.tail _ (.head _))⟩, List.forall_mem_nil _⟩⟩)
      obtain ⟨a, ha⟩ : ∃ a, p n = a := ⟨_, rfl⟩
      have HPN := Lib.hid ha
      rw [ha] at f1
      clear ha
      cases a
      · clear c0 c1 d0 d1 HSET hep
        go_wp2_with fail
        go_roundw
        case rel =>
          refine ⟨n + 1, lo, hi, by go_num, by omega, ?_, HA.out⟩
          have hp := HPN.out
          rcases HEP.out with ⟨h1, h2, h3⟩ | ⟨a, b, h1, h2, h3, h4, h5, h6, h7⟩
          · exact .inl ⟨h1, h2, fun m hm => by
              by_cases e : m = n
              · rw [e]; exact hp
              · exact h3 m (by omega)⟩
          · exact .inr ⟨a, b, h1, h2, h3, by omega, h5, h6, fun m hm h => h7 m (by
              by_cases e : m = n
              · rw [e, hp] at h; cases h
              · omega) h⟩
        case measure => simp [intOf]; omega
      · clear HA
        rcases hep with ⟨h1, h2, h3⟩ | ⟨a, b, h1, h2, h3, h4, h5, h6, h7⟩
        · subst h1; subst h2
          have H3 := Lib.hid h3
          clear h3
          go_wp2_with fail
          all_goals
            first
              | (exfalso; omega)
              | (go_roundw
                 case rel => exact ⟨n + 1, n, n, by go_num, by omega, .inr ⟨n, n, rfl, rfl, Nat.le_refl _, by omega, HPN.out, HPN.out, fun m hm h => by
                   by_cases e : m = n
                   · omega
                   · rw [H3.out m (by omega)] at h; cases h⟩, HSET.out _⟩
                 case measure => simp [intOf]; omega)
        · subst h1; subst h2
          have H5 := Lib.hid h5; have H7 := Lib.hid h7
          have han : (a : Int) ≤ (n : Int) := by omega
          clear h5 h6 h7
          go_wp2_with fail
          all_goals
            first
              | (exfalso; omega)
              | (go_roundw
                 case rel => exact ⟨n + 1, a, n, by go_num, by omega, .inr ⟨a, n, rfl, rfl, by omega, by omega, H5.out, HPN.out, fun m hm h => by
                   by_cases e : m = n
                   · omega
                   · have := H7.out m (by omega) h; omega⟩, HSET.out _⟩
                 case measure => simp [intOf]; omega)
    · obtain rfl : n = 3000 := by omega
      clear hep
      go_wp2_with fail
      have HAX : Hid (BF w wx.drew [(w.heap.size + 1 + 1, #[.int .i64 lo, .int .i64 hi], 43), (w.heap.size + 1, #[.int .i64 0, .int .i64 0], 43)]) := (HA.out.sub (List.forall_mem_cons.2 ⟨.head _, List.forall_mem_cons.2 ⟨.tail _ (.tail _ (.head _)), List.forall_mem_nil _⟩⟩)).below (Below.refl _ wx).drew
      refine wp_region_held_drew (S := fun X => X.cell? ⟨w.heap.size + 1 + 1, 0, none⟩ = some (.int .i64 lo) ∧ X.cell? ⟨w.heap.size + 1 + 1, 1, none⟩ = some (.int .i64 hi)) (by kernel_rfl) (⟨HAX.out.cell (.head _) 0, HAX.out.cell (.head _) 1⟩) (fun hS => ?_)
      generalize wx.drew = X at *
      refine tk [0, 1, 2] ?_
      repeat (refine tkH (oi := ⟨_, _, _, _, _, _⟩) (v := ?_) rfl (by kernel_rfl) (by rfl) (fun _ _ _ h => h) hS ?_ ?_; rotate_left; (· rintro W' ⟨z0, z1⟩; go_simp; try with_reducible rfl); try simp only [Act.put, putA, putZ, putS])
      refine tk0 ?_
      refine tH 3 (oi := ⟨_, _, _, _, _, _⟩) (v := .bool (decide (0 ≤ hi))) rfl (by kernel_rfl) (by rfl) (fun _ _ _ h => h) hS ?_ ?_
      · rintro W' ⟨z0, z1⟩; go_simp
      try simp only [Act.put, putA, putZ, putS]
      refine wpAnyH_ready (rs := [4]) (by kernel_rfl) (by simp) ?_
      refine AllReadyH.cons (o := ⟨none, _, _, _, _, _⟩) rfl (fun K hK => ?_) AllReadyH.nil
      have e0 := HAX.out.cell (.tail _ (.head _)) 0
      have f0 := HAX.out.thaw (.tail _ (.head _)) 0
      have e1 := HAX.out.cell (.tail _ (.head _)) 1
      have f1 := HAX.out.thaw (.tail _ (.head _)) 1
      have HA0 := Lib.hid (BF.set2 HAX.out (.tail _ (.head _)) (.int .i64 lo) (.int .i64 hi) (L' := [(w.heap.size + 1 + 1, #[.int .i64 lo, .int .i64 hi], 43)]) (List.forall_mem_cons.2 ⟨⟨show w.heap.size + 1 + 1 ≠ w.heap.size + 1 by omega, .head _⟩, List.forall_mem_nil _⟩))
      go_simp
      refine hK.out _ _ (⟨HA0.out.cell (.tail _ (.head _)) 0, HA0.out.cell (.tail _ (.head _)) 1⟩) (fun hS => ?_)
      clear hK K
      (try simp only [Act.put])
      clear e0 e1 f0 f1
      refine tH 5 (oi := ⟨_, _, _, _, _, _⟩) (v := ?_) rfl (by kernel_rfl) (by rfl) (fun _ _ _ h => h) hS ?_ ?_
      rotate_left
      · rintro W' ⟨z0, z1⟩; go_simp; try with_reducible rfl
      try simp only [Act.put, putA, putZ, putS]
      refine wpAnyH_done (by kernel_rfl) ?_ _
      have c0 := HA0.out.cell (.head _) 0
      have c1 := HA0.out.cell (.head _) 1
      have HFIN := Lib.hid HA0.out.fr
      generalize ((X.setCell ⟨w.heap.size + 1, 0, none⟩ (.int .i64 lo)).setCell ⟨w.heap.size + 1, 1, none⟩ (.int .i64 hi)) = wf at *
      go_wp2_with fail
      refine bodyPost_ret (v := .tuple #[.agg #[.int .i64 lo, .int .i64 hi], .bool (decide (0 ≤ hi))]) (by simp [results, Try.results26, go_sem, c0, c1]) rfl ⟨lo, hi, rfl, HEP.out, HFIN.out⟩
end Go.Proofs.Ytjaoflfophcibaa
