/- The reference's Filled. Printed by gen_kb.py. -/
import Derived.Test.YtjaoflfophcibaaKA
import Derived.Test.YtjaoflfophcibaaPI
namespace Go.Proofs.Ytjaoflfophcibaa
open Go.RowKit Go.Shelf

theorem BF.stput {w X : World} {L : List (Nat × Array Value × TypeId)} {b i : Nat} {p : Nat → Bool} {T : TypeId} (h : BF w X L) (hb : (b, stA p, T) ∈ L) (v : Bool) (hi : i < 3000) {L' : List (Nat × Array Value × TypeId)} (hl : ∀ y, y ∈ L' → y.1 ≠ b ∧ y ∈ L) :
    BF w (X.setCell ⟨b, i, none⟩ (.bool v)) ((b, stA fun k => if k = i then v else p k, T) :: L') := BF.set1 h hb (.bool v) (by rw [stA_size]; exact hi) (stA_set p i v) hl
theorem BF.stcell {w X : World} {L : List (Nat × Array Value × TypeId)} {b i : Nat} {p : Nat → Bool} {T : TypeId} (h : BF w X L) (hb : (b, stA p, T) ∈ L) (hi : i < 3000) : X.cell? ⟨b, i, none⟩ = some (.bool (p i)) := (h.cell hb i).trans (stA_get p i hi)
def fillM0 : Nat → Bool := fun _ => false
theorem BF.stcong {w X : World} {L : List (Nat × Array Value × TypeId)} {b : Nat} {p q : Nat → Bool} {T : TypeId} (h : BF w X ((b, stA p, T) :: L)) (e : stA p = stA q) : BF w X ((b, stA q, T) :: L) := by rw [← e]; exact h
def fillP (lo hi : Int) (i : Nat) : Bool := decide (lo ≤ i ∧ (i : Int) ≤ hi)
def fillM (lo n : Int) (i : Nat) : Bool := decide (lo ≤ i ∧ (i : Int) < n)
theorem fillM_set {lo : Int} {n : Nat} (h : lo ≤ n) : (stA fun k => if k = n then true else fillM lo (n : Int) k) = stA (fillM lo ((n : Int) + 1)) := by
  refine stA_congr fun i _ => ?_
  unfold fillM
  by_cases e : i = n
  · rw [if_pos e]; exact (decide_eq_true (by omega)).symm
  · rw [if_neg e]; exact decide_eq_decide.2 (by omega)
set_option maxRecDepth 100000 in
set_option maxHeartbeats 4000000 in
theorem filled_any (lo hi : Int) (w : World) :
    Calls Try.prog 64 #[.agg #[.int .i64 lo, .int .i64 hi]] w fun e w' => e = .returned (.agg (stA (fillP lo hi))) ∧ Below w.heap.size w w' := by
  have HA0 : Hid (BF w (((w.alloc (.cells #[.int .i64 lo, .int .i64 hi] 43)).alloc (.cells Try.zeroCells54 54)).alloc (.cells Try.zeroCells54 54)) [(w.heap.size + 1 + 1, stA (fun _ => false), 54), (w.heap.size, #[.int .i64 lo, .int .i64 hi], 43), (w.heap.size + 1, stA fun _ => false, 54)]) := by
    have h := BF.made3 w #[.int .i64 lo, .int .i64 hi] Try.zeroCells54 Try.zeroCells54 43 54 54
    rw [stA_zero] at h ⊢
    exact h.sub (List.forall_mem_cons.2 ⟨.tail _ (.tail _ (.head _)), List.forall_mem_cons.2 ⟨.head _, List.forall_mem_cons.2 ⟨.tail _ (.head _), List.forall_mem_nil _⟩⟩⟩)
  go_enter Try.func64, Try.ntmps64
  go_upto_region 3 with (fail)
  all_goals
    generalize (((w.alloc (.cells #[.int .i64 lo, .int .i64 hi] 43)).alloc (.cells Try.zeroCells54 54)).alloc (.cells Try.zeroCells54 54)) = w1 at *
    go_loopw [4] (fun i wr => ∃ n : Int, i = .int .i64 n ∧ 0 ≤ n ∧ lo ≤ n ∧ (n = max 0 lo ∨ (n ≤ hi + 1 ∧ n ≤ 3000)) ∧ BF w wr [(w.heap.size + 1 + 1, stA (fillM lo n), 54), (w.heap.size, #[.int .i64 lo, .int .i64 hi], 43), (w.heap.size + 1, stA fun _ => false, 54)]) (fun i _ => (3000 - intOf i).toNat)
    case atStart => exact ⟨max 0 lo, by first | rw [Int.max_eq_right (by omega)] | rw [Int.max_eq_left (by omega)], by omega, by omega, .inl rfl, by
      have h := HA0.out
      have e : (stA fillM0) = stA (fillM lo (max 0 lo)) := stA_congr fun i _ => (decide_eq_false (by omega)).symm
      exact BF.stcong (p := fillM0) h e⟩
    case round =>
      obtain ⟨n, rfl, hn0, hnl, hnq, hbf⟩ := hrel
      rename World => wx
      have HA := Lib.hid hbf; have HNQ := Lib.hid hnq
      clear hbf hnq HA0
      have c1 := HA.out.cell (.tail _ (.head _)) 1
      by_cases hc : n ≤ hi ∧ n ≤ 2999
      · obtain ⟨h1, h2⟩ := hc
        obtain ⟨k, rfl⟩ := Int.eq_ofNat_of_zero_le hn0
        have f1 : wx.cell? ⟨w.heap.size + 1 + 1, k, none⟩ = some (.bool (fillM lo (k : Int) k)) := HA.out.stcell (.head _) (by omega)
        have f2 : wx.frozen? ⟨w.heap.size + 1 + 1, k, none⟩ = false := HA.out.thaw (.head _) k
        have HS : Hid (BF w (wx.setCell ⟨w.heap.size + 1 + 1, k, none⟩ (.bool true)) [(w.heap.size + 1 + 1, stA (fillM lo ((k : Int) + 1)), 54), (w.heap.size, #[.int .i64 lo, .int .i64 hi], 43), (w.heap.size + 1, stA fun _ => false, 54)]) := by
          rw [← fillM_set hnl]
          exact HA.out.stput (.head _) true (by omega) (List.forall_mem_cons.2 ⟨⟨show w.heap.size ≠ w.heap.size + 1 + 1 by omega, .tail _ (.head _)⟩, List.forall_mem_cons.2 ⟨⟨show w.heap.size + 1 ≠ w.heap.size + 1 + 1 by omega, .tail _ (.tail _ (.head _))⟩, List.forall_mem_nil _⟩⟩)
        clear HA
        go_wp2_with fail
        all_goals
          go_roundw
          case rel => exact ⟨(k : Int) + 1, by go_num, by omega, by omega, .inr (by omega), HS.out⟩
          case measure => simp [intOf]; omega
      · have HRES : Hid (stA (fillM lo n) = stA (fillP lo hi)) := by
          refine stA_congr fun i hi' => ?_
          have := HNQ.out
          unfold fillM fillP
          exact decide_eq_decide.2 (by omega)
        clear HNQ
        by_cases hh : hi ≤ 2999
        all_goals
          first | have hx : ¬ n ≤ hi := by omega | have hx : ¬ n ≤ 2999 := by omega
          clear hc
          go_upto_region 6 with (fail)
          have HG : Hid (wx.heap[w.heap.size + 1 + 1]? = some (.cells (stA (fillM lo n)) 54 (0, 0))) := (HA.out.bk _ _ _ (.head _)).2
          have HR : Hid (wx.heap[w.heap.size + 1]? = some (.cells (stA fun _ => false) 54 (0, 0))) := (HA.out.bk _ _ _ (.tail _ (.tail _ (.head _)))).2
          have HSZ := Lib.hid (stA_info (fillM lo n))
          refine wp_region_lit ?_
          refine wpList_load_row (o := ⟨some 17, _, _, _, _, _⟩) rfl 54 (.tmp 3) rfl (w.heap.size + 1 + 1) rfl 54 (stA (fillM lo n)) (0, 0) _ HG.out Try.underlying54 rfl HSZ.out ?_
          refine wpList_store_row (o := ⟨none, .store 54 (.tmp 2) (.tmp 17), _, _, _, _⟩) rfl 54 (.tmp 2) (.tmp 17) rfl (w.heap.size + 1) (stA (fillM lo n)) rfl rfl 54 (stA fun _ => false) HR.out HSZ.out rfl (stA_one _) ?_
          go_wp2_with fail
          refine bodyPost_ret (v := .agg (stA (fillM lo n))) (results_cell_row rfl _ _ (w.heap.size + 1) 54 _ (0, 0) _ rfl (setRow_heap _ _ _ _ _ _ HR.out) Try.underlying54 rfl HSZ.out) rfl ⟨by rw [HRES.out], ?_⟩
          exact HA.out.fr.trans ⟨rfl, rfl, rfl, by simp, fun q hq => setRow_other _ _ _ _ (by omega)⟩
end Go.Proofs.Ytjaoflfophcibaa
