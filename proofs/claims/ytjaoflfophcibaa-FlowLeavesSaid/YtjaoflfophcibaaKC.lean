/- The reference's Both, Dead, Moved. Printed by gen_kc.py. -/
import Derived.Test.YtjaoflfophcibaaKB
namespace Go.Proofs.Ytjaoflfophcibaa
open Go.RowKit Go.Shelf

def bothM (p q : Nat → Bool) (n m : Nat) : Bool := decide (m < n) && (p m && q m)
theorem bothM_set {p q : Nat → Bool} {n : Nat} : (stA fun k => if k = n then (p n && q n) else bothM p q n k) = stA (bothM p q (n + 1)) := by
  refine stA_congr fun i _ => ?_
  unfold bothM
  by_cases e : i = n
  · subst e; rw [if_pos rfl, decide_eq_true (by omega)]; rfl
  · rw [if_neg e, show decide (i < n + 1) = decide (i < n) from decide_eq_decide.2 (by omega)]
theorem made4 (w : World) (c1 c2 c3 c4 : Array Value) (t1 t2 t3 t4 : TypeId) :
    BF w ((((w.alloc (.cells c1 t1)).alloc (.cells c2 t2)).alloc (.cells c3 t3)).alloc (.cells c4 t4)) [(w.heap.size + 1 + 1 + 1, c4, t4), (w.heap.size, c1, t1), (w.heap.size + 1, c2, t2), (w.heap.size + 1 + 1, c3, t3)] := by
  have h := (BF.made3 w c1 c2 c3 t1 t2 t3).alloc c4 t4
  simp only [World.size_alloc] at h
  exact h
set_option maxRecDepth 100000 in
set_option maxHeartbeats 4000000 in
theorem both_any (p q : Nat → Bool) (w : World) :
    Calls Try.prog 27 #[.agg (stA p), .agg (stA q)] w fun e w' => e = .returned (.agg (stA fun m => p m && q m)) ∧ Below w.heap.size w w' := by
  have HA0 : Hid (BF w ((((w.alloc (.cells (stA p) 54)).alloc (.cells (stA q) 54)).alloc (.cells Try.zeroCells54 54)).alloc (.cells Try.zeroCells54 54)) [(w.heap.size + 1 + 1 + 1, stA (fun _ => false), 54), (w.heap.size, stA p, 54), (w.heap.size + 1, stA q, 54), (w.heap.size + 1 + 1, stA fun _ => false, 54)]) := by
    have h := made4 w (stA p) (stA q) Try.zeroCells54 Try.zeroCells54 54 54 54 54
    rw [stA_zero] at h ⊢
    exact h
  go_enter Try.func27, Try.ntmps27
  go_upto_region 3 with (first | (with_reducible refine wpList_box_row (o := ⟨some 2, .box 54 (.tmp 0), _, _, _, _⟩) rfl 54 (.tmp 0) rfl (stA p) rfl ?_) | (with_reducible refine wpList_box_row (o := ⟨some 3, .box 54 (.tmp 1), _, _, _, _⟩) rfl 54 (.tmp 1) rfl (stA q) rfl ?_))
  generalize ((((w.alloc (.cells (stA p) 54)).alloc (.cells (stA q) 54)).alloc (.cells Try.zeroCells54 54)).alloc (.cells Try.zeroCells54 54)) = w1 at *
  go_loopw [6] (fun i wr => ∃ n : Nat, i = .int .i64 n ∧ n ≤ 3000 ∧ BF w wr [(w.heap.size + 1 + 1 + 1, stA (bothM p q n), 54), (w.heap.size, stA p, 54), (w.heap.size + 1, stA q, 54), (w.heap.size + 1 + 1, stA fun _ => false, 54)]) (fun i _ => (3000 - intOf i).toNat)
  case atStart => exact ⟨0, rfl, by omega, BF.stcong (p := fillM0) HA0.out (stA_congr fun i _ => by unfold fillM0 bothM; simp)⟩
  case round =>
    obtain ⟨n, rfl, hn, hbf⟩ := hrel
    rename World => wx
    have HA := Lib.hid hbf
    clear hbf HA0
    have ni : (0 : Int) ≤ (n : Int) := by omega
    by_cases hc : n < 3000
    · have nj : (n : Int) < 3000 := by omega
      have f1 : wx.cell? ⟨w.heap.size, n, none⟩ = some (.bool (p n)) := HA.out.stcell (.tail _ (.head _)) hc
      have f2 : wx.cell? ⟨w.heap.size + 1, n, none⟩ = some (.bool (q n)) := HA.out.stcell (.tail _ (.tail _ (.head _))) hc
      have f3 : wx.cell? ⟨w.heap.size + 1 + 1 + 1, n, none⟩ = some (.bool (bothM p q n n)) := HA.out.stcell (.head _) hc
      have f4 : wx.frozen? ⟨w.heap.size + 1 + 1 + 1, n, none⟩ = false := HA.out.thaw (.head _) n
      obtain ⟨a, ha⟩ : ∃ a, p n = a := ⟨_, rfl⟩
      obtain ⟨b, hb⟩ : ∃ b, q n = b := ⟨_, rfl⟩
      have HS : Hid (BF w (wx.setCell ⟨w.heap.size + 1 + 1 + 1, n, none⟩ (.bool (a && b))) [(w.heap.size + 1 + 1 + 1, stA (bothM p q (n + 1)), 54), (w.heap.size, stA p, 54), (w.heap.size + 1, stA q, 54), (w.heap.size + 1 + 1, stA fun _ => false, 54)]) := by
        rw [← bothM_set, ha, hb]
        exact HA.out.stput (.head _) (a && b) hc (List.forall_mem_cons.2 ⟨⟨show w.heap.size ≠ w.heap.size + 1 + 1 + 1 by omega, .tail _ (.head _)⟩, List.forall_mem_cons.2 ⟨⟨show w.heap.size + 1 ≠ w.heap.size + 1 + 1 + 1 by omega, .tail _ (.tail _ (.head _))⟩, List.forall_mem_cons.2 ⟨⟨show w.heap.size + 1 + 1 ≠ w.heap.size + 1 + 1 + 1 by omega, .tail _ (.tail _ (.tail _ (.head _)))⟩, List.forall_mem_nil _⟩⟩⟩)
      rw [ha] at f1
      rw [hb] at f2
      clear HA ha hb
      cases a
      · simp only [Bool.false_and] at HS
        go_wp2_with fail
        go_roundw
        case rel => exact ⟨n + 1, by go_num, by omega, HS.out⟩
        case measure => simp [intOf]; omega
      · simp only [Bool.true_and] at HS
        cases b
        all_goals
          go_wp2_with fail
          go_roundw
          case rel => exact ⟨n + 1, by go_num, by omega, HS.out⟩
          case measure => simp [intOf]; omega
    · obtain rfl : n = 3000 := by omega
      have HRES : Hid (stA (bothM p q 3000) = stA fun m => p m && q m) := stA_congr fun i hi => by unfold bothM; rw [decide_eq_true hi]; rfl
      have HG : Hid (wx.heap[w.heap.size + 1 + 1 + 1]? = some (.cells (stA (bothM p q 3000)) 54 (0, 0))) := (HA.out.bk _ _ _ (.head _)).2
      have HR : Hid (wx.heap[w.heap.size + 1 + 1]? = some (.cells (stA fun _ => false) 54 (0, 0))) := (HA.out.bk _ _ _ (.tail _ (.tail _ (.tail _ (.head _))))).2
      go_upto_region 6 with (fail)
      have HSZ := Lib.hid (stA_info (bothM p q 3000))
      refine wp_region_lit ?_
      refine wpList_load_row (o := ⟨some 21, _, _, _, _, _⟩) rfl 54 (.tmp 5) rfl (w.heap.size + 1 + 1 + 1) rfl 54 (stA (bothM p q 3000)) (0, 0) _ HG.out Try.underlying54 rfl HSZ.out ?_
      refine wpList_store_row (o := ⟨none, .store 54 (.tmp 4) (.tmp 21), _, _, _, _⟩) rfl 54 (.tmp 4) (.tmp 21) rfl (w.heap.size + 1 + 1) (stA (bothM p q 3000)) rfl rfl 54 (stA fun _ => false) HR.out HSZ.out rfl (stA_one _) ?_
      go_wp2_with fail
      refine bodyPost_ret (v := .agg (stA (bothM p q 3000))) (results_cell_row rfl _ _ (w.heap.size + 1 + 1) 54 _ (0, 0) _ rfl (setRow_heap _ _ _ _ _ _ HR.out) Try.underlying54 rfl HSZ.out) rfl ⟨by rw [HRES.out], ?_⟩
      exact HA.out.fr.trans ⟨rfl, rfl, rfl, by simp, fun q hq => setRow_other _ _ _ _ (by omega)⟩

end Go.Proofs.Ytjaoflfophcibaa
