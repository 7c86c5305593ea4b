/- (age.Rule).answer. -/
import Derived.Test.YtagfcfojfjkmbaaS2
namespace Go.Proofs.Ytagfcfojfjkmbaa
open Go.RowKit Go.Shelf

/-- Some of the first k ages is in a range; some is not. -/
def ansI (fl : Nat → Bool) (lo hi : Int) : Nat → Bool
  | 0 => false
  | k + 1 => ansI fl lo hi k || (fl k && inB k lo hi)
def ansO (fl : Nat → Bool) (lo hi : Int) : Nat → Bool
  | 0 => false
  | k + 1 => ansO fl lo hi k || (fl k && !inB k lo hi)

set_option maxRecDepth 100000 in
set_option maxHeartbeats 8000000 in
theorem answer_any (f b m e n lo hi : Int) (w : World) (hr : okRule f b m e = true) :
    Calls Try.prog 89 #[.agg #[.int .i64 f, .int .i64 b, .int .i64 m, .int .i64 e], .int .i64 n, .agg #[.int .i64 lo, .int .i64 hi]] w fun r w' => r = .returned (.agg #[.bool (ansI (agesF f b m e n 126) lo hi 121), .bool (ansO (agesF f b m e n 126) lo hi 121)]) ∧ Below w.heap.size w w' := by
  obtain ⟨g0, g1, g2, g3, g4, g5, g6, g7⟩ := okRule_bd hr
  have HAG := Lib.hid (fun W => ages_any f b m e n W g2 g3 g4 g5 g6 g7)
  unfold ruleV at HAG
  clear hr g0 g1 g2 g3 g4 g5 g6 g7
  generalize agesF f b m e n 126 = fl at *
  have HX := Lib.hid (run_index_flags' fl)
  obtain ⟨_, hb3, q0, q1, q2⟩ := alloc3 w (.cells #[.int .i64 f, .int .i64 b, .int .i64 m, .int .i64 e] 80) (.cells #[.int .i64 lo, .int .i64 hi] 41) (.cells #[.bool false, .bool false] 143)
  have HB0 := Lib.hid hb3; have HQ1 := Lib.hid q1; have HQ2 := Lib.hid q2
  clear hb3 q0 q1 q2
  go_enter Try.func89, Try.ntmps89
  go_wp2_with fail
  refine (HAG.out _).mono ?_
  rintro _ w1 ⟨rfl, hb1⟩
  have HB1 : Hid (Below w.heap.size w w1) := below_step HB0.out hb1
  have HK1 : Hid (w1.heap[w.heap.size + 1]? = some (.cells #[.int .i64 lo, .int .i64 hi] 41 (0, 0))) := (hb1.block _ (by simp)).trans HQ1.out
  have HK2 : Hid (w1.heap[w.heap.size + 2]? = some (.cells #[.bool false, .bool false] 143 (0, 0))) := (hb1.block _ (by simp)).trans HQ2.out
  have hs1 : w.heap.size + 2 < w1.heap.size := (Array.getElem?_eq_some_iff.1 HK2.out).1
  clear hb1 HB0 HQ1 HQ2
  go_wp2
  go_loopw [13] (fun i wr => ∃ k : Nat, k ≤ 121 ∧ i = .int .i64 k ∧ wr.heap[w.heap.size + 1]? = some (.cells #[.int .i64 lo, .int .i64 hi] 41 (0, 0)) ∧ wr.heap[w.heap.size + 2]? = some (.cells #[.bool (ansI fl lo hi k), .bool (ansO fl lo hi k)] 143 (0, 0)) ∧ Below w.heap.size w wr) (fun i _ => 121 - (intOf i).toNat)
  case atStart => exact ⟨0, by omega, rfl, HK1.out, HK2.out, HB1.out⟩
  case round =>
    clear HK1 HK2 HB1
    obtain ⟨k, hk, rfl, hk1, hk2, hbl⟩ := hrel
    have HK1 := Lib.hid hk1; have HK2 := Lib.hid hk2; have HBL := Lib.hid hbl
    have d0 : wr.cell? ⟨w.heap.size + 1, 0, none⟩ = some (.int .i64 lo) := cell_of_row _ _ 0 _ _ _ hk1
    have d1 : wr.cell? ⟨w.heap.size + 1, 1, none⟩ = some (.int .i64 hi) := cell_of_row _ _ 1 _ _ _ hk1
    have e0 : wr.cell? ⟨w.heap.size + 1 + 1, 0, none⟩ = some (.bool (ansI fl lo hi k)) := cell_of_row _ _ 0 _ _ _ hk2
    have e1 : wr.cell? ⟨w.heap.size + 1 + 1, 1, none⟩ = some (.bool (ansO fl lo hi k)) := cell_of_row _ _ 1 _ _ _ hk2
    have f0 : wr.frozen? ⟨w.heap.size + 1 + 1, 0, none⟩ = false := frozen_of_row _ _ 0 _ _ hk2
    have f1 : wr.frozen? ⟨w.heap.size + 1 + 1, 1, none⟩ = false := frozen_of_row _ _ 1 _ _ hk2
    have hszr : w.heap.size + 2 < wr.heap.size := (Array.getElem?_eq_some_iff.1 hk2).1
    clear hk1 hk2 hbl
    by_cases hlt : k < 121
    · have hx := HX.out wr k hlt
      have HI : Hid (ansI fl lo hi (k + 1) = (ansI fl lo hi k || (fl k && inB k lo hi))) := rfl
      have HO : Hid (ansO fl lo hi (k + 1) = (ansO fl lo hi k || (fl k && !inB k lo hi))) := rfl
      generalize ansI fl lo hi k = sI at *
      generalize ansO fl lo hi k = sO at *
      generalize fl k = fk at *
      have HW := Lib.hid (within_any k lo hi)
      generalize inB k lo hi = iB at *
      cases sI <;> cases sO <;> cases fk <;> cases iB
      all_goals
        go_wp2_with (go_at_call 62; refine (HW.out _).mono ?_; rintro _ _ ⟨rfl, rfl⟩)
        go_roundw
        case rel =>
          refine ⟨k + 1, by omega, by go_num, ?_, ?_, (HBL.out.setCell (by show w.heap.size ≤ w.heap.size + 1 + 1; omega) _).setCell (by show w.heap.size ≤ w.heap.size + 1 + 1; omega) _⟩
          · exact ((Fr.set _ _ _ _).block _ (by simp [World.setCell]; omega) (by omega)).trans (((Fr.set wr (w.heap.size + 1 + 1) _ _).block _ (by omega) (by omega)).trans HK1.out)
          · rw [HI.out, HO.out]
            simp [World.setCell, Array.getElem?_modify, HK2.out]
        case measure => simp [intOf]; omega
    · obtain rfl : k = 121 := by omega
      have HS : Hid (Option.map (fun x => x.size) (Try.prog.info? 143) = some (#[Value.bool (ansI fl lo hi 121), Value.bool (ansO fl lo hi 121)] : Array Value).size) := by unfold Hid; kernel_rfl
      go_wp2
      refine bodyPost_ret (v := .agg #[.bool (ansI fl lo hi 121), .bool (ansO fl lo hi 121)]) (results_cell_row rfl _ _ (w.heap.size + 2) 143 _ (0, 0) _ rfl (by simp [World.setCell, Array.getElem?_modify, HK2.out]) Try.underlying143 rfl HS.out) rfl ⟨rfl, ?_⟩
      exact (HBL.out.setCell (by show w.heap.size ≤ w.heap.size + 1 + 1; omega) _).setCell (by show w.heap.size ≤ w.heap.size + 1 + 1; omega) _
end Go.Proofs.Ytagfcfojfjkmbaa
