/- age.Count: every argument. -/
import Derived.Test.YtagfcfojfjkmbaaS8
namespace Go.Proofs.Ytagfcfojfjkmbaa
open Go.RowKit Go.Shelf Go.Maps

def cntBad (lo hi : Int) (z : Nat → Int) (n : Nat) : Bool := !allB (fun j => inB (z j) 0 140) n || decide (lo < 0) || decide (hi < lo) || decide (120 < hi)
def cntErr (f b m e lo hi : Int) (z : Nat → Int) (n : Nat) : Int := if okRule f b m e = false then 1 else if 200 < n then 3 else if cntBad lo hi z n = true then 2 else 0
def cntV (f b m e lo hi : Int) (z : Nat → Int) (n : Nat) : Value :=
  if cntErr f b m e lo hi z n = 0 then cntRes (cntI f b m e lo hi) (cntO f b m e lo hi) z n else .tuple #[.agg #[.int .i64 0, .int .i64 0], .int .i64 (cntErr f b m e lo hi z n)]

set_option maxRecDepth 100000 in
set_option maxHeartbeats 8000000 in
theorem count_any (f b m e lo hi : Int) (sv : Value) (n : Nat) (z : Nat → Int) (w : World) (hz : IntsAt w sv n z) (hn : n ≤ 100000) :
    Calls Try.prog 59 #[.agg #[.int .i64 f, .int .i64 b, .int .i64 m, .int .i64 e], sv, .agg #[.int .i64 lo, .int .i64 hi]] w fun r w' => r = .returned (cntV f b m e lo hi z n) ∧ Below w.heap.size w w' := by
  obtain ⟨_, hb3, q0, q1, q2⟩ := alloc3 w (.cells #[.int .i64 f, .int .i64 b, .int .i64 m, .int .i64 e] 80) (.cells #[.int .i64 lo, .int .i64 hi] 41) (.cells #[.int .i64 0, .int .i64 0] 41)
  have HB0 := Lib.hid hb3; have HQ1 := Lib.hid q1; have HQ2 := Lib.hid q2
  have HRB : Hid (∀ X : World, X.heap[w.heap.size + 1 + 1]? = some (.cells #[.int .i64 0, .int .i64 0] 41 (0, 0)) → ((X.setCell ⟨w.heap.size + 1 + 1, 0, none⟩ (.int .i64 0)).setCell ⟨w.heap.size + 1 + 1, 1, none⟩ (.int .i64 0)).heap[w.heap.size + 1 + 1]? = some (.cells #[.int .i64 0, .int .i64 0] 41 (0, 0))) := fun X hX => by simp [World.setCell, Array.getElem?_modify, hX]
  clear hb3 q0 q1 q2
  cases hr : okRule f b m e
  · have hE : cntErr f b m e lo hi z n = 1 := by unfold cntErr; rw [if_pos hr]
    have hV : cntV f b m e lo hi z n = .tuple #[.agg #[.int .i64 0, .int .i64 0], .int .i64 1] := by unfold cntV; rw [hE]; rfl
    rw [hV]
    obtain ⟨a, cap, rfl⟩ := hz.len
    clear hE hV hz
    go_enter Try.func59, Try.ntmps59
    go_wp2_with (go_at_call 78; refine (valid_any f b m e _).mono ?_; rintro r w1 ⟨rfl, hb1⟩; have k2 := (hb1.block _ (by simp)).trans HQ2.out; have x0 := cell_of_row _ _ 0 _ _ _ k2; have x1 := cell_of_row _ _ 1 _ _ _ k2; have x2 := frozen_of_row _ _ 0 _ _ k2; have x3 := frozen_of_row _ _ 1 _ _ k2)
    have hrow := HRB.out w1 k2
    have r0 := cell_of_row _ _ 0 _ _ _ hrow
    have r1 := cell_of_row _ _ 1 _ _ _ hrow
    refine bodyPost_ret (v := .tuple #[.agg #[.int .i64 0, .int .i64 0], .int .i64 1]) (by simp [results, Try.results59, go_sem, r0, r1]) rfl ⟨rfl, ?_⟩
    exact ((below_step HB0.out hb1).setCell (by show w.heap.size ≤ w.heap.size + 1 + 1; omega) _).setCell (by show w.heap.size ≤ w.heap.size + 1 + 1; omega) _
  by_cases h200 : 200 < n
  · have hE : cntErr f b m e lo hi z n = 3 := by unfold cntErr; rw [if_neg (by rw [hr]; decide), if_pos h200]
    have hV : cntV f b m e lo hi z n = .tuple #[.agg #[.int .i64 0, .int .i64 0], .int .i64 3] := by unfold cntV; rw [hE]; rfl
    rw [hV]
    obtain ⟨a, cap, rfl⟩ := hz.len
    clear hE hV hz
    go_enter Try.func59, Try.ntmps59
    go_wp2_with (go_at_call 78; refine (valid_any f b m e _).mono ?_; rintro r w1 ⟨rfl, hb1⟩; have k2 := (hb1.block _ (by simp)).trans HQ2.out; have x0 := cell_of_row _ _ 0 _ _ _ k2; have x1 := cell_of_row _ _ 1 _ _ _ k2; have x2 := frozen_of_row _ _ 0 _ _ k2; have x3 := frozen_of_row _ _ 1 _ _ k2)
    have hrow := HRB.out w1 k2
    have r0 := cell_of_row _ _ 0 _ _ _ hrow
    have r1 := cell_of_row _ _ 1 _ _ _ hrow
    refine bodyPost_ret (v := .tuple #[.agg #[.int .i64 0, .int .i64 0], .int .i64 3]) (by simp [results, Try.results59, go_sem, r0, r1]) rfl ⟨rfl, ?_⟩
    exact ((below_step HB0.out hb1).setCell (by show w.heap.size ≤ w.heap.size + 1 + 1; omega) _).setCell (by show w.heap.size ≤ w.heap.size + 1 + 1; omega) _
  cases hbd : cntBad lo hi z n
  · have hE : cntErr f b m e lo hi z n = 0 := by unfold cntErr; rw [if_neg (by rw [hr]; decide), if_neg h200, if_neg (by rw [hbd]; decide)]
    have hV : cntV f b m e lo hi z n = cntRes (cntI f b m e lo hi) (cntO f b m e lo hi) z n := by unfold cntV; rw [hE]; rfl
    rw [hV]
    simp only [cntBad, Bool.or_eq_false_iff, Bool.not_eq_false', decide_eq_false_iff_not] at hbd
    obtain ⟨⟨⟨b1, b2⟩, b3⟩, b4⟩ := hbd
    exact count_ok f b m e lo hi sv n z w hr hz (by omega) b1 (by omega) (by omega) (by omega)
  · have hE : cntErr f b m e lo hi z n = 2 := by unfold cntErr; rw [if_neg (by rw [hr]; decide), if_neg h200, if_pos hbd]
    have hV : cntV f b m e lo hi z n = .tuple #[.agg #[.int .i64 0, .int .i64 0], .int .i64 2] := by unfold cntV; rw [hE]; rfl
    rw [hV]
    obtain ⟨a, cap, rfl⟩ := hz.len
    have HZ := Lib.hid hz
    clear hE hV hz
    simp only [cntBad, Bool.or_eq_true, Bool.not_eq_true', decide_eq_true_eq] at hbd
    have hcs : allB (fun j => inB (z j) 0 140) n = false ∨ (allB (fun j => inB (z j) 0 140) n = true ∧ lo < 0) ∨ (allB (fun j => inB (z j) 0 140) n = true ∧ ¬ lo < 0 ∧ hi < lo) ∨ (allB (fun j => inB (z j) 0 140) n = true ∧ ¬ lo < 0 ∧ ¬ hi < lo ∧ 120 < hi) := by
      cases hA : allB (fun j => inB (z j) 0 140) n
      · exact .inl rfl
      · rw [hA] at hbd
        have hbd : (lo < 0 ∨ hi < lo) ∨ 120 < hi := by simpa using hbd
        by_cases p1 : lo < 0
        · exact .inr (.inl ⟨rfl, p1⟩)
        · by_cases p2 : hi < lo
          · exact .inr (.inr (.inl ⟨rfl, p1, p2⟩))
          · exact .inr (.inr (.inr ⟨rfl, p1, p2, by omega⟩))
    clear hbd
    have hnl : n ≤ 100000 := hn
    rcases hcs with c1 | ⟨c1, c2⟩ | ⟨c1, c2, c3⟩ | ⟨c1, c2, c3, c4⟩
    all_goals
      go_enter Try.func59, Try.ntmps59
      go_wp2_with (first | (go_at_call 78; refine (valid_any f b m e _).mono ?_; rintro r w1 ⟨rfl, hb1⟩; have hz1 := HZ.out.below (below_step HB0.out hb1); have k2 := (hb1.block _ (by simp)).trans HQ2.out; have k1 := (hb1.block _ (by simp)).trans HQ1.out; have hs1 := (Array.getElem?_eq_some_iff.1 k2).1) | (go_at_call 63; refine (all_int n _ z _ hnl hz1).mono ?_; rintro r w2 ⟨rfl, hb2⟩; have j2 := (hb2.block _ hs1).trans k2; have j1 := (hb2.block _ (Array.getElem?_eq_some_iff.1 k1).1).trans k1; have x0 := cell_of_row _ _ 0 _ _ _ j2; have x1 := cell_of_row _ _ 1 _ _ _ j2; have x2 := frozen_of_row _ _ 0 _ _ j2; have x3 := frozen_of_row _ _ 1 _ _ j2; have y0 := cell_of_row _ _ 0 _ _ _ j1; have y1 := cell_of_row _ _ 1 _ _ _ j1))
      have hrow := HRB.out w2 j2
      have r0 := cell_of_row _ _ 0 _ _ _ hrow
      have r1 := cell_of_row _ _ 1 _ _ _ hrow
      refine bodyPost_ret (v := .tuple #[.agg #[.int .i64 0, .int .i64 0], .int .i64 2]) (by simp [results, Try.results59, go_sem, r0, r1]) rfl ⟨rfl, ?_⟩
      exact ((below_step (below_step HB0.out hb1) hb2).setCell (by show w.heap.size ≤ w.heap.size + 1 + 1; omega) _).setCell (by show w.heap.size ≤ w.heap.size + 1 + 1; omega) _
end Go.Proofs.Ytagfcfojfjkmbaa
