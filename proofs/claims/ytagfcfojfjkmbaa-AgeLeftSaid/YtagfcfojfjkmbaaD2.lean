/- ints; awake. -/
import Derived.Test.YtagfcfojfjkmbaaD1
namespace Go.Proofs.Ytagfcfojfjkmbaa
open Go.RowKit Go.Shelf

def eqL (n m : Nat) (x y : Nat → Int) : Bool := (n == m) && allB (fun j => x j == y j) n

set_option maxRecDepth 100000 in
set_option maxHeartbeats 2000000 in
theorem ints_any (va vb : Value) (n m : Nat) (x y : Nat → Int) (w : World) (ha : IntsAt w va n x) (hb : IntsAt w vb m y) (hn : n ≤ 100000) (hm : m ≤ 100000) :
    Calls Try.prog 34 #[va, vb] w fun e w' => e = .returned (.bool (eqL n m x y)) ∧ Below w.heap.size w w' := by
  obtain ⟨a, ca, rfl⟩ := ha.len
  obtain ⟨b, cb, rfl⟩ := hb.len
  have HA := Lib.hid ha; have HB := Lib.hid hb; clear ha hb
  by_cases hnm : n = m
  · subst hnm
    have HEQ : Hid (eqL n n x y = allB (fun j => x j == y j) n) := by unfold Hid eqL; simp
    have hne : ((n : Int) != (n : Int)) = false := by simp
    go_enter Try.func34, Try.ntmps34
    go_wp2
    go_loopw [5] (fun i wr => ∃ k : Nat, k ≤ n ∧ i = .int .i64 k ∧ (∀ q, q < k → (x q == y q) = true) ∧ Below w.heap.size w wr) (fun i _ => n - (intOf i).toNat)
    case atStart => exact ⟨0, Nat.zero_le _, rfl, fun q h => absurd h (Nat.not_lt_zero _), Below.refl _ _⟩
    case round =>
      obtain ⟨k, hk, rfl, hall, hbl⟩ := hrel
      have HALL := Lib.hid hall; have HBL := Lib.hid hbl; clear hall hbl
      by_cases hlt : k < n
      · obtain ⟨ba, oa, rfl, hba, ka⟩ : ∃ ba oa, a = some ⟨ba, oa, none⟩ ∧ ba < w.heap.size ∧ w.cell? ⟨ba, oa + k, none⟩ = some (.int .i64 (x k)) := by
          rcases HA.out with ⟨_, h⟩ | ⟨b', o', c', e, hb, hz⟩
          · omega
          · cases e; exact ⟨b', o', rfl, hb, hz k hlt⟩
        obtain ⟨bb, ob, rfl, hbb, kb⟩ : ∃ ba oa, b = some ⟨ba, oa, none⟩ ∧ ba < w.heap.size ∧ w.cell? ⟨ba, oa + k, none⟩ = some (.int .i64 (y k)) := by
          rcases HB.out with ⟨_, h⟩ | ⟨b', o', c', e, hb, hz⟩
          · omega
          · cases e; exact ⟨b', o', rfl, hb, hz k hlt⟩
        have xa : wr.cell? ⟨ba, oa + k, none⟩ = some (.int .i64 (x k)) := (HBL.out.cell (p := ⟨ba, _, none⟩) hba).trans ka
        have xb : wr.cell? ⟨bb, ob + k, none⟩ = some (.int .i64 (y k)) := (HBL.out.cell (p := ⟨bb, _, none⟩) hbb).trans kb
        have ki : (0 : Int) ≤ (k : Int) := by omega
        have kj : (k : Int) < (n : Int) := by omega
        clear ka kb
        cases hxy : (x k == y k)
        · have hxn : (x k != y k) = true := by simp only [bne, hxy]; rfl
          go_wp2
          go_quiet (fail)
          go_wp2
          go_ret
          exact ⟨ret_bool (by rw [HEQ.out, allB_false hlt hxy]), HBL.out.trans (below_drewS _ _ _)⟩
        · have hxn : (x k != y k) = false := by simp only [bne, hxy]; rfl
          go_wp2
          go_quiet (fail)
          go_wp2
          go_roundw
          case rel => exact ⟨k + 1, by omega, by go_num, (fun q hq => by rcases Nat.lt_succ_iff_lt_or_eq.1 hq with h | rfl; exact HALL.out q h; exact hxy), HBL.out.trans (below_drewS _ _ _)⟩
          case measure => simp [intOf]; omega
      · obtain rfl : k = n := by omega
        go_wp2
        go_ret
        exact ⟨ret_bool (by rw [HEQ.out, allB_true HALL.out]), HBL.out⟩
  · have HEQ : Hid (eqL n m x y = false) := by unfold Hid eqL; simp [hnm]
    have hne : ((n : Int) != (m : Int)) = true := by simp; omega
    clear hnm
    go_enter Try.func34, Try.ntmps34
    go_wp2
    go_ret
    exact ⟨ret_bool HEQ.out.symm, Below.refl _ _⟩

theorem ints_one (W : World) (x : Int) : IntsAt (W.alloc (.cells #[.int .i64 x] 3)) (.slice (some ⟨W.heap.size, 0, none⟩) 1 1) 1 (fun j => [x].getD j 0) := by
  refine .inr ⟨W.heap.size, 0, 1, rfl, by simp, fun j hj => ?_⟩
  obtain rfl : j = 0 := by omega
  exact cell_of_row _ _ 0 _ _ _ (heap_alloc_new W _)
theorem below_step {A X Y : World} (h : Below A.heap.size A X) (k : Below X.heap.size X Y) : Below A.heap.size A Y := h.trans (k.mono h.size)
theorem kept {A X : World} {b o : Nat} {v : Value} (h : Below A.heap.size A X) (hb : b < A.heap.size) (hc : A.cell? ⟨b, o, none⟩ = some v) : X.cell? ⟨b, o, none⟩ = some v := (h.cell (p := ⟨b, o, none⟩) hb).trans hc

attribute [local go_sem ↓] Go.wp_at_zero Go.wp_at_succ
set_option maxRecDepth 100000 in
set_option maxHeartbeats 4000000 in
theorem awake_any (w : World) : Calls Try.prog 20 #[] w fun e w' => e = .returned (.bool true) ∧ Below w.heap.size w w' := by
  have htrue := fun W => true_ok 20 5 1 1 20 W (by decide) (by decide)
  rw [ex_true] at htrue
  unfold ruleV at htrue
  have HT := Lib.hid htrue; clear htrue
  go_enter Try.func20, Try.ntmps20
  go_wp2_with fail
  refine (rules_any _).mono ?_
  rintro e w1 ⟨rfl, rfl⟩
  go_wp2_with fail
  refine (HT.out _).mono ?_
  rintro e w2 ⟨v2, rfl, hr2, hb2⟩
  obtain ⟨g2, o2, c2, rfl, _, hg2, x21, x22, _⟩ := hr2.rg.cons
  have HB2 : Hid (Below w.heap.size w w2) := (below_alloc w _).trans (hb2.mono (by simp))
  clear hr2 hb2
  have X21 := Lib.hid x21; have X22 := Lib.hid x22; clear x21 x22
  go_wp2_with fail
  refine (somebody_any w2.heap.size 1 exA _ rfl (by omega) (by omega) (heap_alloc_new w2 _)).mono ?_
  rintro e w3 ⟨v3, rfl, hp3, hb3⟩
  have HB3 : Hid (Below w2.heap.size w2 w3) := below_step (below_alloc _ _) hb3
  clear hb3
  go_wp2_with fail
  refine (Births_any _ (someP exA) _ hp3 (by decide) (by decide)).mono ?_
  rw [ex_bornA, ex_bErrA]
  rintro e w4 ⟨v4, rfl, hr4, hb4⟩
  obtain ⟨g4, o4, c4, rfl, _, hg4, x41, x42, _⟩ := hr4.rg.cons
  have HB4 : Hid (Below w2.heap.size w2 w4) := below_step HB3.out hb4
  have X41 := Lib.hid x41; have X42 := Lib.hid x42
  clear hr4 hb4 hp3 x41 x42
  go_wp2_with fail
  refine (somebody_any w4.heap.size 1 exA _ rfl (by omega) (by omega) (heap_alloc_new w4 _)).mono ?_
  rintro e w5 ⟨v5, rfl, hp5, hb5⟩
  have HB5 : Hid (Below w4.heap.size w4 w5) := below_step (below_alloc _ _) hb5
  clear hb5
  go_wp2_with fail
  refine (on_any _ (someP exA) _ _ hp5 (by decide) (by decide)).mono ?_
  rw [ex_onA, ex_onEA]
  rintro e w6 ⟨v6, rfl, hr6, hb6⟩
  obtain ⟨g6, o6, c6, rfl, _, hg6, x61, x62, _⟩ := hr6.rg.cons
  have HB6 : Hid (Below w4.heap.size w4 w6) := below_step HB5.out hb6
  have X61 := Lib.hid x61; have X62 := Lib.hid x62
  clear hr6 hb6 hp5 x61 x62
  go_wp2_with fail
  refine (somebody_any w6.heap.size 2 exB _ rfl (by omega) (by omega) (heap_alloc_new w6 _)).mono ?_
  rintro e w7 ⟨v7, rfl, hp7, hb7⟩
  have HB7 : Hid (Below w6.heap.size w6 w7) := below_step (below_alloc _ _) hb7
  clear hb7
  go_wp2_with fail
  refine (leave_any _ (someP exB) _ hp7 (by decide) (by decide)).mono ?_
  rw [ex_leaveB, ex_faultB]
  rintro e w8 ⟨v8, rfl, hi8, hb8⟩
  have HB8 : Hid (Below w6.heap.size w6 w8) := below_step HB7.out hb8
  have HI8 := Lib.hid hi8
  obtain ⟨a8, c8, rfl⟩ := hi8.ints.len
  clear hi8 hb8 hp7
  go_wp2_with fail
  refine (heaping_any _ 4 (fun j => [20, 25, 31, 40].getD j 0) 5 _ (.inr ⟨w8.heap.size, 0, 4, rfl, by simp, fun j hj => ?_⟩) (by omega)).mono ?_
  · match j, hj with
    | 0, _ => exact cell_of_row _ _ 0 _ _ _ (heap_alloc_new w8 _)
    | 1, _ => exact cell_of_row _ _ 1 _ _ _ (heap_alloc_new w8 _)
    | 2, _ => exact cell_of_row _ _ 2 _ _ _ (heap_alloc_new w8 _)
    | 3, _ => exact cell_of_row _ _ 3 _ _ _ (heap_alloc_new w8 _)
    | j + 4, h => omega
  rw [ex_heapE, ex_heapR]
  rintro e w9 ⟨rfl, hb9⟩
  have hb89 : Below w8.heap.size w8 w9 := below_step (below_alloc _ _) hb9
  have b69 : Below w6.heap.size w6 w9 := below_step HB8.out hb89
  have b49 : Below w4.heap.size w4 w9 := below_step HB6.out b69
  have b29 : Below w2.heap.size w2 w9 := below_step HB4.out b49
  have HW : Hid (Below w.heap.size w w9) := below_step HB2.out b29
  have s2 := b29.size; have s4 := b49.size; have s6 := b69.size
  have y1 := kept b29 hg2 X21.out; have y2 := kept b29 hg2 X22.out
  have y3 := kept b49 hg4 X41.out; have y4 := kept b49 hg4 X42.out
  have y5 := kept b69 hg6 X61.out; have y6 := kept b69 hg6 X62.out
  have HI9 := Lib.hid (HI8.out.below hb89)
  have HSB : Hid (∀ X : World, Below w9.heap.size w9 X → X.cell? ⟨g2, o2, none⟩ = some (.int .i64 19) ∧ X.cell? ⟨g2, o2 + 1, none⟩ = some (.int .i64 23) ∧ X.cell? ⟨g4, o4, none⟩ = some (.int .i64 686) ∧ X.cell? ⟨g4, o4 + 1, none⟩ = some (.int .i64 1050) ∧ X.cell? ⟨g6, o6, none⟩ = some (.int .i64 27) ∧ X.cell? ⟨g6, o6 + 1, none⟩ = some (.int .i64 28) ∧ Below w9.heap.size w9 X) :=
    fun X hX => ⟨kept hX (by omega) y1, kept hX (by omega) y2, kept hX (by omega) y3, kept hX (by omega) y4, kept hX (by omega) y5, kept hX (by omega) y6, hX⟩
  clear hb89 b69 b49 b29 s2 s4 s6 y1 y2 y3 y4 y5 y6 hb9
  have q1 : ∀ W : World, (binOp .eql 41 (.agg #[.int .i64 19, .int .i64 23]) (.agg #[.int .i64 19, .int .i64 23])).run Try.prog W = .ok (.bool true) W := fun _ => by kernel_rfl
  have q2 : ∀ W : World, (binOp .eql 41 (.agg #[.int .i64 686, .int .i64 1050]) (.agg #[.int .i64 686, .int .i64 1050])).run Try.prog W = .ok (.bool true) W := fun _ => by kernel_rfl
  have q3 : ∀ W : World, (binOp .eql 41 (.agg #[.int .i64 27, .int .i64 28]) (.agg #[.int .i64 27, .int .i64 28])).run Try.prog W = .ok (.bool true) W := fun _ => by kernel_rfl
  go_wp2_with fail
  go_region_held3 (fun X => X.cell? ⟨g2, o2, none⟩ = some (.int .i64 19) ∧ X.cell? ⟨g2, o2 + 1, none⟩ = some (.int .i64 23) ∧ X.cell? ⟨g4, o4, none⟩ = some (.int .i64 686) ∧ X.cell? ⟨g4, o4 + 1, none⟩ = some (.int .i64 1050) ∧ X.cell? ⟨g6, o6, none⟩ = some (.int .i64 27) ∧ X.cell? ⟨g6, o6 + 1, none⟩ = some (.int .i64 28) ∧ Below w9.heap.size w9 X)
    (first | exact HSB.out _ ((Below.refl _ _).drew) | (go_split_ands; refine HSB.out _ (below_step ?_ (below_alloc _ _)); assumption) | (go_split_ands; refine HSB.out _ (below_step ?_ hbX); assumption))
    (first
      | (go_at_call 41; refine (between_any _ _ _).mono ?_; rintro e wX ⟨rfl, hbX⟩)
      | (go_at_call 34; go_split_ands; refine (ints_any _ _ 1 1 (fun j => [2].getD j 0) (fun j => [2].getD j 0) _ ?_ ?_ (by omega) (by omega)).mono ?_; (refine IL.ints (IL.below HI9.out ?_); assumption); exact ints_one _ _; rintro e wX ⟨rfl, hbX⟩))
  all_goals
    go_wp2
    go_ret
    go_split_ands
    refine ⟨ret_bool (by decide), HW.out.trans (Below.mono ‹Below w9.heap.size w9 _› HW.out.size)⟩
end Go.Proofs.Ytagfcfojfjkmbaa
