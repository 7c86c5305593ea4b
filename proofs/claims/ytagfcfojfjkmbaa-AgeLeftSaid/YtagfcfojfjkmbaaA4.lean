/- Contracts: ages. -/
import Derived.Test.YtagfcfojfjkmbaaA2
import Derived.Test.YtagfcfojfjkmbaaA3
import Derived.Laws.Rows
import Derived.Laws.Tables
namespace Go.Proofs.Ytagfcfojfjkmbaa
open Go.RowKit

def flagsL (fl : Nat → Bool) : List Value := (List.range 121).map fun i => Value.bool (fl i)
def flagsA (fl : Nat → Bool) : Array Value := (flagsL fl).toArray
theorem flagsA_size (fl : Nat → Bool) : (flagsA fl).size = 121 := by simp [flagsA, flagsL]
theorem flagsA_zero : Try.zeroCells133 = flagsA fun _ => false := by kernel_rfl
theorem flagsA_get (fl : Nat → Bool) (i : Nat) (h : i < 121) : (flagsA fl)[i]? = some (.bool (fl i)) := by simp [flagsA, flagsL, h]
theorem flagsA_one (fl : Nat → Bool) : (flagsA fl).all (·.oneCell') = true := by
  rw [Array.all_eq_true]; intro i h; simp [flagsA, flagsL, Value.oneCell']

theorem flagsA_set (fl : Nat → Bool) (i : Nat) : (flagsA fl).setIfInBounds i (.bool true) = flagsA fun k => fl k || decide (k = i) := by
  apply Array.ext_getElem?
  intro j
  rw [Array.getElem?_setIfInBounds]
  by_cases hj : j < 121
  · rw [flagsA_get _ _ hj]
    by_cases e : i = j
    · subst e; rw [if_pos rfl, if_pos (by rw [flagsA_size]; exact hj), flagsA_get _ _ hj]; simp
    · rw [if_neg e, flagsA_get _ _ hj]; simp [Ne.symm e]
  · have h1 : (flagsA fun k => fl k || decide (k = i)).size ≤ j := by rw [flagsA_size]; omega
    have h2 : (flagsA fl).size ≤ j := by rw [flagsA_size]; omega
    rw [Array.getElem?_eq_none h1, Array.getElem?_eq_none h2]
    by_cases e : i = j
    · subst e; simp [flagsA_size, hj]
    · rw [if_neg e]
theorem flagsA_congr {f g : Nat → Bool} (h : ∀ i, i < 121 → f i = g i) : flagsA f = flagsA g := by
  unfold flagsA flagsL
  congr 1
  apply List.map_congr_left
  intro a ha
  rw [h a (by simpa using ha)]

/-- The true ages of n after the first k known ages. -/
def agesF (f b m e n : Int) (k : Nat) (i : Nat) : Bool := (List.range k).any fun q => (wrt f b m q == n) && (decide ((q : Int) - e ≤ i) && decide ((i : Int) ≤ q + e))
theorem agesF_zero (f b m e n : Int) : agesF f b m e n 0 = fun _ => false := by funext i; simp [agesF]
theorem agesF_succ (f b m e n : Int) (k i : Nat) : agesF f b m e n (k + 1) i = (agesF f b m e n k i || ((wrt f b m k == n) && (decide ((k : Int) - e ≤ i) && decide ((i : Int) ≤ k + e)))) := by
  unfold agesF; rw [List.range_succ, List.any_append]; simp

def agesM (f b m e n : Int) (k : Nat) (j : Int) (i : Nat) : Bool := agesF f b m e n k i || (decide ((k : Int) - e ≤ i) && decide ((i : Int) < j))

def AgesIn (w : World) (f b m e : Int) (fl : Nat → Bool) (wr : World) : Prop :=
  wr.heap[w.heap.size + 1]? = some (.cells (flagsA fl) 133 (0, 0)) ∧ Below (w.heap.size + 1) (w.alloc (.cells #[.int .i64 f, .int .i64 b, .int .i64 m, .int .i64 e] 80)) wr

theorem AgesIn.cells {w : World} {f b m e : Int} {fl : Nat → Bool} {wr : World} (h : AgesIn w f b m e fl wr) :
    wr.cell? ⟨w.heap.size, 0, none⟩ = some (.int .i64 f) ∧ wr.cell? ⟨w.heap.size, 1, none⟩ = some (.int .i64 b) ∧ wr.cell? ⟨w.heap.size, 2, none⟩ = some (.int .i64 m) ∧ wr.cell? ⟨w.heap.size, 3, none⟩ = some (.int .i64 e) ∧ w.heap.size + 1 < wr.heap.size := by
  obtain ⟨h1, h2⟩ := h
  refine ⟨?_, ?_, ?_, ?_, ?_⟩
  · rw [h2.cell (p := ⟨w.heap.size, 0, none⟩) (by simp), cell_of_row _ _ 0 _ _ _ (heap_alloc_new w _)]; rfl
  · rw [h2.cell (p := ⟨w.heap.size, 1, none⟩) (by simp), cell_of_row _ _ 1 _ _ _ (heap_alloc_new w _)]; rfl
  · rw [h2.cell (p := ⟨w.heap.size, 2, none⟩) (by simp), cell_of_row _ _ 2 _ _ _ (heap_alloc_new w _)]; rfl
  · rw [h2.cell (p := ⟨w.heap.size, 3, none⟩) (by simp), cell_of_row _ _ 3 _ _ _ (heap_alloc_new w _)]; rfl
  · exact (Array.getElem?_eq_some_iff.1 h1).1

theorem AgesIn.below {w : World} {f b m e : Int} {fl : Nat → Bool} {wr w2 : World} (h : AgesIn w f b m e fl wr) (hb : Below wr.heap.size wr w2) : AgesIn w f b m e fl w2 :=
  ⟨(hb.block _ h.cells.2.2.2.2).trans h.1, h.2.trans (hb.mono (by have := h.cells.2.2.2.2; omega))⟩

theorem AgesIn.flag {w : World} {f b m e : Int} {fl : Nat → Bool} {wr : World} (h : AgesIn w f b m e fl wr) (i : Nat) (hi : i < 121) :
    wr.cell? ⟨w.heap.size + 1, i, none⟩ = some (.bool (fl i)) ∧ wr.frozen? ⟨w.heap.size + 1, i, none⟩ = false := by
  constructor
  · rw [cell_of_row wr _ i _ _ _ h.1, flagsA_get _ _ hi]
  · exact frozen_of_row wr _ i _ _ h.1

theorem AgesIn.set {w : World} {f b m e : Int} {fl : Nat → Bool} {wr : World} (h : AgesIn w f b m e fl wr) (i : Nat) : AgesIn w f b m e (fun k => fl k || decide (k = i)) (wr.setCell ⟨w.heap.size + 1, i, none⟩ (.bool true)) := by
  refine ⟨?_, h.2.setCell (by simp) _⟩
  rw [← flagsA_set]
  have := h.1
  simp [World.setCell, Array.getElem?_modify, this]

/-- Where the inner loop's counter can be. -/
def AgesJ (k : Nat) (e j : Int) : Prop := 0 ≤ j ∧ (k : Int) - e ≤ j ∧ (j ≤ min (k + e) 120 + 1 ∨ j = max 0 (k - e))
theorem AgesJ.bd {k : Nat} {e j : Int} (he : 0 ≤ e) (h : AgesJ k e j) : 0 ≤ j ∧ (k : Int) - e ≤ j ∧ j ≤ 1000 + k + e := by unfold AgesJ at h; omega
theorem agesM_start (f b m e n : Int) (k : Nat) (j : Int) (h : j = max 0 (k - e)) : agesM f b m e n k j = agesF f b m e n k := by
  funext i; unfold agesM
  have : (decide ((k : Int) - e ≤ i) && decide ((i : Int) < j)) = false := by simp; omega
  rw [this]; simp
theorem agesM_end (f b m e n : Int) (k : Nat) (j : Int) (he : 0 ≤ e) (hw : wrt f b m k = n) (hj : AgesJ k e j) (h : ¬ j ≤ min (k + e) 120) : flagsA (agesM f b m e n k j) = flagsA (agesF f b m e n (k + 1)) := by
  apply flagsA_congr
  intro i hi
  rw [agesF_succ]; unfold agesM
  congr 1
  unfold AgesJ at hj
  rw [Bool.eq_iff_iff]
  simp [hw]
  omega
theorem agesM_set (f b m e n : Int) (k j : Nat) (h : (k : Int) - e ≤ j) : (fun i => agesM f b m e n k j i || decide (i = j)) = agesM f b m e n k (j + 1) := by
  funext i; unfold agesM
  rw [Bool.or_assoc]; congr 1
  rw [Bool.eq_iff_iff]; simp; omega

attribute [local go_sem ↓] Go.wp_at_zero Go.wp_at_succ
set_option maxRecDepth 100000 in
set_option maxHeartbeats 2000000 in
theorem ages_any (f b m e n : Int) (w : World) (hb : 1 ≤ b) (hb2 : b ≤ 12) (hm : 0 ≤ m) (hm1 : m ≤ 1) (he : 0 ≤ e) (he5 : e ≤ 5) :
    Calls Try.prog 83 #[ruleV f b m e, .int .i64 n] w fun r w' => r = .returned (.agg (flagsA (agesF f b m e n 126))) ∧ Below w.heap.size w w' := by
  unfold ruleV
  go_enter Try.func83, Try.ntmps83
  go_wp2
  go_loopw [5, 6, 7] (fun _ _ i wr => ∃ k : Nat, k ≤ 126 ∧ i = .int .i64 k ∧ AgesIn w f b m e (agesF f b m e n k) wr) (fun _ _ i _ => 126 - (intOf i).toNat)
  case atStart => exact ⟨0, by omega, rfl, by rw [agesF_zero, ← flagsA_zero]; exact (by have := heap_alloc_new (w.alloc (.cells #[.int .i64 f, .int .i64 b, .int .i64 m, .int .i64 e] 80)) (.cells Try.zeroCells133 133); rw [World.size_alloc] at this; exact this), (Below.refl _ _).alloc (by simp) _⟩
  case round =>
    obtain ⟨k, hk, rfl, hin⟩ := hrel
    obtain ⟨c0, c1, c2, c3, hsz⟩ := hin.cells
    have HIN := Lib.hid hin; clear hin
    by_cases hlt : k < 126
    · by_cases hw : wrt f b m k = n
      · have hw1 : (wrt f b m k != n) = false := by simp [hw]
        have HW := Lib.hid hw; clear hw
        go_wp2_with (go_at_call 82; refine (write_any f b m e _ _ (by omega) (by omega) (by omega) (by omega) (by omega) (by omega)).mono ?_; rintro r w1 ⟨rfl, hb1⟩; have hin1 := HIN.out.below hb1; obtain ⟨d0, d1, d2, d3, hs1⟩ := hin1.cells; have HIN1 := Lib.hid hin1; clear hin1 hb1 c0 c1 c2 c3 hsz)
        all_goals
          go_loopw [6] (fun i wr => ∃ j : Int, i = .int .i64 j ∧ AgesJ k e j ∧ AgesIn w f b m e (agesM f b m e n k j) wr) (fun i _ => 121 - (intOf i).toNat)
          case atStart => exact ⟨_, rfl, by unfold AgesJ; omega, by rw [agesM_start _ _ _ _ _ _ _ (by omega)]; exact HIN1.out⟩
          case round =>
            obtain ⟨j, rfl, hj, hin⟩ := hrel
            obtain ⟨c0, c1, c2, c3, hsz⟩ := hin.cells
            have HIN2 := Lib.hid hin; clear hin
            obtain ⟨hj0, hj1, hj2⟩ := hj.bd he
            have HJ := Lib.hid hj; clear hj
            by_cases hc : j ≤ min (k + e) 120
            · obtain ⟨q, rfl⟩ := Int.eq_ofNat_of_zero_le hj0
              obtain ⟨f1, f2⟩ := HIN2.out.flag q (by omega)
              have hf1 : wr.cell? ⟨w.heap.size + 1, q, none⟩ = some (.bool (agesM f b m e n k q q)) := f1
              clear f1
              go_wp2_with (go_at_call 69; refine (smallest_any _ (↑k + e) 120 _ (cell_of_row _ _ 0 _ _ _ (heap_alloc_new _ _)) (cell_of_row _ _ 1 _ _ _ (heap_alloc_new _ _))).mono ?_; rintro r w2 ⟨rfl, rfl⟩)
              go_roundw
              case rel => exact ⟨_, rfl, by have := HJ.out; unfold AgesJ at this ⊢; omega, by rw [← agesM_set _ _ _ _ _ _ _ hj1]; exact (HIN2.out.set q).below ((Below.refl _ _).alloc (Nat.le_refl _) _)⟩
              case measure => simp [intOf]; omega
            · go_wp2_with (go_at_call 69; refine (smallest_any _ (↑k + e) 120 _ (cell_of_row _ _ 0 _ _ _ (heap_alloc_new _ _)) (cell_of_row _ _ 1 _ _ _ (heap_alloc_new _ _))).mono ?_; rintro r w2 ⟨rfl, rfl⟩)
              go_roundw
              case rel => exact ⟨k + 1, by omega, by go_num, by have h1 := HIN2.out.below ((Below.refl _ _).alloc (Nat.le_refl _) (.cells #[.int .i64 (↑k + e), .int .i64 120] 3)); exact ⟨by rw [← agesM_end _ _ _ _ _ _ _ he HW.out HJ.out (by omega)]; exact h1.1, h1.2⟩⟩
              case measure => simp [intOf]; omega
      · have hw1 : (wrt f b m k != n) = true := by simp [hw]
        have HW := Lib.hid hw; clear hw
        go_wp2_with (go_at_call 82; refine (write_any f b m e _ _ (by omega) (by omega) (by omega) (by omega) (by omega) (by omega)).mono ?_; rintro r w1 ⟨rfl, hb1⟩)
        go_roundw
        case rel => exact ⟨k + 1, by omega, by go_num, by rw [show agesF f b m e n (k + 1) = agesF f b m e n k from by funext i; rw [agesF_succ]; simp [HW.out]]; exact HIN.out.below hb1⟩
        case measure => simp [intOf]; omega
    · obtain rfl : k = 126 := by omega
      have hg := HIN.out.1
      have HG := Lib.hid hg; clear hg
      have hsz := (show Option.map (fun x => x.size) (Try.prog.info? 133) = some (flagsA (agesF f b m e n 126)).size from by rw [flagsA_size]; kernel_rfl)
      have HS := Lib.hid hsz; clear hsz
      go_wp2_with (first | (with_reducible refine wpList_load_row (o := ⟨some 33, _, _, _, _, _⟩) rfl 133 (.tmp 4) rfl (w.heap.size + 1) ?hx 133 (flagsA (agesF f b m e n 126)) (0, 0) _ HG.out Try.underlying133 rfl HS.out ?_) | (with_reducible refine wpList_store_row (o := ⟨none, .store 133 (.tmp 4) (.tmp 33), _, _, _, _⟩) rfl 133 (.tmp 4) (.tmp 33) rfl (w.heap.size + 1) (flagsA (agesF f b m e n 126)) ?sx ?sy 133 (flagsA (agesF f b m e n 126)) HG.out HS.out rfl (flagsA_one _) ?_))
      case hx => rfl
      refine bodyPost_ret (v := .agg (flagsA (agesF f b m e n 126))) (results_cell_row rfl _ _ (w.heap.size + 1) 133 _ (0, 0) _ rfl (setRow_heap _ _ _ _ _ _ HG.out) Try.underlying133 rfl HS.out) rfl ⟨rfl, ?_⟩
      have hB := (((Below.refl _ _).alloc (Nat.le_refl _) _).trans (HIN.out.2.mono (Nat.le_succ _)) : Below w.heap.size w wr)
      exact hB.trans ⟨rfl, rfl, rfl, by simp, fun q hq => setRow_other _ _ _ _ (by omega)⟩
end Go.Proofs.Ytagfcfojfjkmbaa
