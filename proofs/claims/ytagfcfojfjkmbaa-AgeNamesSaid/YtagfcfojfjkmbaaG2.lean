/- Contracts of the reference: Can, True. -/
import Derived.Test.YtagfcfojfjkmbaaG1
namespace Go.Proofs.Ytagfcfojfjkmbaa
open Go.RowKit Go.Shelf

theorem ruleAt_new (w : World) (f b m e : Int) : RuleAt (w.alloc (.cells #[.int .i64 f, .int .i64 b, .int .i64 m, .int .i64 e] 77)) w.heap.size f b m e := heap_alloc_new w _

set_option maxRecDepth 100000 in
set_option maxHeartbeats 4000000 in
theorem can_any (f b m e wn : Int) (a : Nat) (w : World) (hr : okRule f b m e = true) (ha : a ≤ 120) :
    Calls Try.prog 87 #[.agg #[.int .i64 f, .int .i64 b, .int .i64 m, .int .i64 e], .int .i64 wn, .int .i64 a] w fun r w' => r = .returned (.bool (agesF f b m e wn 126 a)) ∧ Below w.heap.size w w' := by
  obtain ⟨g0, g1, g2, g3, g4, g5, g6, g7⟩ := okRule_bd hr
  have HWR := Lib.hid (fun k W h0 h1 => refWrite_any f b m e k W hr h0 h1)
  clear hr
  have hcase : (0 < (a : Int) - e) ∨ ¬ (0 < (a : Int) - e) := by omega
  rcases hcase with hc | hc
  all_goals
    go_enter Try.func87, Try.ntmps87
    go_wp2
    go_loopw [7] (fun i wr => ∃ q : Nat, i = .int .i64 q ∧ max 0 ((a : Int) - e) ≤ q ∧ (q : Int) ≤ a + e + 1 ∧ (∀ q' : Nat, max 0 ((a : Int) - e) ≤ q' → q' < q → (wrt f b m q' == wn) = false) ∧ Below (w.heap.size + 1) (w.alloc (.cells #[.int .i64 f, .int .i64 b, .int .i64 m, .int .i64 e] 77)) wr) (fun i _ => 200 - (intOf i).toNat)
    case atStart =>
      first
        | exact ⟨((a : Int) - e).toNat, by congr 1; omega, by omega, by omega, fun q' h1 h2 => by omega, Below.refl _ _⟩
        | exact ⟨0, rfl, by omega, by omega, fun q' h1 h2 => by omega, Below.refl _ _⟩
    case round =>
      obtain ⟨q, rfl, hq1, hq2, hall, hbl⟩ := hrel
      have hra : RuleAt wr w.heap.size f b m e := (ruleAt_new w f b m e).below (by simpa using hbl)
      obtain ⟨k0, k1, k2, k3⟩ := hra.cells
      have HALL := Lib.hid hall; have HBL := Lib.hid hbl; clear hall hbl hra
      have HBW : Hid (Below w.heap.size w wr) := (below_alloc w _).trans (HBL.out.mono (by omega))
      have hsz : w.heap.size + 1 ≤ wr.heap.size := by have := HBL.out.size; simpa using this
      by_cases hlt : (q : Int) ≤ a + e
      · cases hw : (wrt f b m q == wn)
        · go_wp2_with (go_at_call 53; refine (HWR.out _ _ (by omega) (by omega)).mono ?_; rintro _ w1 ⟨rfl, hb1⟩)
          go_roundw
          case rel => exact ⟨q + 1, by go_num, by omega, by omega, (fun q' h1 h2 => by rcases Nat.lt_succ_iff_lt_or_eq.1 h2 with h | rfl; exact HALL.out q' h1 h; exact hw), HBL.out.trans (hb1.mono hsz)⟩
          case measure => simp [intOf]; omega
        · go_wp2_with (go_at_call 53; refine (HWR.out _ _ (by omega) (by omega)).mono ?_; rintro _ w1 ⟨rfl, hb1⟩)
          go_ret
          refine ⟨ret_bool ((agesF_iff _ _ _ _ _ _ _).2 ⟨q, by omega, by simpa using hw, by omega, by omega⟩).symm, below_step HBW.out hb1⟩
      · go_wp2
        go_ret
        refine ⟨ret_bool ?_, HBW.out⟩
        cases hA : agesF f b m e wn 126 a
        · rfl
        · obtain ⟨q', h1, h2, h3, h4⟩ := (agesF_iff _ _ _ _ _ _ _).1 hA
          have := HALL.out q' (by omega) (by omega)
          rw [h2] at this; simp at this

theorem flagsA_setv (fl : Nat → Bool) (i : Nat) (v : Bool) : (flagsA fl).setIfInBounds i (.bool v) = flagsA fun k => if k = i then v else fl k := by
  apply Array.ext_getElem?
  intro j
  rw [Array.getElem?_setIfInBounds]
  by_cases hj : j < 121
  · rw [flagsA_get _ _ hj]
    by_cases e : i = j
    · subst e; rw [if_pos rfl, if_pos (by rw [flagsA_size]; exact hj), flagsA_get _ _ hj]; simp
    · rw [if_neg e, flagsA_get _ _ hj, if_neg (Ne.symm e)]
  · have h1 : (flagsA fun k => if k = i then v else fl k).size ≤ j := by rw [flagsA_size]; omega
    have h2 : (flagsA fl).size ≤ j := by rw [flagsA_size]; omega
    rw [Array.getElem?_eq_none h1, Array.getElem?_eq_none h2]
    by_cases e : i = j
    · subst e; simp [flagsA_size, hj]
    · rw [if_neg e]
/-- The first k flags. -/
def upF (fl : Nat → Bool) (k i : Nat) : Bool := decide (i < k) && fl i
theorem upF_set (fl : Nat → Bool) (k : Nat) : (fun i => if i = k then fl k else upF fl k i) = upF fl (k + 1) := by
  funext i
  unfold upF
  by_cases h : i = k
  · subst h; simp
  · rw [if_neg h]; congr 1; rw [Bool.eq_iff_iff]; simp; omega
theorem upF_zero (fl : Nat → Bool) : upF fl 0 = fun _ => false := by funext i; simp [upF]
theorem upF_all (fl : Nat → Bool) : flagsA (upF fl 121) = flagsA fl := flagsA_congr fun i hi => by simp [upF, hi]
theorem flagsR_zero : Try.zeroCells94 = flagsA fun _ => false := by kernel_rfl

set_option maxRecDepth 100000 in
set_option maxHeartbeats 4000000 in
theorem refTrue_any (f b m e wn : Int) (w : World) (hr : okRule f b m e = true) :
    Calls Try.prog 54 #[.agg #[.int .i64 f, .int .i64 b, .int .i64 m, .int .i64 e], .int .i64 wn] w fun r w' => r = .returned (.agg (flagsA (agesF f b m e wn 126))) ∧ Below w.heap.size w w' := by
  have HC := Lib.hid (fun a W ha => can_any f b m e wn a W hr ha)
  clear hr
  generalize hfl : agesF f b m e wn 126 = fl at *
  clear hfl
  obtain ⟨hz, hb3, q0, q1, q2⟩ := alloc3 w (.cells #[.int .i64 f, .int .i64 b, .int .i64 m, .int .i64 e] 77) (.cells Try.zeroCells94 94) (.cells Try.zeroCells94 94)
  have HQ : Hid (RuleAt (((w.alloc (.cells #[.int .i64 f, .int .i64 b, .int .i64 m, .int .i64 e] 77)).alloc (.cells Try.zeroCells94 94)).alloc (.cells Try.zeroCells94 94)) w.heap.size f b m e ∧ (((w.alloc (.cells #[.int .i64 f, .int .i64 b, .int .i64 m, .int .i64 e] 77)).alloc (.cells Try.zeroCells94 94)).alloc (.cells Try.zeroCells94 94)).heap[w.heap.size + 1]? = some (.cells (flagsA fun _ => false) 94 (0, 0)) ∧ (((w.alloc (.cells #[.int .i64 f, .int .i64 b, .int .i64 m, .int .i64 e] 77)).alloc (.cells Try.zeroCells94 94)).alloc (.cells Try.zeroCells94 94)).heap[w.heap.size + 2]? = some (.cells (flagsA fun _ => false) 94 (0, 0)) ∧ Below w.heap.size w (((w.alloc (.cells #[.int .i64 f, .int .i64 b, .int .i64 m, .int .i64 e] 77)).alloc (.cells Try.zeroCells94 94)).alloc (.cells Try.zeroCells94 94))) := ⟨q0, by rw [← flagsR_zero]; exact q1, by rw [← flagsR_zero]; exact q2, hb3⟩
  clear hz hb3 q0 q1 q2
  go_enter Try.func54, Try.ntmps54
  go_wp2
  go_loopw [6] (fun i wr => ∃ k : Nat, k ≤ 121 ∧ i = .int .i64 k ∧ RuleAt wr w.heap.size f b m e ∧ wr.heap[w.heap.size + 1]? = some (.cells (flagsA fun _ => false) 94 (0, 0)) ∧ wr.heap[w.heap.size + 2]? = some (.cells (flagsA (upF fl k)) 94 (0, 0)) ∧ Below w.heap.size w wr) (fun i _ => 200 - (intOf i).toNat)
  case atStart => exact ⟨0, Nat.zero_le _, rfl, HQ.out.1, HQ.out.2.1, by rw [upF_zero]; exact HQ.out.2.2.1, HQ.out.2.2.2⟩
  case round =>
    obtain ⟨k, hk, rfl, hra, h1, h2, hbl⟩ := hrel
    clear HQ
    obtain ⟨k0, k1, k2, k3⟩ := hra.cells
    have HRA := Lib.hid hra; have H1 := Lib.hid h1; have H2 := Lib.hid h2; have HBL := Lib.hid hbl
    have hsz := (Array.getElem?_eq_some_iff.1 h2).1
    clear hra h1 h2 hbl
    by_cases hlt : k < 121
    · go_wp2_with (go_at_call 87; refine (HC.out k _ (by omega)).mono ?_; rintro _ w1 ⟨rfl, hb1⟩; have HB1 := Lib.hid hb1; have hblk := (hb1.block _ hsz).trans H2.out; have hcell : w1.cell? ⟨w.heap.size + 2, k, none⟩ = some (.bool (upF fl k k)) := (by rw [cell_of_row w1 _ k _ _ _ hblk, flagsA_get _ _ hlt]); have hfz : w1.frozen? ⟨w.heap.size + 2, k, none⟩ = false := frozen_of_row _ _ k _ _ hblk; have HBLK := Lib.hid hblk; clear hb1 hblk)
      go_roundw
      case rel =>
        refine ⟨k + 1, by omega, by go_num, (HRA.out.below HB1.out).other (by omega) _, ?_, ?_, ?_⟩
        · exact ((Fr.set w1 (w.heap.size + 2) k _).block _ (by have := HB1.out.size; omega) (by omega)).trans ((HB1.out.block _ (by omega)).trans H1.out)
        · rw [← upF_set, ← flagsA_setv]
          simp [World.setCell, Array.getElem?_modify, HBLK.out]
        · exact (below_step HBL.out HB1.out).setCell (by show w.heap.size ≤ w.heap.size + 2; omega) _
      case measure => simp [intOf]; omega
    · obtain rfl : k = 121 := by omega
      have H2' : Hid (wr.heap[w.heap.size + 2]? = some (.cells (flagsA fl) 94 (0, 0))) := by unfold Hid; rw [← upF_all]; exact H2.out
      have hs := (show Option.map (fun x => x.size) (Try.prog.info? 94) = some (flagsA fl).size from by rw [flagsA_size]; kernel_rfl)
      have HS := Lib.hid hs; clear hs
      have HZ : Hid ((flagsA fl).size = (flagsA fun _ => false).size) := by unfold Hid; rw [flagsA_size, flagsA_size]
      go_wp2_with (first | (with_reducible refine wpList_load_row (o := ⟨some 17, .load 94 (.tmp 5), _, _, _, _⟩) rfl 94 (.tmp 5) rfl (w.heap.size + 2) ?hx 94 (flagsA fl) (0, 0) _ H2'.out Try.underlying94 rfl HS.out ?_) | (with_reducible refine wpList_store_row (o := ⟨none, .store 94 (.tmp 4) (.tmp 17), _, _, _, _⟩) rfl 94 (.tmp 4) (.tmp 17) rfl (w.heap.size + 1) (flagsA fl) ?sx ?sy 94 (flagsA fun _ => false) H1.out HS.out HZ.out.symm (flagsA_one _) ?_))
      case hx => rfl
      refine bodyPost_ret (v := .agg (flagsA fl)) (results_cell_row rfl _ _ (w.heap.size + 1) 94 _ (0, 0) _ rfl (setRow_heap _ _ _ _ _ _ H1.out) Try.underlying94 rfl HS.out) rfl ⟨rfl, ?_⟩
      exact HBL.out.trans ⟨rfl, rfl, rfl, by simp, fun q hq => setRow_other _ _ _ _ (by omega)⟩
end Go.Proofs.Ytagfcfojfjkmbaa
