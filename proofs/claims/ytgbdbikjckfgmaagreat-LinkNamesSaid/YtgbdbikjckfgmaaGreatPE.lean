/- Age: persons, births, Same; the reference (turned from the Age seat) (5 of 8). -/
import Derived.Test.YtgbdbikjckfgmaaGreatWG
import Derived.Test.YtgbdbikjckfgmaaGreatPA
import Derived.Test.YtgbdbikjckfgmaaGreatPB
import Derived.Test.YtgbdbikjckfgmaaGreatPC
import Derived.Test.YtgbdbikjckfgmaaGreatPD
import Derived.BigQuiet
import Derived.Carry
import Derived.Deep.AppendLies
import Derived.Deep.DeepCutAuto
import Derived.Deep.DrawnRows
import Derived.Deep.MidRow
import Derived.Deep.QuietTactic
import Derived.Deep.RegionHeld3
import Derived.Deep.RegionLaw
import Derived.Deep.RegionLawGrows
import Derived.Deep.RegionWith
import Derived.Deep.Slices
import Derived.Deep.Strs
import Derived.Laws.EntriesVeiled
import Derived.Laws.Rows
import Derived.Laws.Tables
import Derived.Lib.Hide
import Derived.Lib.SliceRun
import Derived.Lib.SmallJoins
import Derived.LoopIn
import Derived.LoopNIn
import Derived.LoopTactic
import Derived.Maps.AppendAt
import Derived.OpenShut
import Derived.OrdersHeld
import Derived.OrdersIn
import Derived.Outline
import Derived.OwnWalkIn
import Derived.ProofKit
import Derived.RangeFuncBound
import Derived.RangeFuncCalls
import Derived.RangeFuncLeaves
import Derived.RangeFuncNested
import Derived.Shelf.Abstract
import Derived.Shelf.RegionOpen
import Derived.TacticsInMore
import Derived.WalkKit
import Derived.WalkLawsBesides
import Derived.WalkSpells
namespace Go.Proofs.YtgbdbikjckfgmaaGreat
open Go.RowKit Go.Shelf
set_option maxRecDepth 100000 in
set_option maxHeartbeats 4000000 in
theorem refWrite_any (f b m e k : Int) (w : World) (hr : okRule f b m e = true) (hk : 0 ≤ k) (hk2 : k ≤ 125) :
    Calls Tryz.prog 83 #[.agg #[.int .i64 f, .int .i64 b, .int .i64 m, .int .i64 e], .int .i64 k] w fun r w' => r = .returned (.int .i64 (wrt f b m k)) ∧ Below w.heap.size w w' := by
  obtain ⟨g0, g1, g2, g3, g4, g5, g6, g7⟩ := okRule_bd hr
  clear hr
  by_cases hkf : k < f
  · have HW : Hid (wrt f b m k = k) := by unfold Hid wrt; rw [if_pos hkf]
    go_enter Tryz.func83, Tryz.ntmps83
    go_wp2
    go_ret
    exact ⟨ret_int HW.out.symm, below_alloc _ _⟩
  · have hm01 : m = 0 ∨ m = 1 := by omega
    have HEND := Lib.hid (fun j => wB_end f b m k g2 g3 hm01 hk hk2 (by omega) j)
    rcases hm01 with rfl | rfl
    · have hm0 : ((0 : Int) == 0) = true := rfl
      go_enter Tryz.func83, Tryz.ntmps83
      go_wp2
      go_loop [5, 6] (fun s i => ∃ j : Nat, i = .int .i64 (b * j) ∧ s = .int .i64 (wB b 0 k j) ∧ b * j ≤ 152) (fun _ i => 200 - (intOf i).toNat)
      case atStart => exact ⟨0, by simp, rfl, by simp⟩
      case round =>
        obtain ⟨j, rfl, rfl, hj⟩ := hrel
        have h1 : 0 ≤ b * (j : Int) := Int.mul_nonneg (by omega) (by omega)
        have HS : Hid (wB b 0 k (j + 1) = if b * j ≤ k then b * j else wB b 0 k j) := by unfold Hid; rw [wB]; simp
        have HJ : Hid (b * ((j + 1 : Nat) : Int) = b * j + b) := by unfold Hid; rw [show ((j + 1 : Nat) : Int) = (j : Int) + 1 from by omega, Int.mul_add, Int.mul_one]
        have HE := Lib.hid (HEND.out j)
        generalize b * (j : Int) = t at *
        by_cases hlt : t ≤ 140
        · by_cases hle : t ≤ k
          all_goals
            go_wp2
            go_round
            case rel => exact ⟨j + 1, by rw [HJ.out], by rw [HS.out]; first | rw [if_pos hle] | rw [if_neg (by omega)], by rw [HJ.out]; omega⟩
            case measure => simp [intOf]; omega
        · go_wp2
          go_ret
          exact ⟨ret_int (HE.out (by omega)), below_alloc _ _⟩
    · go_enter Tryz.func83, Tryz.ntmps83
      go_wp2
      go_loop [5, 6] (fun s i => ∃ j : Nat, i = .int .i64 (b * j) ∧ s = .int .i64 (wB b 1 k j) ∧ b * j ≤ 152) (fun _ i => 200 - (intOf i).toNat)
      case atStart => exact ⟨0, by simp, rfl, by simp⟩
      case round =>
        obtain ⟨j, rfl, rfl, hj⟩ := hrel
        have h1 : 0 ≤ b * (j : Int) := Int.mul_nonneg (by omega) (by omega)
        have hbd := wB_bd b 1 k g2 j
        have h2 : b * ((j : Int) - 1) = b * j - b := by rw [Int.mul_sub, Int.mul_one]
        rw [h2] at hbd
        have HS : Hid (wB b 1 k (j + 1) = if awy (b * j) k ≤ awy (wB b 1 k j) k then b * j else wB b 1 k j) := by unfold Hid; rw [wB]; simp
        have HJ : Hid (b * ((j + 1 : Nat) : Int) = b * j + b) := by unfold Hid; rw [show ((j + 1 : Nat) : Int) = (j : Int) + 1 from by omega, Int.mul_add, Int.mul_one]
        have HE := Lib.hid (HEND.out j)
        clear h2
        generalize b * (j : Int) = t at *
        generalize wB b 1 k j = best at *
        have hb0 : 0 ≤ best := hbd.1
        have hb1 : best ≤ 152 := by omega
        clear hbd
        by_cases hlt : t ≤ 140
        · by_cases hle : awy t k ≤ awy best k
          · go_wp2_with (go_at_call 115; refine (away_any _ _ _ (by omega) (by omega) (by omega) (by omega)).mono ?_; rintro _ _ ⟨rfl, rfl⟩)
            go_round
            case rel => exact ⟨j + 1, by rw [HJ.out], by rw [HS.out, if_pos hle], by rw [HJ.out]; omega⟩
            case measure => simp [intOf]; omega
          · have hle' : decide (awy t k ≤ awy best k) = false := by simpa using hle
            go_wp2_with (go_at_call 115; refine (away_any _ _ _ (by omega) (by omega) (by omega) (by omega)).mono ?_; rintro _ _ ⟨rfl, rfl⟩)
            go_round
            case rel => exact ⟨j + 1, by rw [HJ.out], by rw [HS.out, if_neg (by simpa using hle)], by rw [HJ.out]; omega⟩
            case measure => simp [intOf]; omega
        · go_wp2
          go_ret
          exact ⟨ret_int (HE.out (by omega)), below_alloc _ _⟩
end Go.Proofs.YtgbdbikjckfgmaaGreat
namespace Go.Proofs.YtgbdbikjckfgmaaGreat
open Go.RowKit Go.Shelf
theorem ruleAt_new (w : World) (f b m e : Int) : RuleAt (w.alloc (.cells #[.int .i64 f, .int .i64 b, .int .i64 m, .int .i64 e] 142)) w.heap.size f b m e := heap_alloc_new w _
set_option maxRecDepth 100000 in
set_option maxHeartbeats 4000000 in
theorem can_any (f b m e wn : Int) (a : Nat) (w : World) (hr : okRule f b m e = true) (ha : a ≤ 120) :
    Calls Tryz.prog 142 #[.agg #[.int .i64 f, .int .i64 b, .int .i64 m, .int .i64 e], .int .i64 wn, .int .i64 a] w fun r w' => r = .returned (.bool (agesF f b m e wn 126 a)) ∧ Below w.heap.size w w' := by
  obtain ⟨g0, g1, g2, g3, g4, g5, g6, g7⟩ := okRule_bd hr
  have HWR := Lib.hid (fun k W h0 h1 => refWrite_any f b m e k W hr h0 h1)
  clear hr
  have hcase : (0 < (a : Int) - e) ∨ ¬ (0 < (a : Int) - e) := by omega
  rcases hcase with hc | hc
  all_goals
    go_enter Tryz.func142, Tryz.ntmps142
    go_wp2
    go_loopw [7] (fun i wr => ∃ q : Nat, i = .int .i64 q ∧ max 0 ((a : Int) - e) ≤ q ∧ (q : Int) ≤ a + e + 1 ∧ (∀ q' : Nat, max 0 ((a : Int) - e) ≤ q' → q' < q → (wrt f b m q' == wn) = false) ∧ Below (w.heap.size + 1) (w.alloc (.cells #[.int .i64 f, .int .i64 b, .int .i64 m, .int .i64 e] 142)) wr) (fun i _ => 200 - (intOf i).toNat)
    case atStart =>
      first
        | exact ⟨((a : Int) - e).toNat, by congr 1; omega, by omega, by omega, fun q' h1 h2 => by omega, Below.refl _ _⟩
        | exact ⟨0, rfl, by omega, by omega, fun q' h1 h2 => by omega, Below.refl _ _⟩
    case round =>
      obtain ⟨q, rfl, hq1, hq2, hall, hbl⟩ := hrel
      have hra : RuleAt wr w.heap.size f b m e := (ruleAt_new w f b m e).below (by simpa using hbl)
      obtain ⟨k0, k1, k2, k3⟩ := hra.cells
      have HALL := Lib.hid hall; have HBL := Lib.hid hbl; clear hall hbl hra
      have HBW : Hid (Below w.heap.size w wr) := (below_alloc w _).trans (HBL.out.mono (by omega))
      have hsz : w.heap.size + 1 ≤ wr.heap.size := by have := HBL.out.size; simpa using this
      by_cases hlt : (q : Int) ≤ a + e
      · cases hw : (wrt f b m q == wn)
        · go_wp2_with (go_at_call 83; refine (HWR.out _ _ (by omega) (by omega)).mono ?_; rintro _ w1 ⟨rfl, hb1⟩)
          go_roundw
          case rel => exact ⟨q + 1, by go_num, by omega, by omega, (fun q' h1 h2 => by rcases Nat.lt_succ_iff_lt_or_eq.1 h2 with h | rfl; exact HALL.out q' h1 h; exact hw), HBL.out.trans (hb1.mono hsz)⟩
          case measure => simp [intOf]; omega
        · go_wp2_with (go_at_call 83; refine (HWR.out _ _ (by omega) (by omega)).mono ?_; rintro _ w1 ⟨rfl, hb1⟩)
          go_ret
          refine ⟨ret_bool ((agesF_iff _ _ _ _ _ _ _).2 ⟨q, by omega, by simpa using hw, by omega, by omega⟩).symm, below_step HBW.out hb1⟩
      · go_wp2
        go_ret
        refine ⟨ret_bool ?_, HBW.out⟩
        cases hA : agesF f b m e wn 126 a
        · rfl
        · obtain ⟨q', h1, h2, h3, h4⟩ := (agesF_iff _ _ _ _ _ _ _).1 hA
          have := HALL.out q' (by omega) (by omega)
          rw [h2] at this; simp at this
theorem flagsA_setv (fl : Nat → Bool) (i : Nat) (v : Bool) : (flagsA fl).setIfInBounds i (.bool v) = flagsA fun k => if k = i then v else fl k := by
  apply Array.ext_getElem?
  intro j
  rw [Array.getElem?_setIfInBounds]
  by_cases hj : j < 121
  · rw [flagsA_get _ _ hj]
    by_cases e : i = j
    · subst e; rw [if_pos rfl, if_pos (by rw [flagsA_size]; exact hj), flagsA_get _ _ hj]; simp
    · rw [if_neg e, flagsA_get _ _ hj, if_neg (Ne.symm e)]
  · have h1 : (flagsA fun k => if k = i then v else fl k).size ≤ j := by rw [flagsA_size]; omega
    have h2 : (flagsA fl).size ≤ j := by rw [flagsA_size]; omega
    rw [Array.getElem?_eq_none h1, Array.getElem?_eq_none h2]
    by_cases e : i = j
    · subst e; simp [flagsA_size, hj]
    · rw [if_neg e]
/-- The first k flags. -/
def upF (fl : Nat → Bool) (k i : Nat) : Bool := decide (i < k) && fl i
theorem upF_set (fl : Nat → Bool) (k : Nat) : (fun i => if i = k then fl k else upF fl k i) = upF fl (k + 1) := by
  funext i
  unfold upF
  by_cases h : i = k
  · subst h; simp
  · rw [if_neg h]; congr 1; rw [Bool.eq_iff_iff]; simp; omega
theorem upF_zero (fl : Nat → Bool) : upF fl 0 = fun _ => false := by funext i; simp [upF]
theorem upF_all (fl : Nat → Bool) : flagsA (upF fl 121) = flagsA fl := flagsA_congr fun i hi => by simp [upF, hi]
theorem flagsR_zero : Tryz.zeroCells181 = flagsA fun _ => false := by kernel_rfl
set_option maxRecDepth 100000 in
set_option maxHeartbeats 4000000 in
theorem refTrue_any (f b m e wn : Int) (w : World) (hr : okRule f b m e = true) :
    Calls Tryz.prog 130 #[.agg #[.int .i64 f, .int .i64 b, .int .i64 m, .int .i64 e], .int .i64 wn] w fun r w' => r = .returned (.agg (flagsA (agesF f b m e wn 126))) ∧ Below w.heap.size w w' := by
  have HC := Lib.hid (fun a W ha => can_any f b m e wn a W hr ha)
  clear hr
  generalize hfl : agesF f b m e wn 126 = fl at *
  clear hfl
  obtain ⟨hz, hb3, q0, q1, q2⟩ := alloc3 w (.cells #[.int .i64 f, .int .i64 b, .int .i64 m, .int .i64 e] 142) (.cells Tryz.zeroCells181 181) (.cells Tryz.zeroCells181 181)
  have HQ : Hid (RuleAt (((w.alloc (.cells #[.int .i64 f, .int .i64 b, .int .i64 m, .int .i64 e] 142)).alloc (.cells Tryz.zeroCells181 181)).alloc (.cells Tryz.zeroCells181 181)) w.heap.size f b m e ∧ (((w.alloc (.cells #[.int .i64 f, .int .i64 b, .int .i64 m, .int .i64 e] 142)).alloc (.cells Tryz.zeroCells181 181)).alloc (.cells Tryz.zeroCells181 181)).heap[w.heap.size + 1]? = some (.cells (flagsA fun _ => false) 181 (0, 0)) ∧ (((w.alloc (.cells #[.int .i64 f, .int .i64 b, .int .i64 m, .int .i64 e] 142)).alloc (.cells Tryz.zeroCells181 181)).alloc (.cells Tryz.zeroCells181 181)).heap[w.heap.size + 2]? = some (.cells (flagsA fun _ => false) 181 (0, 0)) ∧ Below w.heap.size w (((w.alloc (.cells #[.int .i64 f, .int .i64 b, .int .i64 m, .int .i64 e] 142)).alloc (.cells Tryz.zeroCells181 181)).alloc (.cells Tryz.zeroCells181 181))) := ⟨q0, by rw [← flagsR_zero]; exact q1, by rw [← flagsR_zero]; exact q2, hb3⟩
  clear hz hb3 q0 q1 q2
  go_enter Tryz.func130, Tryz.ntmps130
  go_wp2
  go_loopw [6] (fun i wr => ∃ k : Nat, k ≤ 121 ∧ i = .int .i64 k ∧ RuleAt wr w.heap.size f b m e ∧ wr.heap[w.heap.size + 1]? = some (.cells (flagsA fun _ => false) 181 (0, 0)) ∧ wr.heap[w.heap.size + 2]? = some (.cells (flagsA (upF fl k)) 181 (0, 0)) ∧ Below w.heap.size w wr) (fun i _ => 200 - (intOf i).toNat)
  case atStart => exact ⟨0, Nat.zero_le _, rfl, HQ.out.1, HQ.out.2.1, by rw [upF_zero]; exact HQ.out.2.2.1, HQ.out.2.2.2⟩
  case round =>
    obtain ⟨k, hk, rfl, hra, h1, h2, hbl⟩ := hrel
    clear HQ
    obtain ⟨k0, k1, k2, k3⟩ := hra.cells
    have HRA := Lib.hid hra; have H1 := Lib.hid h1; have H2 := Lib.hid h2; have HBL := Lib.hid hbl
    have hsz := (Array.getElem?_eq_some_iff.1 h2).1
    clear hra h1 h2 hbl
    by_cases hlt : k < 121
    · go_wp2_with (go_at_call 142; refine (HC.out k _ (by omega)).mono ?_; rintro _ w1 ⟨rfl, hb1⟩; have HB1 := Lib.hid hb1; have hblk := (hb1.block _ hsz).trans H2.out; have hcell : w1.cell? ⟨w.heap.size + 2, k, none⟩ = some (.bool (upF fl k k)) := (by rw [cell_of_row w1 _ k _ _ _ hblk, flagsA_get _ _ hlt]); have hfz : w1.frozen? ⟨w.heap.size + 2, k, none⟩ = false := frozen_of_row _ _ k _ _ hblk; have HBLK := Lib.hid hblk; clear hb1 hblk)
      go_roundw
      case rel =>
        refine ⟨k + 1, by omega, by go_num, (HRA.out.below HB1.out).other (by omega) _, ?_, ?_, ?_⟩
        · exact ((Fr.set w1 (w.heap.size + 2) k _).block _ (by have := HB1.out.size; omega) (by omega)).trans ((HB1.out.block _ (by omega)).trans H1.out)
        · rw [← upF_set, ← flagsA_setv]
          simp [World.setCell, Array.getElem?_modify, HBLK.out]
        · exact (below_step HBL.out HB1.out).setCell (by show w.heap.size ≤ w.heap.size + 2; omega) _
      case measure => simp [intOf]; omega
    · obtain rfl : k = 121 := by omega
      have H2' : Hid (wr.heap[w.heap.size + 2]? = some (.cells (flagsA fl) 181 (0, 0))) := by unfold Hid; rw [← upF_all]; exact H2.out
      have hs := (show Option.map (fun x => x.size) (Tryz.prog.info? 181) = some (flagsA fl).size from by rw [flagsA_size]; kernel_rfl)
      have HS := Lib.hid hs; clear hs
      have HZ : Hid ((flagsA fl).size = (flagsA fun _ => false).size) := by unfold Hid; rw [flagsA_size, flagsA_size]
      go_wp2_with (first | (with_reducible refine wpList_load_row (o := ⟨some 17, .load 181 (.tmp 5), _, _, _, _⟩) rfl 181 (.tmp 5) rfl (w.heap.size + 2) ?hx 181 (flagsA fl) (0, 0) _ H2'.out Tryz.underlying181 rfl HS.out ?_) | (with_reducible refine wpList_store_row (o := ⟨none, .store 181 (.tmp 4) (.tmp 17), _, _, _, _⟩) rfl 181 (.tmp 4) (.tmp 17) rfl (w.heap.size + 1) (flagsA fl) ?sx ?sy 181 (flagsA fun _ => false) H1.out HS.out HZ.out.symm (flagsA_one _) ?_))
      case hx => rfl
      refine bodyPost_ret (v := .agg (flagsA fl)) (results_cell_row rfl _ _ (w.heap.size + 1) 181 _ (0, 0) _ rfl (setRow_heap _ _ _ _ _ _ H1.out) Tryz.underlying181 rfl HS.out) rfl ⟨rfl, ?_⟩
      exact HBL.out.trans ⟨rfl, rfl, rfl, by simp, fun q hq => setRow_other _ _ _ _ (by omega)⟩
end Go.Proofs.YtgbdbikjckfgmaaGreat
namespace Go.Proofs.YtgbdbikjckfgmaaGreat
open Go.RowKit Go.Shelf
def RlsIn (w : World) (sv : Value) (n : Nat) (R : Nat → Rl) : Prop :=
  (∃ a cap, sv = .slice a 0 cap ∧ n = 0) ∨ ∃ b off cap, sv = .slice (some ⟨b, off, none⟩) n cap ∧ b < w.heap.size ∧ ∀ j, j < n →
    w.cell? ⟨b, off + j * 4, none⟩ = some (.int .i64 (R j).f) ∧ w.cell? ⟨b, off + j * 4 + 1, none⟩ = some (.int .i64 (R j).b) ∧ w.cell? ⟨b, off + j * 4 + 2, none⟩ = some (.int .i64 (R j).m) ∧ w.cell? ⟨b, off + j * 4 + 3, none⟩ = some (.int .i64 (R j).e)
def RcsIn (w : World) (sv : Value) (n : Nat) (C : Nat → Rc) : Prop :=
  (∃ a cap, sv = .slice a 0 cap ∧ n = 0) ∨ ∃ b off cap, sv = .slice (some ⟨b, off, none⟩) n cap ∧ b < w.heap.size ∧ ∀ j, j < n →
    w.cell? ⟨b, off + j * 3, none⟩ = some (.int .i64 (C j).day) ∧ w.cell? ⟨b, off + j * 3 + 1, none⟩ = some (.int .i64 (C j).rule) ∧ w.cell? ⟨b, off + j * 3 + 2, none⟩ = some (.int .i64 (C j).num)
theorem RlsIn.slice {w : World} {sv : Value} {n : Nat} {R : Nat → Rl} (h : RlsIn w sv n R) : ∃ a cap, sv = .slice a n cap := by
  rcases h with ⟨a, cap, rfl, rfl⟩ | ⟨b, off, cap, rfl, _⟩
  · exact ⟨_, _, rfl⟩
  · exact ⟨_, _, rfl⟩
theorem RcsIn.slice {w : World} {sv : Value} {n : Nat} {C : Nat → Rc} (h : RcsIn w sv n C) : ∃ a cap, sv = .slice a n cap := by
  rcases h with ⟨a, cap, rfl, rfl⟩ | ⟨b, off, cap, rfl, _⟩
  · exact ⟨_, _, rfl⟩
  · exact ⟨_, _, rfl⟩
theorem RlsIn.at {w w' : World} {a : Option Addr} {n cap : Nat} {R : Nat → Rl} (h : RlsIn w (.slice a n cap) n R) (hb : Below w.heap.size w w') {k : Nat} (hk : k < n) : ∃ b off, a = some ⟨b, off, none⟩ ∧ b < w.heap.size ∧ w'.cell? ⟨b, off + k * 4, none⟩ = some (.int .i64 (R k).f) ∧ w'.cell? ⟨b, off + k * 4 + 1, none⟩ = some (.int .i64 (R k).b) ∧ w'.cell? ⟨b, off + k * 4 + 2, none⟩ = some (.int .i64 (R k).m) ∧ w'.cell? ⟨b, off + k * 4 + 3, none⟩ = some (.int .i64 (R k).e) := by
  rcases h with ⟨_, _, _, h⟩ | ⟨b', o', c', e, hb', hz⟩
  · omega
  · cases e
    obtain ⟨h0, h1, h2, h3⟩ := hz k hk
    exact ⟨b', o', rfl, hb', kept hb hb' h0, kept hb hb' h1, kept hb hb' h2, kept hb hb' h3⟩
theorem RcsIn.at {w w' : World} {a : Option Addr} {n cap : Nat} {C : Nat → Rc} (h : RcsIn w (.slice a n cap) n C) (hb : Below w.heap.size w w') {k : Nat} (hk : k < n) : ∃ b off, a = some ⟨b, off, none⟩ ∧ b < w.heap.size ∧ w'.cell? ⟨b, off + k * 3, none⟩ = some (.int .i64 (C k).day) ∧ w'.cell? ⟨b, off + k * 3 + 1, none⟩ = some (.int .i64 (C k).rule) ∧ w'.cell? ⟨b, off + k * 3 + 2, none⟩ = some (.int .i64 (C k).num) := by
  rcases h with ⟨_, _, _, h⟩ | ⟨b', o', c', e, hb', hz⟩
  · omega
  · cases e
    obtain ⟨h0, h1, h2⟩ := hz k hk
    exact ⟨b', o', rfl, hb', kept hb hb' h0, kept hb hb' h1, kept hb hb' h2⟩
theorem RlsIn.below {w w' : World} {sv : Value} {n : Nat} {R : Nat → Rl} (h : RlsIn w sv n R) (hB : Below w.heap.size w w') : RlsIn w' sv n R := by
  rcases h with h | ⟨b, off, cap, rfl, hb, hz⟩
  · exact .inl h
  · refine .inr ⟨b, off, cap, rfl, Nat.lt_of_lt_of_le hb hB.size, fun j hj => ?_⟩
    obtain ⟨h0, h1, h2, h3⟩ := hz j hj
    exact ⟨kept hB hb h0, kept hB hb h1, kept hB hb h2, kept hB hb h3⟩
theorem RcsIn.below {w w' : World} {sv : Value} {n : Nat} {C : Nat → Rc} (h : RcsIn w sv n C) (hB : Below w.heap.size w w') : RcsIn w' sv n C := by
  rcases h with h | ⟨b, off, cap, rfl, hb, hz⟩
  · exact .inl h
  · refine .inr ⟨b, off, cap, rfl, Nat.lt_of_lt_of_le hb hB.size, fun j hj => ?_⟩
    obtain ⟨h0, h1, h2⟩ := hz j hj
    exact ⟨kept hB hb h0, kept hB hb h1, kept hB hb h2⟩
/-- The person p of the reference lies in world w as value v. -/
def PersIn (w : World) (v : Value) (p : Pers) : Prop := ∃ rv cv, v = .agg #[.int .i64 p.lo, .int .i64 p.hi, rv, cv] ∧ RlsIn w rv p.nr p.R ∧ RcsIn w cv p.nc p.C
theorem PersIn.below {w w' : World} {v : Value} {p : Pers} (h : PersIn w v p) (hB : Below w.heap.size w w') : PersIn w' v p := by
  obtain ⟨rv, cv, rfl, h1, h2⟩ := h
  exact ⟨rv, cv, rfl, h1.below hB, h2.below hB⟩
def Pers.thin (p : Pers) : Bool := decide ((p.nr : Int) ≤ 7) && decide ((p.nc : Int) ≤ 11)
set_option maxHeartbeats 1000000 in
theorem thin_any (v : Value) (p : Pers) (w : World) (h : PersIn w v p) : Calls Tryz.prog 91 #[v] w fun e w' => e = .returned (.bool p.thin) ∧ Below w.heap.size w w' := by
  obtain ⟨rv, cv, rfl, h1, h2⟩ := h
  obtain ⟨ra, rc, rfl⟩ := h1.slice
  obtain ⟨ca, cc, rfl⟩ := h2.slice
  clear h1 h2
  unfold Pers.thin
  generalize p.nr = nr
  generalize p.nc = nc
  by_cases h1 : (nr : Int) ≤ 7 <;> by_cases h2 : (nc : Int) ≤ 11
  all_goals
    go_enter Tryz.func91, Tryz.ntmps91
    go_wp2
    go_ret
    exact ⟨ret_bool (by simp [*] <;> omega), below_alloc _ _⟩
set_option maxRecDepth 100000 in
set_option maxHeartbeats 4000000 in
theorem refFault_any (v : Value) (p : Pers) (w : World) (h : PersIn w v p) : Calls Tryz.prog 92 #[v] w fun e w' => e = .returned (.int .i64 p.fault) ∧ Below w.heap.size w w' := by
  obtain ⟨rv, cv, rfl, h1, h2⟩ := h
  obtain ⟨ra, rc, rfl⟩ := h1.slice
  obtain ⟨ca, cc, rfl⟩ := h2.slice
  have HR := Lib.hid h1; have HC := Lib.hid h2; clear h1 h2
  by_cases hbig : 4 < p.nr ∨ 8 < p.nc
  · have HF : Hid (p.fault = 3) := by unfold Hid Pers.fault; rw [if_pos hbig]
    by_cases h4 : 4 < p.nr
    · go_enter Tryz.func92, Tryz.ntmps92
      go_wp2
      go_ret
      exact ⟨ret_int HF.out.symm, below_alloc _ _⟩
    · have h8 : 8 < p.nc := by omega
      go_enter Tryz.func92, Tryz.ntmps92
      go_wp2
      go_ret
      exact ⟨ret_int HF.out.symm, below_alloc _ _⟩
  have hn4 : p.nr ≤ 4 := by omega
  have hn8 : p.nc ≤ 8 := by omega
  have HF : Hid (p.fault = errOf p.okAll) := by unfold Hid Pers.fault; rw [if_neg hbig]
  clear hbig
  by_cases hpre : inB p.lo (-50000) 50000 = true ∧ inB p.hi (-50000) 50000 = true ∧ p.lo ≤ p.hi ∧ p.nr ≠ 0
  · obtain ⟨q1, q2, q3, q4⟩ := hpre
    have hnz : ((p.nr : Int) == 0) = false := by simp; omega
    have HOK : Hid (p.okAll = (allB (fun j => (p.R j).ok) p.nr && allB (fun j => (p.C j).ok p.nr) p.nc)) := by
      unfold Hid Pers.okAll; rw [q1, q2, show (p.nr == 0) = false from by simp [q4]]; simp [q3]
    go_enter Tryz.func92, Tryz.ntmps92
    go_wp2_with (go_at_call 118; refine (isDayR_any _ _).mono ?_; rintro _ _ ⟨rfl, rfl⟩)
    go_loopw [3] (fun i wr => ∃ k : Nat, k ≤ p.nr ∧ i = .int .i64 k ∧ (∀ q, q < k → (p.R q).ok = true) ∧ Below (w.heap.size + 1) (w.alloc (.cells #[.int .i64 p.lo, .int .i64 p.hi, .slice ra p.nr rc, .slice ca p.nc cc] 75)) wr) (fun i _ => p.nr - (intOf i).toNat)
    case atStart => exact ⟨0, Nat.zero_le _, rfl, fun q h => absurd h (Nat.not_lt_zero _), Below.refl _ _⟩
    case round =>
      obtain ⟨k, hk, rfl, hall, hbl⟩ := hrel
      have hblk := (hbl.block w.heap.size (by omega)).trans (heap_alloc_new w _)
      have c2 : wr.cell? ⟨w.heap.size, 2, none⟩ = some (.slice ra p.nr rc) := cell_of_row _ _ 2 _ _ _ hblk
      have c3 : wr.cell? ⟨w.heap.size, 3, none⟩ = some (.slice ca p.nc cc) := cell_of_row _ _ 3 _ _ _ hblk
      have HALL := Lib.hid hall; have HBL := Lib.hid hbl
      have HBW : Hid (Below w.heap.size w wr) := (below_alloc w _).trans (hbl.mono (by omega))
      have hsz : w.heap.size + 1 ≤ wr.heap.size := by have := hbl.size; simpa using this
      clear hall hbl hblk
      by_cases hlt : k < p.nr
      · obtain ⟨b, off, rfl, hbs, x0, x1, x2, x3⟩ := HR.out.at HBW.out hlt
        have HIR := Lib.hid (fun W => isRule_any (p.R k).f (p.R k).b (p.R k).m (p.R k).e W)
        cases hok : (p.R k).ok
        · have hok' : okRule (p.R k).f (p.R k).b (p.R k).m (p.R k).e = false := hok
          go_wp2_with (go_at_call 119; refine (HIR.out _).mono ?_; rintro _ w1 ⟨rfl, hb1⟩)
          go_ret
          exact ⟨ret_int (by rw [HF.out, HOK.out, allB_false hlt hok]; rfl), below_step HBW.out hb1⟩
        · have hok' : okRule (p.R k).f (p.R k).b (p.R k).m (p.R k).e = true := hok
          go_wp2_with (go_at_call 119; refine (HIR.out _).mono ?_; rintro _ w1 ⟨rfl, hb1⟩)
          go_roundw
          case rel => exact ⟨k + 1, by omega, by go_num, (fun q hq => by rcases Nat.lt_succ_iff_lt_or_eq.1 hq with h | rfl; exact HALL.out q h; exact hok), HBL.out.trans (hb1.mono hsz)⟩
          case measure => simp [intOf]; omega
      · obtain rfl : k = p.nr := by omega
        have HA : Hid (allB (fun j => (p.R j).ok) p.nr = true) := allB_true HALL.out
        go_wp2
        obtain ⟨wo, rfl⟩ : ∃ wo : World, wo = wr := ⟨_, rfl⟩
        go_loopw [4] (fun i wr => ∃ k : Nat, k ≤ p.nc ∧ i = .int .i64 k ∧ (∀ q, q < k → (p.C q).ok p.nr = true) ∧ Below (w.heap.size + 1) (w.alloc (.cells #[.int .i64 p.lo, .int .i64 p.hi, .slice ra p.nr rc, .slice ca p.nc cc] 75)) wr) (fun i _ => p.nc - (intOf i).toNat)
        case atStart => exact ⟨0, Nat.zero_le _, rfl, fun q h => absurd h (Nat.not_lt_zero _), HBL.out⟩
        case round =>
          clear HALL HBL HBW c2 c3 hsz
          obtain ⟨k, hk, rfl, hall, hbl⟩ := hrel
          have hblk := (hbl.block w.heap.size (by omega)).trans (heap_alloc_new w _)
          have c2 : wr.cell? ⟨w.heap.size, 2, none⟩ = some (.slice ra p.nr rc) := cell_of_row _ _ 2 _ _ _ hblk
          have c3 : wr.cell? ⟨w.heap.size, 3, none⟩ = some (.slice ca p.nc cc) := cell_of_row _ _ 3 _ _ _ hblk
          have HALL := Lib.hid hall; have HBL := Lib.hid hbl
          have HBW : Hid (Below w.heap.size w wr) := (below_alloc w _).trans (hbl.mono (by omega))
          have hsz : w.heap.size + 1 ≤ wr.heap.size := by have := hbl.size; simpa using this
          have hsz' : w.heap.size < wr.heap.size := by omega
          clear hall hbl hblk
          by_cases hlt : k < p.nc
          · obtain ⟨b, off, rfl, hbs, x0, x1, x2⟩ := HC.out.at HBW.out hlt
            have HOKC : Hid ((p.C k).ok p.nr = (inB (p.C k).day (-50000) 50000 && inB (p.C k).rule 0 ((p.nr : Int) - 1) && inB (p.C k).num 0 140)) := rfl
            generalize (p.C k).day = day at *
            generalize (p.C k).rule = rule at *
            generalize (p.C k).num = num at *
            cases t1 : inB day (-50000) 50000 <;> cases t2 : inB rule 0 ((p.nr : Int) - 1) <;> cases t3 : inB num 0 140
            all_goals
              go_wp2_with (first | (go_at_call 118; refine (isDayR_any _ _).mono ?_; rintro _ _ ⟨rfl, rfl⟩) | (go_at_call 32; refine (refIn_any _ _ _ _).mono ?_; rintro _ _ ⟨rfl, rfl⟩))
              first
                | (go_ret
                   exact ⟨ret_int (by rw [HF.out, HOK.out, HA.out, allB_false hlt (by rw [HOKC.out, t1, t2, t3]; rfl)]; rfl), HBW.out.trans ((below_alloc _ _).mono (by omega))⟩)
                | (go_roundw
                   case rel => exact ⟨k + 1, by omega, by go_num, (fun q hq => by rcases Nat.lt_succ_iff_lt_or_eq.1 hq with h | rfl; exact HALL.out q h; rw [HOKC.out, t1, t2, t3]; rfl), HBL.out.trans ((below_alloc _ _).mono hsz)⟩
                   case measure => simp [intOf]; omega)
          · obtain rfl : k = p.nc := by omega
            go_wp2
            go_ret
            exact ⟨ret_int (by rw [HF.out, HOK.out, HA.out, allB_true HALL.out]; rfl), HBW.out⟩
  · have HOK : Hid (p.fault = 1) := by
      unfold Hid; rw [HF.out]; unfold Pers.okAll
      cases q1 : inB p.lo (-50000) 50000
      · rfl
      cases q2 : inB p.hi (-50000) 50000
      · rfl
      by_cases q3 : p.lo ≤ p.hi
      · by_cases q4 : p.nr = 0
        · simp [q4, errOf]
        · exact absurd ⟨q1, q2, q3, q4⟩ hpre
      · simp [q3, errOf]
    have hcases : inB p.lo (-50000) 50000 = false ∨ (inB p.lo (-50000) 50000 = true ∧ inB p.hi (-50000) 50000 = false) ∨ (inB p.lo (-50000) 50000 = true ∧ inB p.hi (-50000) 50000 = true ∧ p.hi < p.lo) ∨ (inB p.lo (-50000) 50000 = true ∧ inB p.hi (-50000) 50000 = true ∧ p.lo ≤ p.hi ∧ ((p.nr : Int) == 0) = true) := by
      cases q1 : inB p.lo (-50000) 50000
      · exact .inl rfl
      cases q2 : inB p.hi (-50000) 50000
      · exact .inr (.inl ⟨rfl, rfl⟩)
      by_cases q3 : p.lo ≤ p.hi
      · by_cases q4 : p.nr = 0
        · exact .inr (.inr (.inr ⟨rfl, rfl, q3, by simp [q4]⟩))
        · exact absurd ⟨q1, q2, q3, q4⟩ hpre
      · exact .inr (.inr (.inl ⟨rfl, rfl, by omega⟩))
    clear hpre
    rcases hcases with t1 | ⟨t1, t2⟩ | ⟨t1, t2, t3⟩ | ⟨t1, t2, t3, t4⟩
    all_goals
      go_enter Tryz.func92, Tryz.ntmps92
      go_wp2_with (go_at_call 118; refine (isDayR_any _ _).mono ?_; rintro _ _ ⟨rfl, rfl⟩)
      go_ret
      exact ⟨ret_int HOK.out.symm, below_alloc _ _⟩
end Go.Proofs.YtgbdbikjckfgmaaGreat
namespace Go.Proofs.YtgbdbikjckfgmaaGreat
open Go.RowKit Go.Shelf
theorem RlsAt.congr {w : World} {v : Value} {n : Nat} {R S : Nat → Rl} (h : RlsAt w v n R) (he : ∀ j, j < n → R j = S j) : RlsAt w v n S := by
  rcases h with h | ⟨b, off, cap, rfl, hb, hz⟩
  · exact .inl h
  · exact .inr ⟨b, off, cap, rfl, hb, fun j hj => by rw [← he j hj]; exact hz j hj⟩
theorem RcsAt.congr {w : World} {v : Value} {n : Nat} {R S : Nat → Rc} (h : RcsAt w v n R) (he : ∀ j, j < n → R j = S j) : RcsAt w v n S := by
  rcases h with h | ⟨b, off, cap, rfl, hb, hz⟩
  · exact .inl h
  · exact .inr ⟨b, off, cap, rfl, hb, fun j hj => by rw [← he j hj]; exact hz j hj⟩
theorem flatL_snoc (l : List Rl) (r : Rl) : flatL (l ++ [r]) = flatL l ++ [.int .i64 r.f, .int .i64 r.b, .int .i64 r.m, .int .i64 r.e] := by simp [flatL]
theorem flatC_snoc (l : List Rc) (r : Rc) : flatC (l ++ [r]) = flatC l ++ [.int .i64 r.day, .int .i64 r.rule, .int .i64 r.num] := by simp [flatC]
def rlTo (R : Nat → Rl) (k : Nat) : List Rl := (List.range k).map R
def rcTo (C : Nat → Rc) (k : Nat) : List Rc := (List.range k).map C
theorem rlTo_succ (R : Nat → Rl) (k : Nat) : rlTo R (k + 1) = rlTo R k ++ [R k] := by simp [rlTo, List.range_succ]
theorem rcTo_succ (C : Nat → Rc) (k : Nat) : rcTo C (k + 1) = rcTo C k ++ [C k] := by simp [rcTo, List.range_succ]
theorem rlTo_length (R : Nat → Rl) (k : Nat) : (rlTo R k).length = k := by simp [rlTo]
theorem rcTo_length (C : Nat → Rc) (k : Nat) : (rcTo C k).length = k := by simp [rcTo]
theorem LL.rls {W : World} {v : Value} {R : Nat → Rl} {n : Nat} (h : LL W v (rlTo R n)) : RlsAt W v n R := by
  have := h.at
  rw [rlTo_length] at this
  exact this.congr (fun j hj => by simp [rlTo, hj])
theorem CL.rcs {W : World} {v : Value} {C : Nat → Rc} {n : Nat} (h : CL W v (rcTo C n)) : RcsAt W v n C := by
  have := h.at
  rw [rcTo_length] at this
  exact this.congr (fun j hj => by simp [rcTo, hj])
/-- While the person is built: its rules av and records bv so far. -/
def PI (w : World) (p : Pers) (rv cv av bv : Value) (W : World) : Prop :=
  W.heap[w.heap.size]? = some (.cells #[.int .i64 p.lo, .int .i64 p.hi, rv, cv] 75 (0, 0)) ∧ W.heap[w.heap.size + 1]? = some (.cells #[.int .i64 0, .int .i64 0, .slice none 0 0, .slice none 0 0] 98 (0, 0)) ∧
  W.heap[w.heap.size + 2]? = some (.cells #[.int .i64 p.lo, .int .i64 p.hi, av, bv] 98 (0, 0)) ∧ Below w.heap.size w W
theorem PI.fr {w : World} {p : Pers} {rv cv av bv : Value} {W W' : World} {ex : Nat → Prop} (h : PI w p rv cv av bv W) (hf : Fr ex W W') (hx : ∀ q c t, ex q → W.heap[q]? = some (.cells c t (0, 0)) → t = 156 ∨ t = 159) (hlow : ∀ q, ex q → w.heap.size ≤ q) : PI w p rv cv av bv W' := by
  obtain ⟨h1, h2, h3, h4⟩ := h
  have go : ∀ (q : Nat) (c : Array Value) (t : TypeId), W.heap[q]? = some (Obj.cells c t (0, 0)) → t ≠ 156 → t ≠ 159 → W'.heap[q]? = some (Obj.cells c t (0, 0)) := fun q c t hq n1 n2 =>
    (hf.block _ (Array.getElem?_eq_some_iff.1 hq).1 (fun e => by rcases hx q c t e hq with e | e; exact n1 e; exact n2 e)).trans hq
  exact ⟨go _ _ _ h1 (by decide) (by decide), go _ _ _ h2 (by decide) (by decide), go _ _ _ h3 (by decide) (by decide), h4.trans (hf.low h4.size (fun q hq e => by have := hlow q e; omega))⟩
theorem PI.below {w : World} {p : Pers} {rv cv av bv : Value} {W W' : World} (h : PI w p rv cv av bv W) (hb : Below W.heap.size W W') : PI w p rv cv av bv W' :=
  h.fr (Fr.below hb (fun _ => False)) (fun _ _ _ e => e.elim) (fun _ e => e.elim)
theorem PI.set {w : World} {p : Pers} {rv cv av bv : Value} {W : World} (h : PI w p rv cv av bv W) (o : Nat) (u : Value) (c : Array Value) (hc : (#[.int .i64 p.lo, .int .i64 p.hi, av, bv] : Array Value).setIfInBounds o u = c) :
    (W.setCell ⟨w.heap.size + 2, o, none⟩ u).heap[w.heap.size]? = some (.cells #[.int .i64 p.lo, .int .i64 p.hi, rv, cv] 75 (0, 0)) ∧ (W.setCell ⟨w.heap.size + 2, o, none⟩ u).heap[w.heap.size + 1]? = some (.cells #[.int .i64 0, .int .i64 0, .slice none 0 0, .slice none 0 0] 98 (0, 0)) ∧ (W.setCell ⟨w.heap.size + 2, o, none⟩ u).heap[w.heap.size + 2]? = some (.cells c 98 (0, 0)) ∧ Below w.heap.size w (W.setCell ⟨w.heap.size + 2, o, none⟩ u) := by
  obtain ⟨h1, h2, h3, h4⟩ := h
  have hf := Fr.set W (w.heap.size + 2) o u
  have hs := (Array.getElem?_eq_some_iff.1 h3).1
  refine ⟨(hf.block _ (by omega) (by omega)).trans h1, (hf.block _ (by omega) (by omega)).trans h2, ?_, h4.trans (hf.low h4.size (fun q hq e => by omega))⟩
  rw [← hc]
  simp [World.setCell, Array.getElem?_modify, h3]
theorem LL.ex {W : World} {v : Value} {l : List Rl} (h : LL W v l) (q : Nat) (c : Array Value) (t : TypeId) (hq : v.ownBlock = some q) (hc : W.heap[q]? = some (Obj.cells c t (0, 0))) : t = 156 := by
  rcases h.2 with ⟨rfl, _⟩ | ⟨g, cap, cur, rfl, _, hg, _⟩
  · cases hq
  · cases hq; rw [hg] at hc; cases hc; rfl
theorem CL.ex {W : World} {v : Value} {l : List Rc} (h : CL W v l) (q : Nat) (c : Array Value) (t : TypeId) (hq : v.ownBlock = some q) (hc : W.heap[q]? = some (Obj.cells c t (0, 0))) : t = 159 := by
  rcases h.2 with ⟨rfl, _⟩ | ⟨g, cap, cur, rfl, _, hg, _⟩
  · cases hq
  · cases hq; rw [hg] at hc; cases hc; rfl
end Go.Proofs.YtgbdbikjckfgmaaGreat
