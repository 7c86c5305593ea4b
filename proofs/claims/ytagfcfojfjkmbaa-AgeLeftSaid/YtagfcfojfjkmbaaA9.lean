/- Contracts: CheckPerson. -/
import Derived.Test.YtagfcfojfjkmbaaA8
namespace Go.Proofs.Ytagfcfojfjkmbaa
open Go.RowKit

structure Pers where
  lo : Int
  hi : Int
  nr : Nat
  R : Nat → Rl
  nc : Nat
  C : Nat → Rc

def Pers.okAll (p : Pers) : Bool := inB p.lo (-50000) 50000 && inB p.hi (-50000) 50000 && decide (p.lo ≤ p.hi) && !(p.nr == 0) && allB (fun j => (p.R j).ok) p.nr && allB (fun j => (p.C j).ok p.nr) p.nc
def errOf (b : Bool) : Int := if b then 0 else 1
def Pers.fault (p : Pers) : Int := if 4 < p.nr ∨ 8 < p.nc then 3 else errOf p.okAll

/-- The person p lies in world w as value v. -/
def PersAt (w : World) (v : Value) (p : Pers) : Prop := ∃ rv cv, v = .agg #[.int .i64 p.lo, .int .i64 p.hi, rv, cv] ∧ RlsAt w rv p.nr p.R ∧ RcsAt w cv p.nc p.C
theorem PersAt.below {w w' : World} {v : Value} {p : Pers} (h : PersAt w v p) (hB : Below w.heap.size w w') : PersAt w' v p := by
  obtain ⟨rv, cv, rfl, h1, h2⟩ := h
  exact ⟨rv, cv, rfl, h1.below hB, h2.below hB⟩

set_option maxHeartbeats 1000000 in
theorem check_limit (lo hi : Int) (a a' : Option Addr) (nr cap nc cap' : Nat) (w : World) (h : 4 < nr ∨ 8 < nc) (hn : nr ≤ 100000) (hc : nc ≤ 100000) :
    Calls Try.prog 42 #[.agg #[.int .i64 lo, .int .i64 hi, .slice a nr cap, .slice a' nc cap']] w fun e w' => e = .returned (.int .i64 3) ∧ Below w.heap.size w w' := by
  rcases h with h | h
  · go_enter Try.func42, Try.ntmps42
    go_wp2
    go_ret
    exact ⟨rfl, below_alloc _ _⟩
  · by_cases h4 : 4 < nr
    · go_enter Try.func42, Try.ntmps42
      go_wp2
      go_ret
      exact ⟨rfl, below_alloc _ _⟩
    · go_enter Try.func42, Try.ntmps42
      go_wp2
      go_ret
      exact ⟨rfl, below_alloc _ _⟩

set_option maxRecDepth 100000 in
set_option maxHeartbeats 4000000 in
theorem check_rest (lo hi : Int) (a a' : Option Addr) (nr cap nc cap' : Nat) (R : Nat → Rl) (C : Nat → Rc) (w : World) (hn : nr ≤ 4) (hc : nc ≤ 8)
    (hR : RlsAt w (.slice a nr cap) nr R) (hC : RcsAt w (.slice a' nc cap') nc C) :
    Calls Try.prog 42 #[.agg #[.int .i64 lo, .int .i64 hi, .slice a nr cap, .slice a' nc cap']] w fun e w' => e = .returned (.int .i64 (errOf (Pers.okAll ⟨lo, hi, nr, R, nc, C⟩))) ∧ Below w.heap.size w w' := by
  have HR := Lib.hid hR; clear hR
  have HC := Lib.hid hC; clear hC
  have hb0 : nr ≠ 0 → ((nr : Int) == 0) = false := fun h => by simp [h]
  by_cases h0 : nr = 0 <;> cases hA : allB (fun j => (C j).ok nr) nc <;> by_cases hlo : lo ≤ hi
  all_goals first | subst h0 | have hb0 := hb0 h0
  all_goals
    go_enter Try.func42, Try.ntmps42
    go_wp2_with (first | (go_at_call 66; refine (isDay_any _ _).mono ?_; rintro e w' ⟨rfl, rfl⟩) | (go_at_call 77; refine (all_rules nr _ R _ (by omega) (HR.out.below (below_alloc _ _))).mono ?_; rintro e w1 ⟨rfl, hb1⟩; obtain ⟨hc1, hf1⟩ := bcell hb1; have hs1 : w.heap.size + 1 ≤ w1.heap.size := by have := hb1.size; simp at this; omega) | (go_at_call 79; refine (all_recs nc _ lo hi a nr cap _ C _ (by omega) (by omega) (HC.out.below ((below_alloc _ _).trans (hb1.mono (by simp))))).mono ?_; rintro e w2 ⟨rfl, hb2⟩))
    all_goals go_ret
    all_goals (refine ⟨ret_int (by first | (simp [Pers.okAll, errOf, *]; done) | (simp [Pers.okAll, errOf, *]; intro h; omega)), ?_⟩)
    all_goals first | exact below_alloc _ _ | exact (below_alloc _ _).trans (hb1.mono (by simp)) | exact ((below_alloc _ _).trans (hb1.mono (by simp))).trans (hb2.mono (by omega))

theorem check_any (v : Value) (p : Pers) (w : World) (h : PersAt w v p) (hn : p.nr ≤ 100000) (hc : p.nc ≤ 100000) :
    Calls Try.prog 42 #[v] w fun e w' => e = .returned (.int .i64 p.fault) ∧ Below w.heap.size w w' := by
  obtain ⟨rv, cv, rfl, h1, h2⟩ := h
  obtain ⟨a, cap, rfl⟩ := h1.slice
  obtain ⟨a', cap', rfl⟩ := h2.slice
  by_cases h : 4 < p.nr ∨ 8 < p.nc
  · unfold Pers.fault; rw [if_pos h]
    exact check_limit _ _ _ _ _ _ _ _ _ h hn hc
  · unfold Pers.fault; rw [if_neg h]
    exact check_rest _ _ _ _ _ _ _ _ _ _ _ (by omega) (by omega) h1 h2
end Go.Proofs.Ytagfcfojfjkmbaa
