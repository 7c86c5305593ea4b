/- Plain laws of lists of ranges: membership, normal lists, what is in two of them. | Contracts of small functions of package age. | Contracts: smallest, modes, write, valid. | Contracts: valid, extended. | Contracts: ages. | Contracts: extended on lists, ranges, True. | Contracts: True, Write, Age; all over ints. | Contracts: all over rules and records, record, CheckPerson. | Contracts: all over rules and records, CheckPerson. | Contracts: CheckPerson. | slices.Backward over ranges: the iterator's contract. | A law for a range over a function whose rounds always go on, at the wide fence; the iterator may itself range over a function. | years: the iterator over the true ages of a record, the greatest first. -/
import Derived.Test.YtagfcfojfjkmbaaRows
import Derived.WalkKit
import Derived.WalkSpells
import Derived.WalkLawsBesides
import Derived.Lib.Hide
import Derived.Deep.RegionHeld3
import Derived.Deep.DrawnRows
import Derived.LoopTactic
import Derived.Outline
import Derived.Deep.RegionWith
import Derived.Deep.QuietTactic
import Derived.BigQuiet
import Derived.Maps.AppendAt
import Derived.Deep.AppendLies
import Derived.Laws.Rows
import Derived.Laws.Tables
import Derived.RangeFuncNested
import Derived.RangeFuncBound
import Derived.RangeFuncCalls
import Derived.RangeFuncLeaves
import Derived.Shelf.Abstract
import Derived.Shelf.RegionOpen
import Derived.OwnWalkIn
import Derived.TacticsInMore
import Derived.LoopNIn
import Derived.LoopIn
namespace Go.Proofs.Ytagfcfojfjkmbaa

abbrev RL := List (Int × Int)
/-- n is in some range of l. -/
def hasR (l : RL) (n : Int) : Bool := l.any fun r => decide (r.1 ≤ n) && decide (n ≤ r.2)
/-- Ranges in order, none empty, no two of them touching. -/
def Nrm (l : RL) : Prop := l.Pairwise (fun a b => a.2 + 2 ≤ b.1) ∧ ∀ r ∈ l, r.1 ≤ r.2

theorem hasR_nil (n : Int) : hasR [] n = false := rfl
theorem hasR_cons (r : Int × Int) (l : RL) (n : Int) : hasR (r :: l) n = ((decide (r.1 ≤ n) && decide (n ≤ r.2)) || hasR l n) := rfl
theorem hasR_append (a b : RL) (n : Int) : hasR (a ++ b) n = (hasR a n || hasR b n) := by simp [hasR]
theorem hasR_iff (l : RL) (n : Int) : hasR l n = true ↔ ∃ r ∈ l, r.1 ≤ n ∧ n ≤ r.2 := by simp [hasR]
theorem hasR_false (l : RL) (n : Int) : hasR l n = false ↔ ∀ r ∈ l, ¬ (r.1 ≤ n ∧ n ≤ r.2) := by
  rw [← Bool.not_eq_true, hasR_iff]; simp

theorem Nrm.nil : Nrm [] := ⟨List.Pairwise.nil, by simp⟩
theorem Nrm.cons_iff (r : Int × Int) (l : RL) : Nrm (r :: l) ↔ r.1 ≤ r.2 ∧ (∀ s ∈ l, r.2 + 2 ≤ s.1) ∧ Nrm l := by
  unfold Nrm
  rw [List.pairwise_cons]
  constructor
  · rintro ⟨⟨h1, h2⟩, h3⟩
    exact ⟨h3 r (by simp), h1, h2, fun s hs => h3 s (by simp [hs])⟩
  · rintro ⟨h1, h2, h3, h4⟩
    refine ⟨⟨h2, h3⟩, fun s hs => ?_⟩
    rcases List.mem_cons.1 hs with rfl | h
    · exact h1
    · exact h4 s h
theorem Nrm.tail {r : Int × Int} {l : RL} (h : Nrm (r :: l)) : Nrm l := ((Nrm.cons_iff r l).1 h).2.2
theorem Nrm.snoc_iff (l : RL) (r : Int × Int) : Nrm (l ++ [r]) ↔ Nrm l ∧ r.1 ≤ r.2 ∧ ∀ s ∈ l, s.2 + 2 ≤ r.1 := by
  unfold Nrm
  rw [List.pairwise_append]
  constructor
  · rintro ⟨⟨h1, _, h2⟩, h3⟩
    exact ⟨⟨h1, fun s hs => h3 s (by simp [hs])⟩, h3 r (by simp), fun s hs => h2 s hs r (by simp)⟩
  · rintro ⟨⟨h1, h2⟩, h3, h4⟩
    refine ⟨⟨h1, by simp, fun a ha b hb => ?_⟩, fun s hs => ?_⟩
    · rw [List.mem_singleton] at hb; subst hb; exact h4 a ha
    · rcases List.mem_append.1 hs with h | h
      · exact h2 s h
      · rw [List.mem_singleton] at h; subst h; exact h3
/-- Below its first range a normal list has nothing. -/
theorem Nrm.low {r : Int × Int} {l : RL} (h : Nrm (r :: l)) (n : Int) (hn : n < r.1) : hasR (r :: l) n = false := by
  obtain ⟨h1, h2, h3⟩ := (Nrm.cons_iff r l).1 h
  rw [hasR_false]
  intro s hs
  rcases List.mem_cons.1 hs with rfl | h'
  · omega
  · have := h2 s h'; omega
theorem Nrm.after {r : Int × Int} {l : RL} (h : Nrm (r :: l)) (n : Int) (hn : n ≤ r.2 + 1) : hasR l n = false := by
  obtain ⟨h1, h2, h3⟩ := (Nrm.cons_iff r l).1 h
  rw [hasR_false]
  intro s hs
  have := h2 s hs; omega
theorem Nrm.first {r : Int × Int} {l : RL} (h : Nrm (r :: l)) : hasR (r :: l) r.1 = true := by
  have := ((Nrm.cons_iff r l).1 h).1
  rw [hasR_iff]; exact ⟨r, by simp, by omega, by omega⟩
/-- A normal list is told by its members. -/
theorem Nrm.ext {a b : RL} (ha : Nrm a) (hb : Nrm b) (h : ∀ n, hasR a n = hasR b n) : a = b := by
  induction a generalizing b with
  | nil =>
    cases b with
    | nil => rfl
    | cons s b => have := hb.first; rw [← h] at this; simp [hasR] at this
  | cons r a ih =>
    cases b with
    | nil => have := ha.first; rw [h] at this; simp [hasR] at this
    | cons s b =>
      have e1 : r.1 = s.1 := by
        rcases Int.lt_trichotomy r.1 s.1 with hl | he | hl
        · have h1 := ha.first; rw [h, hb.low _ hl] at h1; cases h1
        · exact he
        · have h1 := hb.first; rw [← h, ha.low _ hl] at h1; cases h1
      have hra := ((Nrm.cons_iff r a).1 ha).1
      have hsb := ((Nrm.cons_iff s b).1 hb).1
      have e2 : r.2 = s.2 := by
        rcases Int.lt_trichotomy r.2 s.2 with hl | he | hl
        · have h1 := h (r.2 + 1)
          rw [hasR_cons, hasR_cons, ha.after (r.2 + 1) (by omega), hb.after (r.2 + 1) (by omega)] at h1
          simp only [Bool.or_false] at h1
          rw [Bool.eq_iff_iff] at h1; simp at h1; omega
        · exact he
        · have h1 := h (s.2 + 1)
          rw [hasR_cons, hasR_cons, ha.after (s.2 + 1) (by omega), hb.after (s.2 + 1) (by omega)] at h1
          simp only [Bool.or_false] at h1
          rw [Bool.eq_iff_iff] at h1; simp at h1; omega
      have e : r = s := Prod.ext e1 e2
      subst e
      rw [ih ha.tail hb.tail]
      intro n
      by_cases hn : n ≤ r.2 + 1
      · rw [ha.after n hn, hb.after n hn]
      · have h1 := h n
        rw [hasR_cons, hasR_cons, show (decide (r.1 ≤ n) && decide (n ≤ r.2)) = false from by simp; omega] at h1
        simpa using h1

/-- What is in both of two lists: the program's way. -/
def meetF : Nat → RL → RL → RL
  | k + 1, x :: a, y :: b => (if max x.1 y.1 ≤ min x.2 y.2 then [(max x.1 y.1, min x.2 y.2)] else []) ++ (if x.2 < y.2 then meetF k a (y :: b) else meetF k (x :: a) b)
  | _, _, _ => []
def meetL (a b : RL) : RL := meetF (a.length + b.length) a b
theorem meetL_nil_left (b : RL) : meetL [] b = [] := by unfold meetL; cases b <;> simp [meetF]
theorem meetL_nil_right (a : RL) : meetL a [] = [] := by unfold meetL; cases a <;> simp [meetF]
theorem meetL_cons (x y : Int × Int) (a b : RL) : meetL (x :: a) (y :: b) = (if max x.1 y.1 ≤ min x.2 y.2 then [(max x.1 y.1, min x.2 y.2)] else []) ++ (if x.2 < y.2 then meetL a (y :: b) else meetL (x :: a) b) := by
  unfold meetL
  rw [show (x :: a).length + (y :: b).length = (a.length + b.length + 1) + 1 from by simp; omega, meetF]
  congr 1
  split
  · rw [show a.length + (y :: b).length = a.length + b.length + 1 from by simp; omega]
  · rw [show (x :: a).length + b.length = a.length + b.length + 1 from by simp; omega]

theorem meetF_facts (k : Nat) : ∀ (a b : RL), a.length + b.length ≤ k → Nrm a → Nrm b → Nrm (meetL a b) ∧ (∀ n, hasR (meetL a b) n = (hasR a n && hasR b n)) ∧ (∀ r ∈ meetL a b, (∃ x ∈ a, x.1 ≤ r.1 ∧ r.2 ≤ x.2) ∧ ∃ y ∈ b, y.1 ≤ r.1 ∧ r.2 ≤ y.2) := by
  induction k with
  | zero =>
    intro a b hl _ _
    have : a = [] := by cases a <;> simp_all
    subst this
    rw [meetL_nil_left]
    exact ⟨Nrm.nil, fun n => by simp [hasR], by simp⟩
  | succ k ih =>
    intro a b hl ha hb
    cases a with
    | nil => rw [meetL_nil_left]; exact ⟨Nrm.nil, fun n => by simp [hasR], by simp⟩
    | cons x a =>
      cases b with
      | nil => rw [meetL_nil_right]; exact ⟨Nrm.nil, fun n => by simp [hasR], by simp⟩
      | cons y b =>
        rw [meetL_cons]
        have hx := (Nrm.cons_iff x a).1 ha
        have hy := (Nrm.cons_iff y b).1 hb
        simp only [List.length_cons] at hl
        by_cases hc : x.2 < y.2
        · rw [if_pos hc]
          obtain ⟨i1, i2, i3⟩ := ih a (y :: b) (by simp; omega) ha.tail hb
          have far : ∀ s ∈ meetL a (y :: b), x.2 + 2 ≤ s.1 := fun s hs => by
            obtain ⟨⟨x', hx', h1, _⟩, _⟩ := i3 s hs
            have := hx.2.1 x' hx'; omega
          have mem : ∀ s ∈ meetL a (y :: b), (∃ x' ∈ x :: a, x'.1 ≤ s.1 ∧ s.2 ≤ x'.2) ∧ ∃ y' ∈ y :: b, y'.1 ≤ s.1 ∧ s.2 ≤ y'.2 := fun s hs => by
            obtain ⟨⟨x', hx', h1⟩, h2⟩ := i3 s hs
            exact ⟨⟨x', by simp [hx'], h1⟩, h2⟩
          have key : ∀ n, (hasR (x :: a) n && hasR (y :: b) n) = ((decide (max x.1 y.1 ≤ n) && decide (n ≤ min x.2 y.2)) || (hasR a n && hasR (y :: b) n)) := by
            intro n
            rw [hasR_cons x, Bool.and_or_distrib_right]
            congr 1
            by_cases h : x.1 ≤ n ∧ n ≤ x.2
            · rw [hasR_cons y, hb.after n (by omega), Bool.eq_iff_iff]; simp; omega
            · rw [show (decide (x.1 ≤ n) && decide (n ≤ x.2)) = false from by simp; omega]
              rw [show (decide (max x.1 y.1 ≤ n) && decide (n ≤ min x.2 y.2)) = false from by simp; omega]; simp
          split
          · rename_i hm
            refine ⟨?_, fun n => ?_, ?_⟩
            · refine (Nrm.cons_iff _ _).2 ⟨hm, fun s hs => ?_, i1⟩
              have := far s hs
              show min x.2 y.2 + 2 ≤ s.1
              omega
            · rw [key n, List.singleton_append, hasR_cons, i2 n]
            · intro r hr
              rcases List.mem_cons.1 hr with rfl | h
              · exact ⟨⟨x, by simp, by show x.1 ≤ max _ _; omega, by show min _ _ ≤ x.2; omega⟩, ⟨y, by simp, by show y.1 ≤ max _ _; omega, by show min _ _ ≤ y.2; omega⟩⟩
              · exact mem r h
          · rename_i hm
            refine ⟨i1, fun n => ?_, mem⟩
            rw [key n, List.nil_append, i2 n]
            rw [show (decide (max x.1 y.1 ≤ n) && decide (n ≤ min x.2 y.2)) = false from by simp; omega]; simp
        · rw [if_neg hc]
          obtain ⟨i1, i2, i3⟩ := ih (x :: a) b (by simp; omega) ha hb.tail
          have far : ∀ s ∈ meetL (x :: a) b, y.2 + 2 ≤ s.1 := fun s hs => by
            obtain ⟨_, ⟨x', hx', h1, _⟩⟩ := i3 s hs
            have := hy.2.1 x' hx'; omega
          have mem : ∀ s ∈ meetL (x :: a) b, (∃ x' ∈ x :: a, x'.1 ≤ s.1 ∧ s.2 ≤ x'.2) ∧ ∃ y' ∈ y :: b, y'.1 ≤ s.1 ∧ s.2 ≤ y'.2 := fun s hs => by
            obtain ⟨h2, ⟨x', hx', h1⟩⟩ := i3 s hs
            exact ⟨h2, ⟨x', by simp [hx'], h1⟩⟩
          have key : ∀ n, (hasR (x :: a) n && hasR (y :: b) n) = ((decide (max x.1 y.1 ≤ n) && decide (n ≤ min x.2 y.2)) || (hasR (x :: a) n && hasR b n)) := by
            intro n
            rw [hasR_cons y, Bool.and_or_distrib_left]
            congr 1
            by_cases h : y.1 ≤ n ∧ n ≤ y.2
            · rw [hasR_cons x, ha.after n (by omega), Bool.eq_iff_iff]; simp; omega
            · rw [show (decide (y.1 ≤ n) && decide (n ≤ y.2)) = false from by simp; omega]
              rw [show (decide (max x.1 y.1 ≤ n) && decide (n ≤ min x.2 y.2)) = false from by simp; omega]; simp
          split
          · rename_i hm
            refine ⟨?_, fun n => ?_, ?_⟩
            · refine (Nrm.cons_iff _ _).2 ⟨hm, fun s hs => ?_, i1⟩
              have := far s hs
              show min x.2 y.2 + 2 ≤ s.1
              omega
            · rw [key n, List.singleton_append, hasR_cons, i2 n]
            · intro r hr
              rcases List.mem_cons.1 hr with rfl | h
              · exact ⟨⟨x, by simp, by show x.1 ≤ max _ _; omega, by show min _ _ ≤ x.2; omega⟩, ⟨y, by simp, by show y.1 ≤ max _ _; omega, by show min _ _ ≤ y.2; omega⟩⟩
              · exact mem r h
          · rename_i hm
            refine ⟨i1, fun n => ?_, mem⟩
            rw [key n, List.nil_append, i2 n]
            rw [show (decide (max x.1 y.1 ≤ n) && decide (n ≤ min x.2 y.2)) = false from by simp; omega]; simp

theorem meetL_nrm {a b : RL} (ha : Nrm a) (hb : Nrm b) : Nrm (meetL a b) := (meetF_facts _ a b (Nat.le_refl _) ha hb).1
theorem meetL_has {a b : RL} (ha : Nrm a) (hb : Nrm b) (n : Int) : hasR (meetL a b) n = (hasR a n && hasR b n) := (meetF_facts _ a b (Nat.le_refl _) ha hb).2.1 n
theorem meetL_in {a b : RL} (ha : Nrm a) (hb : Nrm b) : ∀ r ∈ meetL a b, (∃ x ∈ a, x.1 ≤ r.1 ∧ r.2 ≤ x.2) ∧ ∃ y ∈ b, y.1 ≤ r.1 ∧ r.2 ≤ y.2 := (meetF_facts _ a b (Nat.le_refl _) ha hb).2.2
theorem meetL_length (k : Nat) : ∀ (a b : RL), a.length + b.length ≤ k → (meetL a b).length ≤ a.length + b.length := by
  induction k with
  | zero => intro a b hl; have : a = [] := by cases a <;> simp_all
            subst this; rw [meetL_nil_left]; simp
  | succ k ih =>
    intro a b hl
    cases a with
    | nil => rw [meetL_nil_left]; simp
    | cons x a =>
      cases b with
      | nil => rw [meetL_nil_right]; simp
      | cons y b =>
        rw [meetL_cons]
        simp only [List.length_cons] at hl
        have h1 := ih a (y :: b) (by simp; omega)
        have h2 := ih (x :: a) b (by simp; omega)
        simp only [List.length_cons, List.length_append] at h1 h2 ⊢
        split <;> split <;> simp <;> omega
theorem meetL_bd (k : Nat) (B : Int) : ∀ (a b : RL), a.length + b.length ≤ k → (∀ r ∈ a, -B ≤ r.1 ∧ r.1 ≤ B ∧ -B ≤ r.2 ∧ r.2 ≤ B) → (∀ r ∈ b, -B ≤ r.1 ∧ r.1 ≤ B ∧ -B ≤ r.2 ∧ r.2 ≤ B) → ∀ r ∈ meetL a b, -B ≤ r.1 ∧ r.1 ≤ B ∧ -B ≤ r.2 ∧ r.2 ≤ B := by
  induction k with
  | zero => intro a b hl _ _; have : a = [] := by cases a <;> simp_all
            subst this; rw [meetL_nil_left]; simp
  | succ k ih =>
    intro a b hl ha hb
    cases a with
    | nil => rw [meetL_nil_left]; simp
    | cons x a =>
      cases b with
      | nil => rw [meetL_nil_right]; simp
      | cons y b =>
        rw [meetL_cons]
        simp only [List.length_cons] at hl
        have h1 := ih a (y :: b) (by simp; omega) (fun r hr => ha r (by simp [hr])) hb
        have h2 := ih (x :: a) b (by simp; omega) ha (fun r hr => hb r (by simp [hr]))
        have hx := ha x (by simp)
        have hy := hb y (by simp)
        intro r hr
        rcases List.mem_append.1 hr with h | h
        · split at h
          · simp only [List.mem_singleton] at h; subst h; simp only; omega
          · simp at h
        · split at h
          · exact h1 r h
          · exact h2 r h
end Go.Proofs.Ytagfcfojfjkmbaa

namespace Go.Proofs.Ytagfcfojfjkmbaa
open Go.RowKit

def inB (n lo hi : Int) : Bool := decide (lo ≤ n) && decide (n ≤ hi)

set_option maxHeartbeats 400000 in
theorem within_any (a b c : Int) (w : World) :
    Calls Try.prog 62 #[.int .i64 a, .int .i64 b, .int .i64 c] w fun e w' => e = .returned (.bool (inB a b c)) ∧ w = w' := by
  go_enter Try.func62, Try.ntmps62
  go_wp2
  all_goals go_ret
  all_goals (refine ⟨?_, rfl⟩; congr 2; simp [inB]; omega)

set_option maxHeartbeats 400000 in
theorem isDay_any (a : Int) (w : World) :
    Calls Try.prog 66 #[.int .i64 a] w fun e w' => e = .returned (.bool (inB a (-50000) 50000)) ∧ w = w' := by
  go_enter Try.func66, Try.ntmps66
  go_wp2_with (go_at_call 62; refine (within_any _ _ _ _).mono ?_; rintro e w' ⟨rfl, rfl⟩)
  go_ret
  exact ⟨rfl, rfl⟩

set_option maxHeartbeats 400000 in
theorem isWritten_any (a : Int) (w : World) :
    Calls Try.prog 64 #[.int .i64 a] w fun e w' => e = .returned (.bool (inB a 0 140)) ∧ w = w' := by
  go_enter Try.func64, Try.ntmps64
  go_wp2_with (go_at_call 62; refine (within_any _ _ _ _).mono ?_; rintro e w' ⟨rfl, rfl⟩)
  go_ret
  exact ⟨rfl, rfl⟩

def ruleV (f b m e : Int) : Value := .agg #[.int .i64 f, .int .i64 b, .int .i64 m, .int .i64 e]
def okRule (f b m e : Int) : Bool := inB f 0 120 && inB b 1 12 && inB m 0 1 && inB e 0 5

set_option maxHeartbeats 400000 in
theorem down_any (f b m e k : Int) (w : World) (hb : 1 ≤ b) (hb2 : b ≤ 12) (hk : 0 ≤ k) (hk2 : k ≤ 1000) :
    Calls Try.prog 109 #[ruleV f b m e, .int .i64 k] w fun r w' => r = .returned (.int .i64 (k - k % b)) ∧ Below w.heap.size w w' := by
  unfold ruleV
  have h1 := Int.emod_nonneg k (by omega : b ≠ 0)
  have h2 := Int.emod_lt_of_pos k (by omega : 0 < b)
  have hbz : (b == 0) = false := by simp; omega
  have hbm : (b == -1) = false := by simp; omega
  go_enter Try.func109, Try.ntmps109
  go_wp2
  go_ret
  exact ⟨rfl, (Below.refl _ _).alloc (Nat.le_refl _) _⟩

set_option maxHeartbeats 400000 in
theorem near_any (f b m e k : Int) (w : World) (hb : 1 ≤ b) (hb2 : b ≤ 12) (hk : 0 ≤ k) (hk2 : k ≤ 900) :
    Calls Try.prog 110 #[ruleV f b m e, .int .i64 k] w fun r w' => r = .returned (.int .i64 (k + b / 2 - (k + b / 2) % b)) ∧ Below w.heap.size w w' := by
  unfold ruleV
  go_enter Try.func110, Try.ntmps110
  go_wp2_with (go_at_call 109; refine (down_any _ _ _ _ _ _ (by omega) (by omega) (by omega) (by omega)).mono ?_; rintro e w' ⟨rfl, hb⟩)
  go_ret
  exact ⟨rfl, ((Below.refl _ _).alloc (Nat.le_refl _) _).trans (hb.mono (by simp))⟩

end Go.Proofs.Ytagfcfojfjkmbaa

namespace Go.Proofs.Ytagfcfojfjkmbaa
open Go.RowKit

theorem ret_int {k : IntKind} {a b : Int} (h : a = b) : Ending.returned (.int k a) = .returned (.int k b) := by rw [h]
theorem ret_bool {a b : Bool} (h : a = b) : Ending.returned (.bool a) = .returned (.bool b) := by rw [h]

theorem bcell {W w1 : World} (hb : Below W.heap.size W w1) : (∀ b o, b < W.heap.size → w1.cell? ⟨b, o, none⟩ = W.cell? ⟨b, o, none⟩) ∧ (∀ b o, b < W.heap.size → w1.frozen? ⟨b, o, none⟩ = W.frozen? ⟨b, o, none⟩) :=
  ⟨fun b o h => hb.cell (p := ⟨b, o, none⟩) h, fun b o h => hb.frozen (p := ⟨b, o, none⟩) h⟩

set_option maxHeartbeats 400000 in
theorem min2_any (b : Nat) (x y : Int) (w : World) (h0 : w.cell? ⟨b, 0, none⟩ = some (.int .i64 x)) (h1 : w.cell? ⟨b, 1, none⟩ = some (.int .i64 y)) :
    Calls Try.prog 93 #[.slice (some ⟨b, 0, none⟩) 2 2] w fun e w' => e = .returned (.int .i64 (min x y)) ∧ w = w' := by
  go_enter Try.func93, Try.ntmps93
  go_wp2
  go_loop [3, 4] (fun n i => (n = .int .i64 x ∧ i = .int .i64 1) ∨ (n = .int .i64 (min x y) ∧ i = .int .i64 2)) (fun _ i => 2 - (intOf i).toNat)
  case atStart => exact .inl ⟨rfl, rfl⟩
  case round =>
    rcases hrel with ⟨rfl, rfl⟩ | ⟨rfl, rfl⟩
    · go_wp2
      go_round
      case rel => exact .inr ⟨by congr 1; omega, rfl⟩
      case measure => simp [intOf]
    · go_wp2
      go_ret
      exact ⟨rfl, rfl⟩

set_option maxHeartbeats 400000 in
theorem smallest_any (b : Nat) (x y : Int) (w : World) (h0 : w.cell? ⟨b, 0, none⟩ = some (.int .i64 x)) (h1 : w.cell? ⟨b, 1, none⟩ = some (.int .i64 y)) :
    Calls Try.prog 69 #[.slice (some ⟨b, 0, none⟩) 2 2] w fun e w' => e = .returned (.int .i64 (min x y)) ∧ w = w' := by
  go_enter Try.func69, Try.ntmps69
  go_wp2_with (go_at_call 93; refine (min2_any _ x y _ h0 h1).mono ?_; rintro e w' ⟨rfl, rfl⟩)
  go_ret
  exact ⟨rfl, rfl⟩

set_option maxHeartbeats 400000 in
theorem modes_any (w : World) :
    Calls Try.prog 103 #[] w fun e w' => e = .returned (.slice (some ⟨w.heap.size, 0, none⟩) 2 2) ∧ w' = w.alloc (.cells #[.func (.func 109) #[] #[], .func (.func 110) #[] #[]] 156) := by
  go_enter Try.func103, Try.ntmps103
  go_wp2
  go_ret
  exact ⟨rfl, rfl⟩

def wrt (f b m k : Int) : Int := if k < f then k else if m = 0 then k - k % b else k + b / 2 - (k + b / 2) % b

theorem wrt_bd (f b m k : Int) (hb : 1 ≤ b) (hb2 : b ≤ 12) (hk : 0 ≤ k) (hk2 : k ≤ 800) : 0 ≤ wrt f b m k ∧ wrt f b m k ≤ k + 6 := by
  have h1 := Int.emod_nonneg k (by omega : b ≠ 0)
  have h2 := Int.emod_nonneg (k + b / 2) (by omega : b ≠ 0)
  have h3 := Int.mul_ediv_add_emod k b
  have h4 := Int.mul_ediv_add_emod (k + b / 2) b
  have h5 : 0 ≤ b * (k / b) := Int.mul_nonneg (by omega) (Int.ediv_nonneg hk (by omega))
  have h6 : 0 ≤ b * ((k + b / 2) / b) := Int.mul_nonneg (by omega) (Int.ediv_nonneg (by omega) (by omega))
  unfold wrt
  split
  · omega
  · split <;> omega

set_option maxHeartbeats 400000 in
theorem write_lo (f b m e k : Int) (w : World) (h : k < f) :
    Calls Try.prog 82 #[ruleV f b m e, .int .i64 k] w fun r w' => r = .returned (.int .i64 k) ∧ Below w.heap.size w w' := by
  unfold ruleV
  go_enter Try.func82, Try.ntmps82
  go_wp2
  go_ret
  exact ⟨rfl, (Below.refl _ _).alloc (Nat.le_refl _) _⟩

attribute [local go_sem ↓] Go.wp_at_zero Go.wp_at_succ
set_option maxHeartbeats 1000000 in
theorem write_hi0 (f b e k : Int) (w : World) (h : f ≤ k) (hb : 1 ≤ b) (hb2 : b ≤ 12) (hk : 0 ≤ k) (hk2 : k ≤ 800) :
    Calls Try.prog 82 #[ruleV f b 0 e, .int .i64 k] w fun r w' => r = .returned (.int .i64 (wrt f b 0 k)) ∧ Below w.heap.size w w' := by
  have hd : ∀ W, Calls Try.prog 109 #[.agg #[.int .i64 f, .int .i64 b, .int .i64 0, .int .i64 e], .int .i64 k] W fun r w' => r = .returned (.int .i64 (k - k % b)) ∧ Below W.heap.size W w' := fun W => down_any f b 0 e k W hb hb2 hk (by omega)
  have HD := Lib.hid hd; clear hd
  have hv : wrt f b 0 k = k - k % b := by unfold wrt; rw [if_neg (by omega), if_pos rfl]
  have HV := Lib.hid hv; clear hv
  unfold ruleV
  go_enter Try.func82, Try.ntmps82
  go_wp2
  go_region_with (first | (go_at_call 103; refine (modes_any _).mono ?_; rintro e w' ⟨rfl, rfl⟩) | (go_at_call 109; refine (HD.out _).mono ?_; rintro e w' ⟨rfl, hb⟩))
  all_goals (go_wp2; go_ret; exact ⟨(show Ending.returned (.int .i64 _) = _ from by rw [HV.out]), (((Below.refl _ _).alloc (Nat.le_refl _) _).alloc (by simp) _).drew.trans (hb.mono (by simp; omega))⟩)

set_option maxHeartbeats 1000000 in
theorem write_hi1 (f b e k : Int) (w : World) (h : f ≤ k) (hb : 1 ≤ b) (hb2 : b ≤ 12) (hk : 0 ≤ k) (hk2 : k ≤ 800) :
    Calls Try.prog 82 #[ruleV f b 1 e, .int .i64 k] w fun r w' => r = .returned (.int .i64 (wrt f b 1 k)) ∧ Below w.heap.size w w' := by
  have hd : ∀ W, Calls Try.prog 110 #[.agg #[.int .i64 f, .int .i64 b, .int .i64 1, .int .i64 e], .int .i64 k] W fun r w' => r = .returned (.int .i64 (k + b / 2 - (k + b / 2) % b)) ∧ Below W.heap.size W w' := fun W => near_any f b 1 e k W hb hb2 hk (by omega)
  have HD := Lib.hid hd; clear hd
  have hv : wrt f b 1 k = k + b / 2 - (k + b / 2) % b := by unfold wrt; rw [if_neg (by omega), if_neg (by decide)]
  have HV := Lib.hid hv; clear hv
  unfold ruleV
  go_enter Try.func82, Try.ntmps82
  go_wp2
  go_region_with (first | (go_at_call 103; refine (modes_any _).mono ?_; rintro e w' ⟨rfl, rfl⟩) | (go_at_call 110; refine (HD.out _).mono ?_; rintro e w' ⟨rfl, hb⟩))
  all_goals (go_wp2; go_ret; exact ⟨(show Ending.returned (.int .i64 _) = _ from by rw [HV.out]), (((Below.refl _ _).alloc (Nat.le_refl _) _).alloc (by simp) _).drew.trans (hb.mono (by simp; omega))⟩)

theorem write_any (f b m e k : Int) (w : World) (hb : 1 ≤ b) (hb2 : b ≤ 12) (hm : 0 ≤ m) (hm1 : m ≤ 1) (hk : 0 ≤ k) (hk2 : k ≤ 800) :
    Calls Try.prog 82 #[ruleV f b m e, .int .i64 k] w fun r w' => r = .returned (.int .i64 (wrt f b m k)) ∧ Below w.heap.size w w' := by
  by_cases h : k < f
  · refine (write_lo f b m e k w h).mono ?_
    rintro r w' ⟨rfl, hb⟩
    exact ⟨by unfold wrt; rw [if_pos h], hb⟩
  · have : m = 0 ∨ m = 1 := by omega
    rcases this with rfl | rfl
    · exact write_hi0 f b e k w (by omega) hb hb2 hk hk2
    · exact write_hi1 f b e k w (by omega) hb hb2 hk hk2

end Go.Proofs.Ytagfcfojfjkmbaa

namespace Go.Proofs.Ytagfcfojfjkmbaa
open Go.RowKit

set_option maxHeartbeats 1000000 in
theorem valid_any (f b m e : Int) (w : World) :
    Calls Try.prog 78 #[ruleV f b m e] w fun r w' => r = .returned (.bool (okRule f b m e)) ∧ Below w.heap.size w w' := by
  unfold ruleV
  go_enter Try.func78, Try.ntmps78
  go_wp2_with (go_at_call 62; refine (within_any _ _ _ _).mono ?_; rintro e w' ⟨rfl, rfl⟩)
  all_goals go_ret
  all_goals exact ⟨by simp [okRule, *], (Below.refl _ _).alloc (Nat.le_refl _) _⟩

def flat (l : List (Int × Int)) : List Value := l.flatMap fun r => [.int .i64 r.1, .int .i64 r.2]
def RS (w : World) (base : Nat) (v : Value) (l : List (Int × Int)) : Prop := w.ownsRow base 41 2 v l.length (flat l)

theorem flat_append (a b : List (Int × Int)) : flat (a ++ b) = flat a ++ flat b := by simp [flat]
theorem flat_length (a : List (Int × Int)) : (flat a).length = a.length * 2 := by
  induction a with
  | nil => rfl
  | cons x l ih => simp only [flat, List.flatMap_cons, List.length_append] at ih ⊢; rw [ih]; simp; omega

theorem RS.mono {w : World} {b b' : Nat} {v : Value} {l : List (Int × Int)} (h : RS w b v l) (hb : b' ≤ b) : RS w b' v l := by
  obtain ⟨h1, h2⟩ := h
  refine ⟨h1, h2.imp id ?_⟩
  rintro ⟨g, cap, cur, r1, r2, r⟩
  exact ⟨g, cap, cur, r1, by omega, r⟩

set_option maxHeartbeats 1000000 in
theorem extended_join (g n cap : Nat) (lo hi b : Int) (w : World) (hn : n + 1 ≤ 100000)
    (h0 : w.cell? ⟨g, n * 2 + 1, none⟩ = some (.int .i64 b)) (hf : w.frozen? ⟨g, n * 2 + 1, none⟩ = false) (hb : -1000000000 ≤ b) (hb2 : b ≤ 1000000000) (hlo : lo ≤ b + 1) :
    Calls Try.prog 68 #[.slice (some ⟨g, 0, none⟩) (n + 1) cap, .int .i64 lo, .int .i64 hi] w fun e w' => e = .returned (.slice (some ⟨g, 0, none⟩) (n + 1) cap) ∧ w' = w.setCell ⟨g, n * 2 + 1, none⟩ (.int .i64 (max b hi)) := by
  go_enter Try.func68, Try.ntmps68
  go_wp2
  all_goals go_ret
  all_goals (refine ⟨rfl, ?_⟩; first | rw [show max b hi = hi from by omega] | rw [show max b hi = b from by omega])

theorem Try.infoRange : (Try.prog.info? 41).map (fun i => (i.zero, i.size, i.bytes)) = some (some (.agg #[.int .i64 0, .int .i64 0]), 2, 16) := by kernel_rfl

theorem grown_alloc {w w1 : World} {o : Obj} {row : Option Nat} (h : (w.alloc o).grownBy w1 row) : w.grownBy w1 row :=
  ⟨h.os, h.tape, h.output, by have := h.size; simp at this; omega, fun k hk hne => (h.block k (by simp; omega) hne).trans (Below.heap_alloc _ _ _ hk)⟩
/-- A new value that owns xs, where v was before: only v's row has been written, or a new one was made. -/
def GivesX (w : World) (base : Nat) (v : Value) (n : Nat) (xs : List Value) (e : Ending) (w' : World) : Prop :=
  ∃ v', e = .returned v' ∧ w'.ownsRow base 41 2 v' n xs ∧ w.grownBy w' v.ownBlock ∧ (v'.ownBlock = v.ownBlock ∨ ∀ k, v'.ownBlock = some k → w.heap.size ≤ k)
def GivesG (w : World) (base : Nat) (v : Value) (l : List (Int × Int)) (e : Ending) (w' : World) : Prop :=
  ∃ v', e = .returned v' ∧ RS w' base v' l ∧ w.grownBy w' v.ownBlock ∧ (v'.ownBlock = v.ownBlock ∨ ∀ k, v'.ownBlock = some k → w.heap.size ≤ k)
def Gives (w : World) (base : Nat) (l : List (Int × Int)) (e : Ending) (w' : World) : Prop := ∃ v, e = .returned v ∧ RS w' base v l ∧ Below base w w'

set_option maxHeartbeats 1000000 in
theorem extended_first (a : Option Addr) (base cap : Nat) (lo hi : Int) (w : World) (hbase : base ≤ w.heap.size) (hown : w.ownsRow base 41 2 (.slice a 0 cap) 0 []) :
    Calls Try.prog 68 #[.slice a 0 cap, .int .i64 lo, .int .i64 hi] w (GivesG w base (.slice a 0 cap) [(lo, hi)]) := by
  obtain ⟨i0, hi0, hz0, hz1, hz2⟩ := info_parts Try.infoRange
  go_enter Try.func68, Try.ntmps68
  go_wp2_with (at_builtin; refine wpList_append_own_at _ rfl _ _ 38 rfl base 41 i0 (.agg #[.int .i64 0, .int .i64 0]) 2 16 Try.underlying38 hi0 hz0 hz1 hz2 rfl (by decide) (.slice a 0 cap) 0 [] rfl (hown.alloc _) ⟨w.heap.size, 0, none⟩ 1 1 [.int .i64 lo, .int .i64 hi] rfl rfl ?c1 ?c2 ?c3 ?c4 ?c5 ?_)
  case c1 => exact World.news_of_block (heap_alloc_new w _)
  case c2 => simp [Value.oneCell']
  case c3 => unfold maxLen; omega
  case c4 => omega
  case c5 => simp; omega
  intro v' w1 h1 h2 _ h4
  have H2 := Lib.hid h2
  have H4 := Lib.hid h4
  clear h2 h4
  go_wp2
  go_ret
  exact ⟨v', rfl, h1, grown_alloc H2.out, H4.out.imp id (fun e k hk => by have := Option.some.inj (e.symm.trans hk); omega)⟩

set_option maxRecDepth 100000 in
set_option maxHeartbeats 1000000 in
theorem extended_push (g n cap base : Nat) (lo hi b : Int) (xs : List Value) (w : World) (hn : n + 1 ≤ 100000) (hbase : base ≤ w.heap.size)
    (h0 : w.cell? ⟨g, n * 2 + 1, none⟩ = some (.int .i64 b)) (hb : -1000000000 ≤ b) (hb2 : b ≤ 1000000000) (hlo : b + 1 < lo) (hown : w.ownsRow base 41 2 (.slice (some ⟨g, 0, none⟩) (n + 1) cap) (n + 1) xs) :
    Calls Try.prog 68 #[.slice (some ⟨g, 0, none⟩) (n + 1) cap, .int .i64 lo, .int .i64 hi] w (GivesX w base (.slice (some ⟨g, 0, none⟩) (n + 1) cap) (n + 1 + 1) (xs ++ [.int .i64 lo, .int .i64 hi])) := by
  obtain ⟨i0, hi0, hz0, hz1, hz2⟩ := info_parts Try.infoRange
  have HO := Lib.hid hown; clear hown
  go_enter Try.func68, Try.ntmps68
  go_wp2_with (at_builtin; refine wpList_append_own_at _ rfl _ _ 38 rfl base 41 i0 (.agg #[.int .i64 0, .int .i64 0]) 2 16 Try.underlying38 hi0 hz0 hz1 hz2 rfl (by decide) (.slice (some ⟨g, 0, none⟩) (n + 1) cap) (n + 1) xs rfl (World.ownsRow.alloc HO.out _) ⟨w.heap.size, 0, none⟩ 1 1 [.int .i64 lo, .int .i64 hi] rfl rfl ?c1 ?c2 ?c3 ?c4 ?c5 ?_)
  case c1 => exact World.news_of_block (heap_alloc_new w _)
  case c2 => simp [Value.oneCell']
  case c3 => unfold maxLen; omega
  case c4 => omega
  case c5 => simp; omega
  intro v' w1 h1 h2 _ h4
  have H2 := Lib.hid h2
  have H4 := Lib.hid h4
  clear h2 h4
  go_wp2
  go_ret
  exact ⟨v', rfl, h1, grown_alloc H2.out, H4.out.imp id (fun e k hk => by have := Option.some.inj (e.symm.trans hk); omega)⟩
end Go.Proofs.Ytagfcfojfjkmbaa

namespace Go.Proofs.Ytagfcfojfjkmbaa
open Go.RowKit

def flagsL (fl : Nat → Bool) : List Value := (List.range 121).map fun i => Value.bool (fl i)
def flagsA (fl : Nat → Bool) : Array Value := (flagsL fl).toArray
theorem flagsA_size (fl : Nat → Bool) : (flagsA fl).size = 121 := by simp [flagsA, flagsL]
theorem flagsA_zero : Try.zeroCells133 = flagsA fun _ => false := by kernel_rfl
theorem flagsA_get (fl : Nat → Bool) (i : Nat) (h : i < 121) : (flagsA fl)[i]? = some (.bool (fl i)) := by simp [flagsA, flagsL, h]
theorem flagsA_one (fl : Nat → Bool) : (flagsA fl).all (·.oneCell') = true := by
  rw [Array.all_eq_true]; intro i h; simp [flagsA, flagsL, Value.oneCell']

theorem flagsA_set (fl : Nat → Bool) (i : Nat) : (flagsA fl).setIfInBounds i (.bool true) = flagsA fun k => fl k || decide (k = i) := by
  apply Array.ext_getElem?
  intro j
  rw [Array.getElem?_setIfInBounds]
  by_cases hj : j < 121
  · rw [flagsA_get _ _ hj]
    by_cases e : i = j
    · subst e; rw [if_pos rfl, if_pos (by rw [flagsA_size]; exact hj), flagsA_get _ _ hj]; simp
    · rw [if_neg e, flagsA_get _ _ hj]; simp [Ne.symm e]
  · have h1 : (flagsA fun k => fl k || decide (k = i)).size ≤ j := by rw [flagsA_size]; omega
    have h2 : (flagsA fl).size ≤ j := by rw [flagsA_size]; omega
    rw [Array.getElem?_eq_none h1, Array.getElem?_eq_none h2]
    by_cases e : i = j
    · subst e; simp [flagsA_size, hj]
    · rw [if_neg e]
theorem flagsA_congr {f g : Nat → Bool} (h : ∀ i, i < 121 → f i = g i) : flagsA f = flagsA g := by
  unfold flagsA flagsL
  congr 1
  apply List.map_congr_left
  intro a ha
  rw [h a (by simpa using ha)]

/-- The true ages of n after the first k known ages. -/
def agesF (f b m e n : Int) (k : Nat) (i : Nat) : Bool := (List.range k).any fun q => (wrt f b m q == n) && (decide ((q : Int) - e ≤ i) && decide ((i : Int) ≤ q + e))
theorem agesF_zero (f b m e n : Int) : agesF f b m e n 0 = fun _ => false := by funext i; simp [agesF]
theorem agesF_succ (f b m e n : Int) (k i : Nat) : agesF f b m e n (k + 1) i = (agesF f b m e n k i || ((wrt f b m k == n) && (decide ((k : Int) - e ≤ i) && decide ((i : Int) ≤ k + e)))) := by
  unfold agesF; rw [List.range_succ, List.any_append]; simp

def agesM (f b m e n : Int) (k : Nat) (j : Int) (i : Nat) : Bool := agesF f b m e n k i || (decide ((k : Int) - e ≤ i) && decide ((i : Int) < j))

def AgesIn (w : World) (f b m e : Int) (fl : Nat → Bool) (wr : World) : Prop :=
  wr.heap[w.heap.size + 1]? = some (.cells (flagsA fl) 133 (0, 0)) ∧ Below (w.heap.size + 1) (w.alloc (.cells #[.int .i64 f, .int .i64 b, .int .i64 m, .int .i64 e] 80)) wr

theorem AgesIn.cells {w : World} {f b m e : Int} {fl : Nat → Bool} {wr : World} (h : AgesIn w f b m e fl wr) :
    wr.cell? ⟨w.heap.size, 0, none⟩ = some (.int .i64 f) ∧ wr.cell? ⟨w.heap.size, 1, none⟩ = some (.int .i64 b) ∧ wr.cell? ⟨w.heap.size, 2, none⟩ = some (.int .i64 m) ∧ wr.cell? ⟨w.heap.size, 3, none⟩ = some (.int .i64 e) ∧ w.heap.size + 1 < wr.heap.size := by
  obtain ⟨h1, h2⟩ := h
  refine ⟨?_, ?_, ?_, ?_, ?_⟩
  · rw [h2.cell (p := ⟨w.heap.size, 0, none⟩) (by simp), cell_of_row _ _ 0 _ _ _ (heap_alloc_new w _)]; rfl
  · rw [h2.cell (p := ⟨w.heap.size, 1, none⟩) (by simp), cell_of_row _ _ 1 _ _ _ (heap_alloc_new w _)]; rfl
  · rw [h2.cell (p := ⟨w.heap.size, 2, none⟩) (by simp), cell_of_row _ _ 2 _ _ _ (heap_alloc_new w _)]; rfl
  · rw [h2.cell (p := ⟨w.heap.size, 3, none⟩) (by simp), cell_of_row _ _ 3 _ _ _ (heap_alloc_new w _)]; rfl
  · exact (Array.getElem?_eq_some_iff.1 h1).1

theorem AgesIn.below {w : World} {f b m e : Int} {fl : Nat → Bool} {wr w2 : World} (h : AgesIn w f b m e fl wr) (hb : Below wr.heap.size wr w2) : AgesIn w f b m e fl w2 :=
  ⟨(hb.block _ h.cells.2.2.2.2).trans h.1, h.2.trans (hb.mono (by have := h.cells.2.2.2.2; omega))⟩

theorem AgesIn.flag {w : World} {f b m e : Int} {fl : Nat → Bool} {wr : World} (h : AgesIn w f b m e fl wr) (i : Nat) (hi : i < 121) :
    wr.cell? ⟨w.heap.size + 1, i, none⟩ = some (.bool (fl i)) ∧ wr.frozen? ⟨w.heap.size + 1, i, none⟩ = false := by
  constructor
  · rw [cell_of_row wr _ i _ _ _ h.1, flagsA_get _ _ hi]
  · exact frozen_of_row wr _ i _ _ h.1

theorem AgesIn.set {w : World} {f b m e : Int} {fl : Nat → Bool} {wr : World} (h : AgesIn w f b m e fl wr) (i : Nat) : AgesIn w f b m e (fun k => fl k || decide (k = i)) (wr.setCell ⟨w.heap.size + 1, i, none⟩ (.bool true)) := by
  refine ⟨?_, h.2.setCell (by simp) _⟩
  rw [← flagsA_set]
  have := h.1
  simp [World.setCell, Array.getElem?_modify, this]

/-- Where the inner loop's counter can be. -/
def AgesJ (k : Nat) (e j : Int) : Prop := 0 ≤ j ∧ (k : Int) - e ≤ j ∧ (j ≤ min (k + e) 120 + 1 ∨ j = max 0 (k - e))
theorem AgesJ.bd {k : Nat} {e j : Int} (he : 0 ≤ e) (h : AgesJ k e j) : 0 ≤ j ∧ (k : Int) - e ≤ j ∧ j ≤ 1000 + k + e := by unfold AgesJ at h; omega
theorem agesM_start (f b m e n : Int) (k : Nat) (j : Int) (h : j = max 0 (k - e)) : agesM f b m e n k j = agesF f b m e n k := by
  funext i; unfold agesM
  have : (decide ((k : Int) - e ≤ i) && decide ((i : Int) < j)) = false := by simp; omega
  rw [this]; simp
theorem agesM_end (f b m e n : Int) (k : Nat) (j : Int) (he : 0 ≤ e) (hw : wrt f b m k = n) (hj : AgesJ k e j) (h : ¬ j ≤ min (k + e) 120) : flagsA (agesM f b m e n k j) = flagsA (agesF f b m e n (k + 1)) := by
  apply flagsA_congr
  intro i hi
  rw [agesF_succ]; unfold agesM
  congr 1
  unfold AgesJ at hj
  rw [Bool.eq_iff_iff]
  simp [hw]
  omega
theorem agesM_set (f b m e n : Int) (k j : Nat) (h : (k : Int) - e ≤ j) : (fun i => agesM f b m e n k j i || decide (i = j)) = agesM f b m e n k (j + 1) := by
  funext i; unfold agesM
  rw [Bool.or_assoc]; congr 1
  rw [Bool.eq_iff_iff]; simp; omega

attribute [local go_sem ↓] Go.wp_at_zero Go.wp_at_succ
set_option maxRecDepth 100000 in
set_option maxHeartbeats 2000000 in
theorem ages_any (f b m e n : Int) (w : World) (hb : 1 ≤ b) (hb2 : b ≤ 12) (hm : 0 ≤ m) (hm1 : m ≤ 1) (he : 0 ≤ e) (he5 : e ≤ 5) :
    Calls Try.prog 83 #[ruleV f b m e, .int .i64 n] w fun r w' => r = .returned (.agg (flagsA (agesF f b m e n 126))) ∧ Below w.heap.size w w' := by
  unfold ruleV
  go_enter Try.func83, Try.ntmps83
  go_wp2
  go_loopw [5, 6, 7] (fun _ _ i wr => ∃ k : Nat, k ≤ 126 ∧ i = .int .i64 k ∧ AgesIn w f b m e (agesF f b m e n k) wr) (fun _ _ i _ => 126 - (intOf i).toNat)
  case atStart => exact ⟨0, by omega, rfl, by rw [agesF_zero, ← flagsA_zero]; exact (by have := heap_alloc_new (w.alloc (.cells #[.int .i64 f, .int .i64 b, .int .i64 m, .int .i64 e] 80)) (.cells Try.zeroCells133 133); rw [World.size_alloc] at this; exact this), (Below.refl _ _).alloc (by simp) _⟩
  case round =>
    obtain ⟨k, hk, rfl, hin⟩ := hrel
    obtain ⟨c0, c1, c2, c3, hsz⟩ := hin.cells
    have HIN := Lib.hid hin; clear hin
    by_cases hlt : k < 126
    · by_cases hw : wrt f b m k = n
      · have hw1 : (wrt f b m k != n) = false := by simp [hw]
        have HW := Lib.hid hw; clear hw
        go_wp2_with (go_at_call 82; refine (write_any f b m e _ _ (by omega) (by omega) (by omega) (by omega) (by omega) (by omega)).mono ?_; rintro r w1 ⟨rfl, hb1⟩; have hin1 := HIN.out.below hb1; obtain ⟨d0, d1, d2, d3, hs1⟩ := hin1.cells; have HIN1 := Lib.hid hin1; clear hin1 hb1 c0 c1 c2 c3 hsz)
        all_goals
          go_loopw [6] (fun i wr => ∃ j : Int, i = .int .i64 j ∧ AgesJ k e j ∧ AgesIn w f b m e (agesM f b m e n k j) wr) (fun i _ => 121 - (intOf i).toNat)
          case atStart => exact ⟨_, rfl, by unfold AgesJ; omega, by rw [agesM_start _ _ _ _ _ _ _ (by omega)]; exact HIN1.out⟩
          case round =>
            obtain ⟨j, rfl, hj, hin⟩ := hrel
            obtain ⟨c0, c1, c2, c3, hsz⟩ := hin.cells
            have HIN2 := Lib.hid hin; clear hin
            obtain ⟨hj0, hj1, hj2⟩ := hj.bd he
            have HJ := Lib.hid hj; clear hj
            by_cases hc : j ≤ min (k + e) 120
            · obtain ⟨q, rfl⟩ := Int.eq_ofNat_of_zero_le hj0
              obtain ⟨f1, f2⟩ := HIN2.out.flag q (by omega)
              have hf1 : wr.cell? ⟨w.heap.size + 1, q, none⟩ = some (.bool (agesM f b m e n k q q)) := f1
              clear f1
              go_wp2_with (go_at_call 69; refine (smallest_any _ (↑k + e) 120 _ (cell_of_row _ _ 0 _ _ _ (heap_alloc_new _ _)) (cell_of_row _ _ 1 _ _ _ (heap_alloc_new _ _))).mono ?_; rintro r w2 ⟨rfl, rfl⟩)
              go_roundw
              case rel => exact ⟨_, rfl, by have := HJ.out; unfold AgesJ at this ⊢; omega, by rw [← agesM_set _ _ _ _ _ _ _ hj1]; exact (HIN2.out.set q).below ((Below.refl _ _).alloc (Nat.le_refl _) _)⟩
              case measure => simp [intOf]; omega
            · go_wp2_with (go_at_call 69; refine (smallest_any _ (↑k + e) 120 _ (cell_of_row _ _ 0 _ _ _ (heap_alloc_new _ _)) (cell_of_row _ _ 1 _ _ _ (heap_alloc_new _ _))).mono ?_; rintro r w2 ⟨rfl, rfl⟩)
              go_roundw
              case rel => exact ⟨k + 1, by omega, by go_num, by have h1 := HIN2.out.below ((Below.refl _ _).alloc (Nat.le_refl _) (.cells #[.int .i64 (↑k + e), .int .i64 120] 3)); exact ⟨by rw [← agesM_end _ _ _ _ _ _ _ he HW.out HJ.out (by omega)]; exact h1.1, h1.2⟩⟩
              case measure => simp [intOf]; omega
      · have hw1 : (wrt f b m k != n) = true := by simp [hw]
        have HW := Lib.hid hw; clear hw
        go_wp2_with (go_at_call 82; refine (write_any f b m e _ _ (by omega) (by omega) (by omega) (by omega) (by omega) (by omega)).mono ?_; rintro r w1 ⟨rfl, hb1⟩)
        go_roundw
        case rel => exact ⟨k + 1, by omega, by go_num, by rw [show agesF f b m e n (k + 1) = agesF f b m e n k from by funext i; rw [agesF_succ]; simp [HW.out]]; exact HIN.out.below hb1⟩
        case measure => simp [intOf]; omega
    · obtain rfl : k = 126 := by omega
      have hg := HIN.out.1
      have HG := Lib.hid hg; clear hg
      have hsz := (show Option.map (fun x => x.size) (Try.prog.info? 133) = some (flagsA (agesF f b m e n 126)).size from by rw [flagsA_size]; kernel_rfl)
      have HS := Lib.hid hsz; clear hsz
      go_wp2_with (first | (with_reducible refine wpList_load_row (o := ⟨some 33, _, _, _, _, _⟩) rfl 133 (.tmp 4) rfl (w.heap.size + 1) ?hx 133 (flagsA (agesF f b m e n 126)) (0, 0) _ HG.out Try.underlying133 rfl HS.out ?_) | (with_reducible refine wpList_store_row (o := ⟨none, .store 133 (.tmp 4) (.tmp 33), _, _, _, _⟩) rfl 133 (.tmp 4) (.tmp 33) rfl (w.heap.size + 1) (flagsA (agesF f b m e n 126)) ?sx ?sy 133 (flagsA (agesF f b m e n 126)) HG.out HS.out rfl (flagsA_one _) ?_))
      case hx => rfl
      refine bodyPost_ret (v := .agg (flagsA (agesF f b m e n 126))) (results_cell_row rfl _ _ (w.heap.size + 1) 133 _ (0, 0) _ rfl (setRow_heap _ _ _ _ _ _ HG.out) Try.underlying133 rfl HS.out) rfl ⟨rfl, ?_⟩
      have hB := (((Below.refl _ _).alloc (Nat.le_refl _) _).trans (HIN.out.2.mono (Nat.le_succ _)) : Below w.heap.size w wr)
      exact hB.trans ⟨rfl, rfl, rfl, by simp, fun q hq => setRow_other _ _ _ _ (by omega)⟩
end Go.Proofs.Ytagfcfojfjkmbaa

namespace Go.Proofs.Ytagfcfojfjkmbaa
open Go.RowKit

def ext (l : List (Int × Int)) (lo hi : Int) : List (Int × Int) :=
  match l.getLast? with
  | some r => if lo ≤ r.2 + 1 then l.dropLast ++ [(r.1, max r.2 hi)] else l ++ [(lo, hi)]
  | none => [(lo, hi)]

theorem ext_length (l : List (Int × Int)) (lo hi : Int) : (ext l lo hi).length ≤ l.length + 1 := by
  unfold ext
  split
  · split <;> simp
  · simp

theorem flat_cell (l : List (Int × Int)) (a b : Int) : (flat (l ++ [(a, b)]))[l.length * 2 + 1]? = some (.int .i64 b) := by
  rw [flat_append, List.getElem?_append_right (by rw [flat_length]; omega), flat_length]
  simp [flat]

theorem flat_set (l : List (Int × Int)) (a b c : Int) : (flat (l ++ [(a, b)])).set (l.length * 2 + 1) (.int .i64 c) = flat (l ++ [(a, c)]) := by
  rw [flat_append, flat_append, List.set_append_right _ _ (by rw [flat_length]; omega), flat_length]
  simp [flat]

theorem extended_grow (base : Nat) (v : Value) (l : List (Int × Int)) (lo hi : Int) (w : World) (h : RS w base v l) (hlen : l.length ≤ 10000) (hbase : base ≤ w.heap.size)
    (hbd : ∀ r ∈ l, -1000000000 ≤ r.2 ∧ r.2 ≤ 1000000000) :
    Calls Try.prog 68 #[v, .int .i64 lo, .int .i64 hi] w (GivesG w base v (ext l lo hi)) := by
  rcases List.eq_nil_or_concat l with rfl | ⟨l0, ⟨a, b⟩, rfl⟩
  · have : ∃ a cap, v = .slice a 0 cap := by
      rcases h.2 with ⟨rfl, _⟩ | ⟨g, cap, cur, rfl, _⟩
      · exact ⟨_, _, rfl⟩
      · exact ⟨_, _, rfl⟩
    obtain ⟨a, cap, rfl⟩ := this
    exact extended_first a base cap lo hi w hbase h
  · rw [List.concat_eq_append] at *
    have hb := hbd (a, b) (by simp)
    obtain ⟨g, cap, rfl, _, _⟩ := World.ownsRow.form h (by simp)
    have hown := h
    unfold RS at hown
    simp only [List.length_append, List.length_cons, List.length_nil, Nat.zero_add] at hown hlen ⊢
    have hc : w.cell? ⟨g, l0.length * 2 + 1, none⟩ = some (.int .i64 b) := by rw [hown.cellAt _ (by omega), flat_cell]
    have he : ext (l0 ++ [(a, b)]) lo hi = if lo ≤ b + 1 then l0 ++ [(a, max b hi)] else (l0 ++ [(a, b)]) ++ [(lo, hi)] := by simp [ext]
    rw [he]
    by_cases hlo : lo ≤ b + 1
    · rw [if_pos hlo]
      refine (extended_join g l0.length cap lo hi b w (by omega) hc (hown.frozenAt _) hb.1 hb.2 hlo).mono ?_
      rintro e w' ⟨rfl, rfl⟩
      have hs := hown.stored (l0.length * 2 + 1) (.int .i64 (max b hi))
      rw [flat_set] at hs
      refine ⟨_, rfl, ?_, hs.2, .inl rfl⟩
      unfold RS
      simpa using hs.1
    · rw [if_neg hlo]
      refine (extended_push g l0.length cap base lo hi b _ w (by omega) hbase hc hb.1 hb.2 (by omega) hown).mono ?_
      rintro e w' ⟨v, rfl, h1, h2, h3⟩
      refine ⟨v, rfl, ?_, h2, h3⟩
      unfold RS
      rw [flat_append _ [(lo, hi)]]
      simpa [flat] using h1

theorem RS.own {w : World} {base : Nat} {v : Value} {l : List (Int × Int)} (h : RS w base v l) : ∀ k, v.ownBlock = some k → base ≤ k ∧ k < w.heap.size := fun k hk => by
  rcases h.2 with ⟨rfl, _⟩ | ⟨g, cap, cur, rfl, hg, hc, _⟩
  · cases hk
  · cases hk; exact ⟨hg, (Array.getElem?_eq_some_iff.1 hc).1⟩
theorem extended_any (base : Nat) (v : Value) (l : List (Int × Int)) (lo hi : Int) (w : World) (h : RS w base v l) (hlen : l.length ≤ 10000) (hbase : base ≤ w.heap.size)
    (hbd : ∀ r ∈ l, -1000000000 ≤ r.2 ∧ r.2 ≤ 1000000000) :
    Calls Try.prog 68 #[v, .int .i64 lo, .int .i64 hi] w (Gives w base (ext l lo hi)) := by
  refine (extended_grow base v l lo hi w h hlen hbase hbd).mono ?_
  rintro e w' ⟨v', rfl, h1, h2, _⟩
  exact ⟨v', rfl, h1, (Below.refl base w).grown h2 hbase (fun k hk => (h.own k hk).1)⟩

/-- The ranges of the flags below k. -/
def rngs (fl : Nat → Bool) : Nat → List (Int × Int)
  | 0 => []
  | k + 1 => if fl k then ext (rngs fl k) k k else rngs fl k
theorem rngs_length (fl : Nat → Bool) (k : Nat) : (rngs fl k).length ≤ k := by
  induction k with
  | zero => simp [rngs]
  | succ k ih => rw [rngs]; split
                 · have := ext_length (rngs fl k) k k; omega
                 · omega
theorem ext_bd (l : List (Int × Int)) (lo hi B : Int) (h : ∀ r ∈ l, 0 ≤ r.2 ∧ r.2 ≤ B) (h0 : 0 ≤ hi) (h1 : hi ≤ B) : ∀ r ∈ ext l lo hi, 0 ≤ r.2 ∧ r.2 ≤ B := by
  intro r hr
  rcases List.eq_nil_or_concat l with rfl | ⟨l0, ⟨a, b⟩, rfl⟩
  · simp [ext] at hr; subst hr; exact ⟨h0, h1⟩
  · rw [List.concat_eq_append] at *
    have hb := h (a, b) (by simp)
    simp only at hb
    have he : ext (l0 ++ [(a, b)]) lo hi = if lo ≤ b + 1 then l0 ++ [(a, max b hi)] else (l0 ++ [(a, b)]) ++ [(lo, hi)] := by simp [ext]
    rw [he] at hr
    split at hr
    · rcases List.mem_append.1 hr with h2 | h2
      · exact h r (by simp [h2])
      · simp at h2; subst h2; simp only; omega
    · rcases List.mem_append.1 hr with h2 | h2
      · exact h r h2
      · simp at h2; subst h2; exact ⟨h0, h1⟩
theorem rngs_bd (fl : Nat → Bool) (k : Nat) : ∀ r ∈ rngs fl k, 0 ≤ r.2 ∧ r.2 ≤ (k : Int) := by
  induction k with
  | zero => simp [rngs]
  | succ k ih =>
    have ih' : ∀ r ∈ rngs fl k, 0 ≤ r.2 ∧ r.2 ≤ ((k + 1 : Nat) : Int) := fun r hr => ⟨(ih r hr).1, by have := (ih r hr).2; omega⟩
    rw [rngs]; split
    · exact ext_bd _ _ _ _ ih' (by omega) (by omega)
    · exact ih'

theorem wp_box_row {P : Program} {o : Oper} {a : Act} {w : World} {K : Act → World → Prop} {Q : Exit → Act → World → Prop} (ty : TypeId) (x : Operand) (ho : o.op = .box ty x) (cs : Array Value) (hx : a.eval x = .agg cs)
    (h : K (a.put o.dst (.pointer (some ⟨w.heap.size, 0, none⟩))) (w.alloc (.cells cs ty))) : o.wp P a w K Q := by
  unfold Oper.wp execOp
  simp only [ho, hx, Instr.box, newVar, newRow, Value.cells, Sem.run_bind, Sem.run_pure]
  exact h
theorem wpList_box_row {P : Program} {ops : Array Oper} {rest : List Oper} {o : Oper} {a : Act} {w : World} {Q : Exit → Act → World → Prop} (hgd : o.guard = none) (ty : TypeId) (x : Operand) (ho : o.op = .box ty x) (cs : Array Value) (hx : a.eval x = .agg cs)
    (h : wpList P ops Q rest (a.put o.dst (.pointer (some ⟨w.heap.size, 0, none⟩))) (w.alloc (.cells cs ty))) : wpList P ops Q (o :: rest) a w :=
  wpList_plain hgd fun _ hK => wp_box_row ty x ho cs hx (hK _ _ h)

theorem run_index_flags (fl : Nat → Bool) (k : Nat) (hk : k < 121) (w : World) : (Instr.index 133 (.agg (flagsA fl)) (.int .i64 k)).run Try.prog w = .ok (.bool (fl k)) w := by
  have hg := flagsA_get fl k hk
  simp [Instr.index, go_sem, part, hg]
  intro h; omega

theorem run_index_flags' (fl : Nat → Bool) (w : World) (k : Nat) (hk : k < 121) : (Instr.index 133 (.agg (flagsA fl)) (.int .i64 k)).run Try.prog w = .ok (.bool (fl k)) w := run_index_flags fl k hk w

set_option maxRecDepth 100000 in
set_option maxHeartbeats 2000000 in
theorem ranges_any (fl : Nat → Bool) (w : World) :
    Calls Try.prog 84 #[.agg (flagsA fl)] w (Gives w w.heap.size (rngs fl 121)) := by
  have hsz := (show Option.map (fun x => x.size) (Try.prog.info? 133) = some (flagsA fl).size from by rw [flagsA_size]; kernel_rfl)
  have HS := Lib.hid hsz; clear hsz
  have HX := Lib.hid (run_index_flags' fl)
  go_enter Try.func84, Try.ntmps84
  go_wp2_with (first | (with_reducible refine wpList_box_row (o := ⟨some 1, .box 133 (.tmp 0), _, _, _, _⟩) rfl 133 (.tmp 0) rfl (flagsA fl) ?bx ?_) | (with_reducible refine wpList_load_row (o := ⟨some 5, .load 133 (.tmp 1), _, _, _, _⟩) rfl 133 (.tmp 1) rfl w.heap.size ?lx 133 (flagsA fl) (0, 0) _ (heap_alloc_new _ _) Try.underlying133 rfl HS.out ?_))
  case bx => rfl
  case lx => rfl
  go_loopw [2, 6] (fun v i wr => ∃ k : Nat, k ≤ 121 ∧ i = .int .i64 k ∧ RS wr (w.heap.size + 1) v (rngs fl k) ∧ Below (w.heap.size + 1) (w.alloc (.cells (flagsA fl) 133)) wr) (fun _ i _ => 121 - (intOf i).toNat)
  case atStart => exact ⟨0, by omega, rfl, World.ownsRow_nil _ _ _ _, Below.refl _ _⟩
  case round =>
    obtain ⟨k, hk, rfl, hrs, hbl⟩ := hrel
    have HR := Lib.hid hrs; clear hrs
    have HB := Lib.hid hbl; clear hbl
    by_cases hlt : k < 121
    · have hx := HX.out wr k hlt
      by_cases hf : fl k = true
      · go_wp2_with (go_at_call 68; refine (extended_any (w.heap.size + 1) _ _ _ _ _ HR.out (by have := rngs_length fl k; omega) (by have := HB.out.size; simp at this; omega) (fun r hr => by have := rngs_bd fl k r hr; omega)).mono ?_; rintro e w1 ⟨v1, rfl, hr1, hb1⟩)
        go_roundw
        case rel => exact ⟨k + 1, by omega, by go_num, by rw [rngs, if_pos hf]; exact hr1, HB.out.trans hb1⟩
        case measure => simp [intOf]; omega
      · have hf' : fl k = false := by simpa using hf
        clear hf
        go_wp2
        go_roundw
        case rel => exact ⟨k + 1, by omega, by go_num, by rw [rngs, hf']; exact HR.out, HB.out⟩
        case measure => simp [intOf]; omega
    · obtain rfl : k = 121 := by omega
      go_wp2
      go_ret
      exact ⟨_, rfl, HR.out.mono (by omega), ((Below.refl _ _).alloc (Nat.le_refl _) _).trans (HB.out.mono (by omega))⟩
end Go.Proofs.Ytagfcfojfjkmbaa

namespace Go.Proofs.Ytagfcfojfjkmbaa
open Go.RowKit

def GivesE (w : World) (base : Nat) (l : List (Int × Int)) (err : Int) (e : Ending) (w' : World) : Prop := ∃ v, e = .returned (.tuple #[v, .int .i64 err]) ∧ RS w' base v l ∧ Below base w w'
theorem RS.nil (w : World) (base : Nat) : RS w base (.slice none 0 0) [] := World.ownsRow_nil _ _ _ _

theorem okRule_bd {f b m e : Int} (h : okRule f b m e = true) : 0 ≤ f ∧ f ≤ 120 ∧ 1 ≤ b ∧ b ≤ 12 ∧ 0 ≤ m ∧ m ≤ 1 ∧ 0 ≤ e ∧ e ≤ 5 := by
  simp [okRule, inB] at h; omega

set_option maxHeartbeats 1000000 in
theorem true_bad (f b m e n : Int) (w : World) (h : okRule f b m e = false) :
    Calls Try.prog 49 #[ruleV f b m e, .int .i64 n] w (GivesE w w.heap.size [] 1) := by
  unfold ruleV
  go_enter Try.func49, Try.ntmps49
  go_wp2_with (go_at_call 78; refine (valid_any f b m e _).mono ?_; rintro r w1 ⟨rfl, hb1⟩)
  go_ret2
  exact ⟨_, rfl, RS.nil _ _, ((Below.refl _ _).alloc (Nat.le_refl _) _).trans (hb1.mono (by simp))⟩

set_option maxHeartbeats 1000000 in
theorem true_range (f b m e n : Int) (w : World) (h : okRule f b m e = true) (hn : inB n 0 140 = false) :
    Calls Try.prog 49 #[ruleV f b m e, .int .i64 n] w (GivesE w w.heap.size [] 2) := by
  unfold ruleV
  go_enter Try.func49, Try.ntmps49
  go_wp2_with (first | (go_at_call 78; refine (valid_any f b m e _).mono ?_; rintro r w1 ⟨rfl, hb1⟩) | (go_at_call 64; refine (isWritten_any _ _).mono ?_; rintro r w2 ⟨rfl, rfl⟩))
  go_ret2
  exact ⟨_, rfl, RS.nil _ _, ((Below.refl _ _).alloc (Nat.le_refl _) _).trans (hb1.mono (by simp))⟩

set_option maxHeartbeats 1000000 in
theorem true_ok (f b m e n : Int) (w : World) (h : okRule f b m e = true) (hn : inB n 0 140 = true) :
    Calls Try.prog 49 #[ruleV f b m e, .int .i64 n] w (GivesE w w.heap.size (rngs (agesF f b m e n 126) 121) 0) := by
  obtain ⟨g0, g1, g2, g3, g4, g5, g6, g7⟩ := okRule_bd h
  have HA := Lib.hid (fun W => ages_any f b m e n W g2 g3 g4 g5 g6 g7)
  unfold ruleV at HA ⊢
  go_enter Try.func49, Try.ntmps49
  go_wp2_with (first | (go_at_call 78; refine (valid_any f b m e _).mono ?_; rintro r w1 ⟨rfl, hb1⟩; obtain ⟨hc1, hf1⟩ := bcell hb1; have hs1 : w.heap.size + 1 ≤ w1.heap.size := by have := hb1.size; simp at this; omega) | (go_at_call 64; refine (isWritten_any _ _).mono ?_; rintro r w2 ⟨rfl, rfl⟩) | (go_at_call 83; refine (HA.out _).mono ?_; rintro r w2 ⟨rfl, hb2⟩) | (go_at_call 84; refine (ranges_any _ _).mono ?_; rintro r w3 ⟨v, rfl, hr3, hb3⟩))
  go_ret2
  have b1 := ((Below.refl _ _).alloc (Nat.le_refl _) _).trans (hb1.mono (B' := w.heap.size) (by simp))
  have s2 := hb2.size
  exact ⟨_, rfl, hr3.mono (by omega), (b1.trans (hb2.mono (by omega))).trans (hb3.mono (by omega))⟩

set_option maxHeartbeats 1000000 in
theorem closure_int (c : Nat) (x : Int) (w : World) (hc : w.cell? ⟨c, 0, none⟩ = some (.func (.func 64) #[] #[])) :
    Calls Try.prog 91 #[.int .i64 x, .pointer (some ⟨c, 0, none⟩)] w fun e w' => e = .returned (.bool (!inB x 0 140)) ∧ w = w' := by
  go_enter Try.func91, Try.ntmps91
  go_wp2_with (go_at_call 64; refine (isWritten_any _ _).mono ?_; rintro r w2 ⟨rfl, rfl⟩)
  go_ret
  exact ⟨rfl, rfl⟩

def allB (p : Nat → Bool) (n : Nat) : Bool := (List.range n).all p
theorem allB_true {p : Nat → Bool} {n : Nat} (h : ∀ q, q < n → p q = true) : allB p n = true := by
  simp only [allB, List.all_eq_true, List.mem_range]; exact h
theorem allB_false {p : Nat → Bool} {n k : Nat} (hk : k < n) (h : p k = false) : allB p n = false := by
  simp only [allB, List.all_eq_false, List.mem_range]; exact ⟨k, hk, by simp [h]⟩
/-- What IndexFunc gives for 'not p'. -/
def IdxPost (p : Nat → Bool) (n : Nat) (w : World) (e : Ending) (w' : World) : Prop := ∃ r : Int, e = .returned (.int .i64 r) ∧ decide (0 ≤ r) = !allB p n ∧ Below w.heap.size w w'

def IntsAt (w : World) (sv : Value) (n : Nat) (z : Nat → Int) : Prop :=
  (sv = .slice none 0 0 ∧ n = 0) ∨ ∃ b off cap, sv = .slice (some ⟨b, off, none⟩) n cap ∧ b < w.heap.size ∧ ∀ j, j < n → w.cell? ⟨b, off + j, none⟩ = some (.int .i64 (z j))

set_option maxHeartbeats 1000000 in
theorem indexFunc_nil (fv : Value) (w : World) :
    Calls Try.prog 104 #[.slice none 0 0, fv] w fun e w' => e = .returned (.int .i64 (-1)) ∧ w = w' := by
  go_enter Try.func104, Try.ntmps104
  go_wp2
  go_loop [8] (fun i => i = .int .i64 0) (fun _ => 0)
  case atStart => rfl
  case round =>
    obtain rfl := hrel
    go_wp2
    go_ret
    exact ⟨rfl, rfl⟩

set_option maxHeartbeats 1000000 in
theorem indexFunc_int (c b off cap n : Nat) (z : Nat → Int) (w : World) (hlen : n ≤ 100000) (hc : w.cell? ⟨c, 0, none⟩ = some (.func (.func 64) #[] #[]))
    (hz : ∀ j, j < n → w.cell? ⟨b, off + j, none⟩ = some (.int .i64 (z j))) :
    Calls Try.prog 104 #[.slice (some ⟨b, off, none⟩) n cap, .func (.func 91) #[] #[.pointer (some ⟨c, 0, none⟩)]] w (IdxPost (fun j => inB (z j) 0 140) n w) := by
  have HZ := Lib.hid hz; clear hz
  have HC := Lib.hid hc; clear hc
  go_enter Try.func104, Try.ntmps104
  go_wp2
  go_loop [8] (fun i => ∃ k : Nat, k ≤ n ∧ i = .int .i64 k ∧ ∀ q, q < k → inB (z q) 0 140 = true) (fun i => n - (intOf i).toNat)
  case atStart => exact ⟨0, Nat.zero_le _, rfl, fun q h => absurd h (Nat.not_lt_zero _)⟩
  case round =>
    obtain ⟨k, hk, rfl, hall⟩ := hrel
    have HA := Lib.hid hall; clear hall
    by_cases hlt : k < n
    · have hcx := HZ.out k hlt
      by_cases hin : inB (z k) 0 140 = true
      · go_wp2_with (go_at_call 91; refine (closure_int c _ _ HC.out).mono ?_; rintro r w2 ⟨rfl, rfl⟩)
        go_round
        case rel => exact ⟨k + 1, by omega, by go_num, fun q hq => by rcases Nat.lt_succ_iff_lt_or_eq.1 hq with h | rfl; exact HA.out q h; exact hin⟩
        case measure => simp [intOf]; omega
      · have hin' : inB (z k) 0 140 = false := by simpa using hin
        clear hin
        go_wp2_with (go_at_call 91; refine (closure_int c _ _ HC.out).mono ?_; rintro r w2 ⟨rfl, rfl⟩)
        go_ret
        exact ⟨_, rfl, by rw [allB_false hlt hin']; simp, Below.refl _ _⟩
    · obtain rfl : k = n := by omega
      go_wp2
      go_ret
      exact ⟨_, rfl, by rw [allB_true HA.out]; rfl, Below.refl _ _⟩

theorem indexFunc_any (c n : Nat) (sv : Value) (z : Nat → Int) (w : World) (hlen : n ≤ 100000) (hc : w.cell? ⟨c, 0, none⟩ = some (.func (.func 64) #[] #[])) (hz : IntsAt w sv n z) :
    Calls Try.prog 104 #[sv, .func (.func 91) #[] #[.pointer (some ⟨c, 0, none⟩)]] w (IdxPost (fun j => inB (z j) 0 140) n w) := by
  rcases hz with ⟨rfl, rfl⟩ | ⟨b, off, cap, rfl, _, hz⟩
  · refine (indexFunc_nil _ w).mono ?_
    rintro e w' ⟨rfl, rfl⟩
    exact ⟨_, rfl, by simp [allB], Below.refl _ _⟩
  · exact indexFunc_int c b off cap n z w hlen hc hz

set_option maxHeartbeats 1000000 in
theorem containsFunc_any (c n : Nat) (sv : Value) (z : Nat → Int) (w : World) (hlen : n ≤ 100000) (hc : w.cell? ⟨c, 0, none⟩ = some (.func (.func 64) #[] #[])) (hz : IntsAt w sv n z) :
    Calls Try.prog 90 #[sv, .func (.func 91) #[] #[.pointer (some ⟨c, 0, none⟩)]] w fun e w' => e = .returned (.bool (!allB (fun j => inB (z j) 0 140) n)) ∧ Below w.heap.size w w' := by
  have HI := Lib.hid (indexFunc_any c n sv z w hlen hc hz); clear hc hz
  go_enter Try.func90, Try.ntmps90
  go_wp2_with (go_at_call 104; refine HI.out.mono ?_; rintro e w' ⟨r, rfl, hr, hb⟩; have HR := Lib.hid hr; clear hr)
  go_ret
  exact ⟨ret_bool HR.out, hb⟩

theorem IntsAt.alloc {w : World} {sv : Value} {n : Nat} {z : Nat → Int} (h : IntsAt w sv n z) (o : Obj) : IntsAt (w.alloc o) sv n z := by
  rcases h with h | ⟨b, off, cap, rfl, hb, hz⟩
  · exact .inl h
  · exact .inr ⟨b, off, cap, rfl, by simp; omega, fun j hj => by rw [((Below.refl w.heap.size w).alloc (Nat.le_refl _) o).cell (p := ⟨b, off + j, none⟩) hb]; exact hz j hj⟩
theorem IntsAt.below {w w' : World} {sv : Value} {n : Nat} {z : Nat → Int} (h : IntsAt w sv n z) (hB : Below w.heap.size w w') : IntsAt w' sv n z := by
  rcases h with h | ⟨b, off, cap, rfl, hb, hz⟩
  · exact .inl h
  · exact .inr ⟨b, off, cap, rfl, Nat.lt_of_lt_of_le hb hB.size, fun j hj => by rw [hB.cell (p := ⟨b, off + j, none⟩) hb]; exact hz j hj⟩

set_option maxHeartbeats 1000000 in
theorem all_int (n : Nat) (sv : Value) (z : Nat → Int) (w : World) (hlen : n ≤ 100000) (hz : IntsAt w sv n z) :
    Calls Try.prog 63 #[sv, .func (.func 64) #[] #[]] w fun e w' => e = .returned (.bool (allB (fun j => inB (z j) 0 140) n)) ∧ Below w.heap.size w w' := by
  have HI := Lib.hid hz; clear hz
  go_enter Try.func63, Try.ntmps63
  go_wp2_with (go_at_call 90; refine (containsFunc_any _ n sv z _ hlen (cell_of_row _ _ 0 _ _ _ (heap_alloc_new _ _)) (HI.out.alloc _)).mono ?_; rintro e w' ⟨rfl, hb⟩)
  go_ret
  exact ⟨ret_bool (by simp), ((Below.refl _ _).alloc (Nat.le_refl _) _).trans (hb.mono (by simp))⟩
end Go.Proofs.Ytagfcfojfjkmbaa

namespace Go.Proofs.Ytagfcfojfjkmbaa
open Go.RowKit

structure Rl where
  f : Int
  b : Int
  m : Int
  e : Int
structure Rc where
  day : Int
  rule : Int
  num : Int
def Rl.v (r : Rl) : Value := .agg #[.int .i64 r.f, .int .i64 r.b, .int .i64 r.m, .int .i64 r.e]
def Rl.ok (r : Rl) : Bool := okRule r.f r.b r.m r.e
def Rc.v (r : Rc) : Value := .agg #[.int .i64 r.day, .int .i64 r.rule, .int .i64 r.num]
def Rc.ok (nr : Nat) (r : Rc) : Bool := inB r.day (-50000) 50000 && inB r.rule 0 ((nr : Int) - 1) && inB r.num 0 140

def RlsAt (w : World) (sv : Value) (n : Nat) (R : Nat → Rl) : Prop :=
  (sv = .slice none 0 0 ∧ n = 0) ∨ ∃ b off cap, sv = .slice (some ⟨b, off, none⟩) n cap ∧ b < w.heap.size ∧ ∀ j, j < n →
    w.cell? ⟨b, off + j * 4, none⟩ = some (.int .i64 (R j).f) ∧ w.cell? ⟨b, off + j * 4 + 1, none⟩ = some (.int .i64 (R j).b) ∧ w.cell? ⟨b, off + j * 4 + 2, none⟩ = some (.int .i64 (R j).m) ∧ w.cell? ⟨b, off + j * 4 + 3, none⟩ = some (.int .i64 (R j).e)
def RcsAt (w : World) (sv : Value) (n : Nat) (C : Nat → Rc) : Prop :=
  (sv = .slice none 0 0 ∧ n = 0) ∨ ∃ b off cap, sv = .slice (some ⟨b, off, none⟩) n cap ∧ b < w.heap.size ∧ ∀ j, j < n →
    w.cell? ⟨b, off + j * 3, none⟩ = some (.int .i64 (C j).day) ∧ w.cell? ⟨b, off + j * 3 + 1, none⟩ = some (.int .i64 (C j).rule) ∧ w.cell? ⟨b, off + j * 3 + 2, none⟩ = some (.int .i64 (C j).num)

theorem RlsAt.below {w w' : World} {sv : Value} {n : Nat} {R : Nat → Rl} (h : RlsAt w sv n R) (hB : Below w.heap.size w w') : RlsAt w' sv n R := by
  rcases h with h | ⟨b, off, cap, rfl, hb, hz⟩
  · exact .inl h
  · refine .inr ⟨b, off, cap, rfl, Nat.lt_of_lt_of_le hb hB.size, fun j hj => ?_⟩
    obtain ⟨h0, h1, h2, h3⟩ := hz j hj
    exact ⟨(hB.cell (p := ⟨b, _, none⟩) hb).trans h0, (hB.cell (p := ⟨b, _, none⟩) hb).trans h1, (hB.cell (p := ⟨b, _, none⟩) hb).trans h2, (hB.cell (p := ⟨b, _, none⟩) hb).trans h3⟩
theorem RcsAt.below {w w' : World} {sv : Value} {n : Nat} {C : Nat → Rc} (h : RcsAt w sv n C) (hB : Below w.heap.size w w') : RcsAt w' sv n C := by
  rcases h with h | ⟨b, off, cap, rfl, hb, hz⟩
  · exact .inl h
  · refine .inr ⟨b, off, cap, rfl, Nat.lt_of_lt_of_le hb hB.size, fun j hj => ?_⟩
    obtain ⟨h0, h1, h2⟩ := hz j hj
    exact ⟨(hB.cell (p := ⟨b, _, none⟩) hb).trans h0, (hB.cell (p := ⟨b, _, none⟩) hb).trans h1, (hB.cell (p := ⟨b, _, none⟩) hb).trans h2⟩
theorem RlsAt.slice {w : World} {sv : Value} {n : Nat} {R : Nat → Rl} (h : RlsAt w sv n R) : ∃ a cap, sv = .slice a n cap := by
  rcases h with ⟨rfl, rfl⟩ | ⟨b, off, cap, rfl, _⟩
  · exact ⟨_, _, rfl⟩
  · exact ⟨_, _, rfl⟩
theorem RcsAt.slice {w : World} {sv : Value} {n : Nat} {C : Nat → Rc} (h : RcsAt w sv n C) : ∃ a cap, sv = .slice a n cap := by
  rcases h with ⟨rfl, rfl⟩ | ⟨b, off, cap, rfl, _⟩
  · exact ⟨_, _, rfl⟩
  · exact ⟨_, _, rfl⟩
theorem below_alloc (w : World) (o : Obj) : Below w.heap.size w (w.alloc o) := (Below.refl _ _).alloc (Nat.le_refl _) _
theorem box_cell (w : World) (v : Value) (t : TypeId) : (w.alloc (.cells #[v] t)).cell? ⟨w.heap.size, 0, none⟩ = some v := cell_of_row _ _ 0 _ _ _ (heap_alloc_new _ _)

theorem valid_rl (r : Rl) (w : World) : Calls Try.prog 78 #[.agg #[.int .i64 r.f, .int .i64 r.b, .int .i64 r.m, .int .i64 r.e]] w fun e w' => e = .returned (.bool r.ok) ∧ Below w.heap.size w w' := valid_any _ _ _ _ _

set_option maxHeartbeats 1000000 in
theorem closure_rule (c : Nat) (r : Rl) (w : World) (hl : c < w.heap.size) (hc : w.cell? ⟨c, 0, none⟩ = some (.func (.func 78) #[] #[])) :
    Calls Try.prog 99 #[r.v, .pointer (some ⟨c, 0, none⟩)] w fun e w' => e = .returned (.bool (!r.ok)) ∧ Below w.heap.size w w' := by
  unfold Rl.v
  go_enter Try.func99, Try.ntmps99
  go_wp2_with (go_at_call 78; refine (valid_rl r _).mono ?_; rintro e w2 ⟨rfl, hb⟩)
  go_ret
  exact ⟨rfl, (below_alloc w _).trans (hb.mono (by simp))⟩

set_option maxHeartbeats 1000000 in
theorem record_any (lo hi : Int) (a : Option Addr) (nr cap : Nat) (cv : Value) (r : Rc) (w : World) (hn : nr ≤ 100000) :
    Calls Try.prog 76 #[.agg #[.int .i64 lo, .int .i64 hi, .slice a nr cap, cv], r.v] w fun e w' => e = .returned (.bool (r.ok nr)) ∧ Below w.heap.size w w' := by
  unfold Rc.v
  go_enter Try.func76, Try.ntmps76
  go_wp2_with (first | (go_at_call 66; refine (isDay_any _ _).mono ?_; rintro e w' ⟨rfl, rfl⟩) | (go_at_call 62; refine (within_any _ _ _ _).mono ?_; rintro e w' ⟨rfl, rfl⟩) | (go_at_call 64; refine (isWritten_any _ _).mono ?_; rintro e w' ⟨rfl, rfl⟩))
  all_goals go_ret
  all_goals exact ⟨ret_bool (by simp [Rc.ok, *]), ((Below.refl _ _).alloc (Nat.le_refl _) _).alloc (by simp) _⟩

set_option maxHeartbeats 1000000 in
theorem closure_rec (c : Nat) (lo hi : Int) (a : Option Addr) (nr cap : Nat) (cv : Value) (r : Rc) (w : World) (hn : nr ≤ 100000) (hl : c < w.heap.size) (hc : w.cell? ⟨c, 0, none⟩ = some (.func (.func 76) #[.agg #[.int .i64 lo, .int .i64 hi, .slice a nr cap, cv]] #[])) :
    Calls Try.prog 101 #[r.v, .pointer (some ⟨c, 0, none⟩)] w fun e w' => e = .returned (.bool (!r.ok nr)) ∧ Below w.heap.size w w' := by
  have HR := Lib.hid (fun W => record_any lo hi a nr cap cv r W hn)
  unfold Rc.v at HR ⊢
  go_enter Try.func101, Try.ntmps101
  go_wp2_with (go_at_call 76; refine (HR.out _).mono ?_; rintro e w2 ⟨rfl, hb⟩)
  go_ret
  exact ⟨rfl, (below_alloc w _).trans (hb.mono (by simp))⟩

set_option maxHeartbeats 1000000 in
theorem indexFunc_rules_nil (fv : Value) (w : World) :
    Calls Try.prog 107 #[.slice none 0 0, fv] w fun e w' => e = .returned (.int .i64 (-1)) ∧ w = w' := by
  go_enter Try.func107, Try.ntmps107
  go_wp2
  go_loop [8] (fun i => i = .int .i64 0) (fun _ => 0)
  case atStart => rfl
  case round =>
    obtain rfl := hrel
    go_wp2
    go_ret
    exact ⟨rfl, rfl⟩

set_option maxHeartbeats 1000000 in
theorem indexFunc_recs_nil (fv : Value) (w : World) :
    Calls Try.prog 108 #[.slice none 0 0, fv] w fun e w' => e = .returned (.int .i64 (-1)) ∧ w = w' := by
  go_enter Try.func108, Try.ntmps108
  go_wp2
  go_loop [8] (fun i => i = .int .i64 0) (fun _ => 0)
  case atStart => rfl
  case round =>
    obtain rfl := hrel
    go_wp2
    go_ret
    exact ⟨rfl, rfl⟩

set_option maxHeartbeats 1000000 in
theorem indexFunc_rules_some (c b off cap n : Nat) (R : Nat → Rl) (w : World) (hlen : n ≤ 100000) (hl : c < w.heap.size) (hc : w.cell? ⟨c, 0, none⟩ = some (.func (.func 78) #[] #[]))
    (hz : RlsAt w (.slice (some ⟨b, off, none⟩) n cap) n R) :
    Calls Try.prog 107 #[.slice (some ⟨b, off, none⟩) n cap, .func (.func 99) #[] #[.pointer (some ⟨c, 0, none⟩)]] w (IdxPost (fun j => (R j).ok) n w) := by
  have HZ := Lib.hid hz; clear hz
  have HC := Lib.hid hc; clear hc
  have HV := Lib.hid closure_rule
  unfold Rl.v at HV
  go_enter Try.func107, Try.ntmps107
  go_wp2
  go_loopw [8] (fun i wr => ∃ k : Nat, k ≤ n ∧ i = .int .i64 k ∧ (∀ q, q < k → (R q).ok = true) ∧ Below w.heap.size w wr) (fun i _ => n - (intOf i).toNat)
  case atStart => exact ⟨0, Nat.zero_le _, rfl, fun q h => absurd h (Nat.not_lt_zero _), Below.refl _ _⟩
  case round =>
    obtain ⟨k, hk, rfl, hall, hbl⟩ := hrel
    have HA := Lib.hid hall; clear hall
    have hl' := Nat.lt_of_lt_of_le hl hbl.size
    have HC' := Lib.hid ((hbl.cell (p := ⟨c, 0, none⟩) hl).trans HC.out)
    have HB := Lib.hid hbl; clear hbl
    by_cases hlt : k < n
    · have hcx : wr.cell? ⟨b, off + k * 4, none⟩ = some (.int .i64 (R k).f) ∧ wr.cell? ⟨b, off + k * 4 + 1, none⟩ = some (.int .i64 (R k).b) ∧ wr.cell? ⟨b, off + k * 4 + 2, none⟩ = some (.int .i64 (R k).m) ∧ wr.cell? ⟨b, off + k * 4 + 3, none⟩ = some (.int .i64 (R k).e) := by
        rcases HZ.out.below HB.out with ⟨h, _⟩ | ⟨b', off', cap', h, _, hz⟩
        · cases h
        · cases h; exact hz k hlt
      obtain ⟨x0, x1, x2, x3⟩ := hcx
      by_cases hin : (R k).ok = true
      · go_wp2_with (go_at_call 99; refine (HV.out c (R k) _ hl' HC'.out).mono ?_; rintro r w2 ⟨rfl, hb2⟩)
        go_roundw
        case rel => exact ⟨k + 1, by omega, by go_num, (fun q hq => by rcases Nat.lt_succ_iff_lt_or_eq.1 hq with h | rfl; exact HA.out q h; exact hin), HB.out.trans (hb2.mono HB.out.size)⟩
        case measure => simp [intOf]; omega
      · have hin' : (R k).ok = false := by simpa using hin
        clear hin
        go_wp2_with (go_at_call 99; refine (HV.out c (R k) _ hl' HC'.out).mono ?_; rintro r w2 ⟨rfl, hb2⟩)
        go_ret
        exact ⟨_, rfl, by rw [allB_false hlt hin']; simp, HB.out.trans (hb2.mono HB.out.size)⟩
    · obtain rfl : k = n := by omega
      go_wp2
      go_ret
      exact ⟨_, rfl, by rw [allB_true HA.out]; rfl, HB.out⟩
end Go.Proofs.Ytagfcfojfjkmbaa

namespace Go.Proofs.Ytagfcfojfjkmbaa
open Go.RowKit

set_option maxHeartbeats 1000000 in
theorem indexFunc_recs_some (c b off cap n : Nat) (lo hi : Int) (a : Option Addr) (nr cap' : Nat) (cv : Value) (C : Nat → Rc) (w : World) (hn : nr ≤ 100000) (hlen : n ≤ 100000) (hl : c < w.heap.size) (hc : w.cell? ⟨c, 0, none⟩ = some (.func (.func 76) #[.agg #[.int .i64 lo, .int .i64 hi, .slice a nr cap', cv]] #[]))
    (hz : RcsAt w (.slice (some ⟨b, off, none⟩) n cap) n C) :
    Calls Try.prog 108 #[.slice (some ⟨b, off, none⟩) n cap, .func (.func 101) #[] #[.pointer (some ⟨c, 0, none⟩)]] w (IdxPost (fun j => (C j).ok nr) n w) := by
  have HZ := Lib.hid hz; clear hz
  have HC := Lib.hid hc; clear hc
  have HV := Lib.hid closure_rec
  unfold Rc.v at HV
  go_enter Try.func108, Try.ntmps108
  go_wp2
  go_loopw [8] (fun i wr => ∃ k : Nat, k ≤ n ∧ i = .int .i64 k ∧ (∀ q, q < k → (C q).ok nr = true) ∧ Below w.heap.size w wr) (fun i _ => n - (intOf i).toNat)
  case atStart => exact ⟨0, Nat.zero_le _, rfl, fun q h => absurd h (Nat.not_lt_zero _), Below.refl _ _⟩
  case round =>
    obtain ⟨k, hk, rfl, hall, hbl⟩ := hrel
    have HA := Lib.hid hall; clear hall
    have hl' := Nat.lt_of_lt_of_le hl hbl.size
    have HC' := Lib.hid ((hbl.cell (p := ⟨c, 0, none⟩) hl).trans HC.out)
    have HB := Lib.hid hbl; clear hbl
    by_cases hlt : k < n
    · have hcx : wr.cell? ⟨b, off + k * 3, none⟩ = some (.int .i64 (C k).day) ∧ wr.cell? ⟨b, off + k * 3 + 1, none⟩ = some (.int .i64 (C k).rule) ∧ wr.cell? ⟨b, off + k * 3 + 2, none⟩ = some (.int .i64 (C k).num) := by
        rcases HZ.out.below HB.out with ⟨h, _⟩ | ⟨b', off', cap', h, _, hz⟩
        · cases h
        · cases h; exact hz k hlt
      obtain ⟨x0, x1, x2⟩ := hcx
      by_cases hin : (C k).ok nr = true
      · go_wp2_with (go_at_call 101; refine (HV.out c lo hi a nr cap' cv (C k) _ hn hl' HC'.out).mono ?_; rintro r w2 ⟨rfl, hb2⟩)
        go_roundw
        case rel => exact ⟨k + 1, by omega, by go_num, (fun q hq => by rcases Nat.lt_succ_iff_lt_or_eq.1 hq with h | rfl; exact HA.out q h; exact hin), HB.out.trans (hb2.mono HB.out.size)⟩
        case measure => simp [intOf]; omega
      · have hin' : (C k).ok nr = false := by simpa using hin
        clear hin
        go_wp2_with (go_at_call 101; refine (HV.out c lo hi a nr cap' cv (C k) _ hn hl' HC'.out).mono ?_; rintro r w2 ⟨rfl, hb2⟩)
        go_ret
        exact ⟨_, rfl, by rw [allB_false hlt hin']; simp, HB.out.trans (hb2.mono HB.out.size)⟩
    · obtain rfl : k = n := by omega
      go_wp2
      go_ret
      exact ⟨_, rfl, by rw [allB_true HA.out]; rfl, HB.out⟩


theorem indexFunc_rules (c n : Nat) (sv : Value) (R : Nat → Rl) (w : World) (hlen : n ≤ 100000) (hl : c < w.heap.size) (hc : w.cell? ⟨c, 0, none⟩ = some (.func (.func 78) #[] #[])) (hz : RlsAt w sv n R) :
    Calls Try.prog 107 #[sv, .func (.func 99) #[] #[.pointer (some ⟨c, 0, none⟩)]] w (IdxPost (fun j => (R j).ok) n w) := by
  have hz' := hz
  rcases hz with ⟨rfl, rfl⟩ | ⟨b, off, cap, rfl, _, hz⟩
  · refine (indexFunc_rules_nil _ w).mono ?_
    rintro e w' ⟨rfl, rfl⟩
    exact ⟨_, rfl, by simp [allB], Below.refl _ _⟩
  · exact indexFunc_rules_some c b off cap n R w  hlen hl hc hz'

set_option maxHeartbeats 1000000 in
theorem containsFunc_rules (c n : Nat) (sv : Value) (R : Nat → Rl) (w : World) (hlen : n ≤ 100000) (hl : c < w.heap.size) (hc : w.cell? ⟨c, 0, none⟩ = some (.func (.func 78) #[] #[])) (hz : RlsAt w sv n R) :
    Calls Try.prog 98 #[sv, .func (.func 99) #[] #[.pointer (some ⟨c, 0, none⟩)]] w fun e w' => e = .returned (.bool (!allB (fun j => (R j).ok) n)) ∧ Below w.heap.size w w' := by
  have HI := Lib.hid (indexFunc_rules c n sv R w  hlen hl hc hz); clear hc hz
  go_enter Try.func98, Try.ntmps98
  go_wp2_with (go_at_call 107; refine HI.out.mono ?_; rintro e w' ⟨r, rfl, hr, hb⟩; have HR := Lib.hid hr; clear hr)
  go_ret
  exact ⟨ret_bool HR.out, hb⟩

set_option maxHeartbeats 1000000 in
theorem all_rules (n : Nat) (sv : Value) (R : Nat → Rl) (w : World) (hlen : n ≤ 100000) (hz : RlsAt w sv n R) :
    Calls Try.prog 77 #[sv, .func (.func 78) #[] #[]] w fun e w' => e = .returned (.bool (allB (fun j => (R j).ok) n)) ∧ Below w.heap.size w w' := by
  have HI := Lib.hid hz; clear hz
  go_enter Try.func77, Try.ntmps77
  go_wp2_with (go_at_call 98; refine (containsFunc_rules _ n sv R _  hlen (by simp) (box_cell _ _ _) (HI.out.below (below_alloc _ _))).mono ?_; rintro e w' ⟨rfl, hb⟩)
  go_ret
  exact ⟨ret_bool (by simp), (below_alloc _ _).trans (hb.mono (by simp))⟩

theorem indexFunc_recs (c n : Nat) (sv : Value) (lo hi : Int) (a : Option Addr) (nr cap' : Nat) (cv : Value) (C : Nat → Rc) (w : World) (hn : nr ≤ 100000) (hlen : n ≤ 100000) (hl : c < w.heap.size) (hc : w.cell? ⟨c, 0, none⟩ = some (.func (.func 76) #[.agg #[.int .i64 lo, .int .i64 hi, .slice a nr cap', cv]] #[])) (hz : RcsAt w sv n C) :
    Calls Try.prog 108 #[sv, .func (.func 101) #[] #[.pointer (some ⟨c, 0, none⟩)]] w (IdxPost (fun j => (C j).ok nr) n w) := by
  have hz' := hz
  rcases hz with ⟨rfl, rfl⟩ | ⟨b, off, cap, rfl, _, hz⟩
  · refine (indexFunc_recs_nil _ w).mono ?_
    rintro e w' ⟨rfl, rfl⟩
    exact ⟨_, rfl, by simp [allB], Below.refl _ _⟩
  · exact indexFunc_recs_some c b off cap n lo hi a nr cap' cv C w hn hlen hl hc hz'

set_option maxHeartbeats 1000000 in
theorem containsFunc_recs (c n : Nat) (sv : Value) (lo hi : Int) (a : Option Addr) (nr cap' : Nat) (cv : Value) (C : Nat → Rc) (w : World) (hn : nr ≤ 100000) (hlen : n ≤ 100000) (hl : c < w.heap.size) (hc : w.cell? ⟨c, 0, none⟩ = some (.func (.func 76) #[.agg #[.int .i64 lo, .int .i64 hi, .slice a nr cap', cv]] #[])) (hz : RcsAt w sv n C) :
    Calls Try.prog 100 #[sv, .func (.func 101) #[] #[.pointer (some ⟨c, 0, none⟩)]] w fun e w' => e = .returned (.bool (!allB (fun j => (C j).ok nr) n)) ∧ Below w.heap.size w w' := by
  have HI := Lib.hid (indexFunc_recs c n sv lo hi a nr cap' cv C w hn hlen hl hc hz); clear hc hz
  go_enter Try.func100, Try.ntmps100
  go_wp2_with (go_at_call 108; refine HI.out.mono ?_; rintro e w' ⟨r, rfl, hr, hb⟩; have HR := Lib.hid hr; clear hr)
  go_ret
  exact ⟨ret_bool HR.out, hb⟩

set_option maxHeartbeats 1000000 in
theorem all_recs (n : Nat) (sv : Value) (lo hi : Int) (a : Option Addr) (nr cap' : Nat) (cv : Value) (C : Nat → Rc) (w : World) (hn : nr ≤ 100000) (hlen : n ≤ 100000) (hz : RcsAt w sv n C) :
    Calls Try.prog 79 #[sv, (.func (.func 76) #[.agg #[.int .i64 lo, .int .i64 hi, .slice a nr cap', cv]] #[])] w fun e w' => e = .returned (.bool (allB (fun j => (C j).ok nr) n)) ∧ Below w.heap.size w w' := by
  have HI := Lib.hid hz; clear hz
  go_enter Try.func79, Try.ntmps79
  go_wp2_with (go_at_call 100; refine (containsFunc_recs _ n sv lo hi a nr cap' cv C _ hn hlen (by simp) (box_cell _ _ _) (HI.out.below (below_alloc _ _))).mono ?_; rintro e w' ⟨rfl, hb⟩)
  go_ret
  exact ⟨ret_bool (by simp), (below_alloc _ _).trans (hb.mono (by simp))⟩
end Go.Proofs.Ytagfcfojfjkmbaa

namespace Go.Proofs.Ytagfcfojfjkmbaa
open Go.RowKit

structure Pers where
  lo : Int
  hi : Int
  nr : Nat
  R : Nat → Rl
  nc : Nat
  C : Nat → Rc

def Pers.okAll (p : Pers) : Bool := inB p.lo (-50000) 50000 && inB p.hi (-50000) 50000 && decide (p.lo ≤ p.hi) && !(p.nr == 0) && allB (fun j => (p.R j).ok) p.nr && allB (fun j => (p.C j).ok p.nr) p.nc
def errOf (b : Bool) : Int := if b then 0 else 1
def Pers.fault (p : Pers) : Int := if 4 < p.nr ∨ 8 < p.nc then 3 else errOf p.okAll

/-- The person p lies in world w as value v. -/
def PersAt (w : World) (v : Value) (p : Pers) : Prop := ∃ rv cv, v = .agg #[.int .i64 p.lo, .int .i64 p.hi, rv, cv] ∧ RlsAt w rv p.nr p.R ∧ RcsAt w cv p.nc p.C
theorem PersAt.below {w w' : World} {v : Value} {p : Pers} (h : PersAt w v p) (hB : Below w.heap.size w w') : PersAt w' v p := by
  obtain ⟨rv, cv, rfl, h1, h2⟩ := h
  exact ⟨rv, cv, rfl, h1.below hB, h2.below hB⟩

set_option maxHeartbeats 1000000 in
theorem check_limit (lo hi : Int) (a a' : Option Addr) (nr cap nc cap' : Nat) (w : World) (h : 4 < nr ∨ 8 < nc) (hn : nr ≤ 100000) (hc : nc ≤ 100000) :
    Calls Try.prog 42 #[.agg #[.int .i64 lo, .int .i64 hi, .slice a nr cap, .slice a' nc cap']] w fun e w' => e = .returned (.int .i64 3) ∧ Below w.heap.size w w' := by
  rcases h with h | h
  · go_enter Try.func42, Try.ntmps42
    go_wp2
    go_ret
    exact ⟨rfl, below_alloc _ _⟩
  · by_cases h4 : 4 < nr
    · go_enter Try.func42, Try.ntmps42
      go_wp2
      go_ret
      exact ⟨rfl, below_alloc _ _⟩
    · go_enter Try.func42, Try.ntmps42
      go_wp2
      go_ret
      exact ⟨rfl, below_alloc _ _⟩

set_option maxRecDepth 100000 in
set_option maxHeartbeats 4000000 in
theorem check_rest (lo hi : Int) (a a' : Option Addr) (nr cap nc cap' : Nat) (R : Nat → Rl) (C : Nat → Rc) (w : World) (hn : nr ≤ 4) (hc : nc ≤ 8)
    (hR : RlsAt w (.slice a nr cap) nr R) (hC : RcsAt w (.slice a' nc cap') nc C) :
    Calls Try.prog 42 #[.agg #[.int .i64 lo, .int .i64 hi, .slice a nr cap, .slice a' nc cap']] w fun e w' => e = .returned (.int .i64 (errOf (Pers.okAll ⟨lo, hi, nr, R, nc, C⟩))) ∧ Below w.heap.size w w' := by
  have HR := Lib.hid hR; clear hR
  have HC := Lib.hid hC; clear hC
  have hb0 : nr ≠ 0 → ((nr : Int) == 0) = false := fun h => by simp [h]
  by_cases h0 : nr = 0 <;> cases hA : allB (fun j => (C j).ok nr) nc <;> by_cases hlo : lo ≤ hi
  all_goals first | subst h0 | have hb0 := hb0 h0
  all_goals
    go_enter Try.func42, Try.ntmps42
    go_wp2_with (first | (go_at_call 66; refine (isDay_any _ _).mono ?_; rintro e w' ⟨rfl, rfl⟩) | (go_at_call 77; refine (all_rules nr _ R _ (by omega) (HR.out.below (below_alloc _ _))).mono ?_; rintro e w1 ⟨rfl, hb1⟩; obtain ⟨hc1, hf1⟩ := bcell hb1; have hs1 : w.heap.size + 1 ≤ w1.heap.size := by have := hb1.size; simp at this; omega) | (go_at_call 79; refine (all_recs nc _ lo hi a nr cap _ C _ (by omega) (by omega) (HC.out.below ((below_alloc _ _).trans (hb1.mono (by simp))))).mono ?_; rintro e w2 ⟨rfl, hb2⟩))
    all_goals go_ret
    all_goals (refine ⟨ret_int (by first | (simp [Pers.okAll, errOf, *]; done) | (simp [Pers.okAll, errOf, *]; intro h; omega)), ?_⟩)
    all_goals first | exact below_alloc _ _ | exact (below_alloc _ _).trans (hb1.mono (by simp)) | exact ((below_alloc _ _).trans (hb1.mono (by simp))).trans (hb2.mono (by omega))

theorem check_any (v : Value) (p : Pers) (w : World) (h : PersAt w v p) (hn : p.nr ≤ 100000) (hc : p.nc ≤ 100000) :
    Calls Try.prog 42 #[v] w fun e w' => e = .returned (.int .i64 p.fault) ∧ Below w.heap.size w w' := by
  obtain ⟨rv, cv, rfl, h1, h2⟩ := h
  obtain ⟨a, cap, rfl⟩ := h1.slice
  obtain ⟨a', cap', rfl⟩ := h2.slice
  by_cases h : 4 < p.nr ∨ 8 < p.nc
  · unfold Pers.fault; rw [if_pos h]
    exact check_limit _ _ _ _ _ _ _ _ _ h hn hc
  · unfold Pers.fault; rw [if_neg h]
    exact check_rest _ _ _ _ _ _ _ _ _ _ _ (by omega) (by omega) h1 h2
end Go.Proofs.Ytagfcfojfjkmbaa

namespace Go.Proofs.Ytagfcfojfjkmbaa
open Go.RowKit Go.Shelf

/-- The block of the slice that lies in box Bl. -/
def ownB (W : World) (Bl : Nat) : Option Nat := match W.cell? ⟨Bl, 0, none⟩ with | some v => v.ownBlock | none => none

/-- What a round keeps: all cells but the box Bl and the row of the slice in it. -/
structure Kp (Bl : Nat) (W W' : World) : Prop where
  os : W'.os = W.os
  tape : W'.tape = W.tape
  output : W'.output = W.output
  size : W.heap.size ≤ W'.heap.size
  keep : ∀ k c t fr, W.heap[k]? = some (.cells c t fr) → k ≠ Bl → ownB W Bl ≠ some k → W'.heap[k]? = some (.cells c t fr)
  own : ownB W' Bl = ownB W Bl ∨ ∀ k, ownB W' Bl = some k → W.heap.size ≤ k

theorem Kp.refl (Bl : Nat) (W : World) : Kp Bl W W := ⟨rfl, rfl, rfl, Nat.le_refl _, fun _ _ _ _ h _ _ => h, .inl rfl⟩
theorem Kp.trans {Bl : Nat} {A B C : World} (h : Kp Bl A B) (k : Kp Bl B C) : Kp Bl A C := by
  refine ⟨k.os.trans h.os, k.tape.trans h.tape, k.output.trans h.output, Nat.le_trans h.size k.size, fun q c t fr hq h1 h2 => ?_, ?_⟩
  · refine k.keep q c t fr (h.keep q c t fr hq h1 h2) h1 ?_
    have hl := (Array.getElem?_eq_some_iff.1 hq).1
    rcases h.own with e | e
    · rw [e]; exact h2
    · intro e2; have := e q e2; omega
  · rcases k.own with e | e
    · rw [e]; exact h.own
    · exact .inr fun q hq => Nat.le_trans h.size (e q hq)
theorem ownB_same {Bl : Nat} {W W' : World} (h : W'.heap[Bl]? = W.heap[Bl]?) : ownB W' Bl = ownB W Bl := by
  unfold ownB; rw [World.cell?_of_block (a := ⟨Bl, 0, none⟩) h]
theorem Kp.below {Bl : Nat} {W W' : World} (hB : Bl < W.heap.size) (h : Below W.heap.size W W') : Kp Bl W W' :=
  ⟨h.os, h.tape, h.output, h.size, fun k _ _ _ hk _ _ => (h.block k (Array.getElem?_eq_some_iff.1 hk).1).trans hk, .inl (ownB_same (h.block _ hB))⟩
theorem Kp.alloc {Bl : Nat} {W : World} (hB : Bl < W.heap.size) (o : Obj) : Kp Bl W (W.alloc o) := Kp.below hB (below_alloc _ _)
theorem Kp.b {Bl : Nat} {w : World} (hB : Bl < w.heap.size) : ∀ (W : World) (l : Nat) (o o' : Obj), w.heap.size ≤ l → W.heap[l]? = some o → o.isCells = false → o.isWalk = false → Kp Bl W (W.putObj l o') := by
  intro W l o o' hl ho hc _
  refine ⟨rfl, rfl, rfl, by simp, fun k c t fr hk _ _ => ?_, .inl (ownB_same (World.putObj_heap_other (by omega)))⟩
  rw [World.putObj_heap_other (fun e => by subst e; rw [ho] at hk; cases hk; cases hc)]
  exact hk

/-- Block k is none of the round's. -/
def Mine (Bl : Nat) (W : World) (k : Nat) (c : Array Value) (t : TypeId) : Prop := W.heap[k]? = some (.cells c t (0, 0)) ∧ k ≠ Bl ∧ ownB W Bl ≠ some k
theorem Mine.kp {Bl : Nat} {W W' : World} {k : Nat} {c : Array Value} {t : TypeId} (h : Mine Bl W k c t) (hk : Kp Bl W W') : Mine Bl W' k c t := by
  refine ⟨hk.keep _ _ _ _ h.1 h.2.1 h.2.2, h.2.1, ?_⟩
  have hl := (Array.getElem?_eq_some_iff.1 h.1).1
  rcases hk.own with e | e
  · rw [e]; exact h.2.2
  · intro e2; have := e k e2; omega
theorem Mine.new {Bl : Nat} {W : World} (hB : Bl < W.heap.size) (ho : ∀ k, ownB W Bl = some k → k < W.heap.size) (c : Array Value) (t : TypeId) : Mine Bl (W.alloc (.cells c t)) W.heap.size c t := by
  refine ⟨heap_alloc_new _ _, by omega, ?_⟩
  rw [ownB_same ((below_alloc W _).block _ hB)]
  intro e; have := ho _ e; omega
theorem Mine.cell {Bl : Nat} {W : World} {k : Nat} {c : Array Value} {t : TypeId} (h : Mine Bl W k c t) (j : Nat) : W.cell? ⟨k, j, none⟩ = c[j]? := cell_of_row _ _ _ _ _ _ h.1

/-- A range whose ends are no great numbers. -/
abbrev BR := { r : Int × Int // -1000000 ≤ r.1 ∧ r.1 ≤ 1000000 ∧ -1000000 ≤ r.2 ∧ r.2 ≤ 1000000 }
def encB (x : Nat × BR) : Array Value := #[.int .i64 (x.1 : Int), .agg #[.int .i64 x.2.1.1, .int .i64 x.2.1.2]]

set_option maxHeartbeats 1000000 in
theorem backward_any (a : Option Addr) (n cap : Nat) (w : World) :
    Calls Try.prog 67 #[.slice a n cap] w fun e w' => e = .returned (.func (.func 92) #[] #[.pointer (some ⟨w.heap.size, 0, none⟩)]) ∧ w' = w.alloc (.cells #[.slice a n cap] 38) := by
  go_enter Try.func67, Try.ntmps67
  go_wp2
  go_ret
  exact ⟨rfl, rfl⟩

/-- What has come of the n elements when k rounds are over, the last ones first. -/
def down (n : Nat) (r : Nat → BR) (k : Nat) : List (Nat × BR) := (List.range k).map fun j => (n - 1 - j, r (n - 1 - j))
theorem down_succ (n : Nat) (r : Nat → BR) (k : Nat) : down n r (k + 1) = down n r k ++ [(n - 1 - k, r (n - 1 - k))] := by simp [down, List.range_succ]
theorem down_length (n : Nat) (r : Nat → BR) (k : Nat) : (down n r k).length = k := by simp [down]

attribute [local go_sem] Oper.semAt_some

set_option maxRecDepth 100000 in
set_option maxHeartbeats 2000000 in
theorem backward1_in (n l Bs Bl g len cap : Nat) (cur : Array Value) (r : Nat → BR) (hlen : len ≤ 100000) (J Jx : List (Nat × BR) → World → Prop)
    (hY : ∀ pre x W, J pre W → pre.length < len → YieldAt Fence.wide (n - 1) Try.prog l (encB x) W fun e W' =>
      (e = .returned (.bool true) ∧ J (pre ++ [x]) W' ∧ Kp Bl W W') ∨ (e = .returned (.bool false) ∧ Jx (pre ++ [x]) W'))
    (W : World) (hBs : Mine Bl W Bs #[.slice (some ⟨g, 0, none⟩) len cap] 38) (hg : Mine Bl W g cur 41)
    (hc : ∀ j, j < len → cur[j * 2]? = some (.int .i64 (r j).1.1) ∧ cur[j * 2 + 1]? = some (.int .i64 (r j).1.2)) (h0 : J [] W) :
    CallsIn Fence.wide n Try.prog 92 #[.func (.yield l) #[] #[], .pointer (some ⟨Bs, 0, none⟩)] W fun e W' => (∃ v, e = .returned v) ∧
      ((∃ ys, ys = down len r len ∧ J ys W') ∨ (∃ pre, (∃ k, k ≤ len ∧ pre = down len r k) ∧ Jx pre W')) := by
  refine callsIn_of_wp Try.func92 rfl trivial ?_ rfl
  simp only [Try.ntmps92, List.size_toArray, List.length_cons, List.length_nil, Nat.reduceAdd, Nat.reduceSub, Array.replicate_succ, Array.replicate_zero, List.push_toArray, List.append_toArray, List.nil_append, List.cons_append]
  have hb0 : W.cell? ⟨Bs, 0, none⟩ = some (.slice (some ⟨g, 0, none⟩) len cap) := hBs.cell 0
  have HBs := Lib.hid hBs; clear hBs
  have HG := Lib.hid hg; clear hg
  have HC := Lib.hid hc; clear hc
  have HY := Lib.hid hY; clear hY
  gi_wp2
  gi_loopw [3] (fun i wr => ∃ k : Nat, ((k = len ∧ i = .int .i64 (-1)) ∨ ∃ q : Nat, q + k + 1 = len ∧ i = .int .i64 (q : Int)) ∧ J (down len r k) wr ∧ Kp Bl W wr) (fun i _ => (intOf i + 1).toNat)
  case atStart =>
    refine ⟨0, ?_, h0, Kp.refl _ _⟩
    rcases Nat.eq_zero_or_pos len with h | h
    · exact .inl ⟨h.symm, by rw [h]; rfl⟩
    · exact .inr ⟨len - 1, by omega, by congr 1; omega⟩
  case round =>
    obtain ⟨k, hd, hJs, hnx⟩ := hrel
    have hb1 : wr.cell? ⟨Bs, 0, none⟩ = some (.slice (some ⟨g, 0, none⟩) len cap) := (HBs.out.kp hnx).cell 0
    rcases hd with ⟨rfl, rfl⟩ | ⟨q, hq, rfl⟩
    · gi_wp2
      go_end0
      exact ⟨⟨_, rfl⟩, .inl ⟨_, rfl, hJs⟩⟩
    · have hql : q < len := by omega
      have hqe : len - 1 - k = q := by omega
      have hq0 : wr.cell? ⟨g, q * 2, none⟩ = some (.int .i64 (r q).1.1) := ((HG.out.kp hnx).cell _).trans (HC.out q hql).1
      have hq1 : wr.cell? ⟨g, q * 2 + 1, none⟩ = some (.int .i64 (r q).1.2) := ((HG.out.kp hnx).cell _).trans (HC.out q hql).2
      obtain ⟨fn, tmps, assign, body, hy, hR⟩ := HY.out _ (q, r q) wr hJs (by rw [down_length]; omega)
      dsimp only [encB] at hy
      have HR := Lib.hid hR; clear hR
      have HE := Lib.hid hqe; clear hqe
      have HQ := Lib.hid hq; clear hq
      have HN := Lib.hid hnx; clear hnx
      gi_wp2
      refine ⟨(fun h => by cases h), ?_⟩
      refine HR.out.mono ?_
      rintro e W3 (⟨rfl, hJ3, hk3⟩ | ⟨rfl, hJx3⟩)
      · have hk3' := Lib.hid hk3; clear hk3
        gi_wp2
        go_roundw
        case rel =>
          refine ⟨k + 1, ?_, by rw [down_succ, HE.out]; exact hJ3, HN.out.trans hk3'.out⟩
          have := HQ.out
          rcases Nat.eq_zero_or_pos q with h | h
          · exact .inl ⟨by omega, by subst h; rfl⟩
          · exact .inr ⟨q - 1, by omega, by congr 1; omega⟩
        case measure => simp [intOf]
      · gi_wp2
        refine bodyPost_ret (results_none rfl _ _ _) rfl ?_
        exact ⟨⟨_, rfl⟩, .inr ⟨_, ⟨k + 1, by have := HQ.out; omega, by rw [down_succ, HE.out]⟩, hJx3⟩⟩

set_option maxRecDepth 100000 in
set_option maxHeartbeats 1000000 in
theorem backward1_nil_in (n l Bs Bl : Nat) (J : List (Nat × BR) → World → Prop) (W : World) (hBs : Mine Bl W Bs #[.slice none 0 0] 38) (h0 : J [] W) :
    CallsIn Fence.wide n Try.prog 92 #[.func (.yield l) #[] #[], .pointer (some ⟨Bs, 0, none⟩)] W fun e W' => (∃ v, e = .returned v) ∧ J [] W' := by
  refine callsIn_of_wp Try.func92 rfl trivial ?_ rfl
  simp only [Try.ntmps92, List.size_toArray, List.length_cons, List.length_nil, Nat.reduceAdd, Nat.reduceSub, Array.replicate_succ, Array.replicate_zero, List.push_toArray, List.append_toArray, List.nil_append, List.cons_append]
  have hb0 : W.cell? ⟨Bs, 0, none⟩ = some (.slice none 0 0) := hBs.cell 0
  clear hBs
  gi_wp2
  gi_loopw [3] (fun i wr => i = .int .i64 (-1) ∧ J [] wr) (fun _ _ => 0)
  case atStart => exact ⟨rfl, h0⟩
  case round =>
    obtain ⟨rfl, hJs⟩ := hrel
    gi_wp2
    go_end0
    exact ⟨⟨_, rfl⟩, hJs⟩

theorem Mine.below {Bl : Nat} {w W : World} {k : Nat} {c : Array Value} {t : TypeId} (hB : Bl < w.heap.size) (h : Mine Bl w k c t) (hb : Below w.heap.size w W) : Mine Bl W k c t := h.kp (Kp.below hB hb)

/-- The slice in box Bs holds the ranges r 0 .. r (n - 1), and is none of the rounds'. -/
def BackAt (Bl : Nat) (w : World) (Bs n : Nat) (r : Nat → BR) : Prop :=
  (Mine Bl w Bs #[.slice none 0 0] 38 ∧ n = 0) ∨ ∃ g cap cur, Mine Bl w Bs #[.slice (some ⟨g, 0, none⟩) n cap] 38 ∧ Mine Bl w g cur 41 ∧ ∀ j, j < n → cur[j * 2]? = some (.int .i64 (r j).1.1) ∧ cur[j * 2 + 1]? = some (.int .i64 (r j).1.2)

theorem backward_stops (m Bl Bs n : Nat) (r : Nat → BR) (hn : n ≤ 100000) (w : World) (hB : Bl < w.heap.size) (h : BackAt Bl w Bs n r) :
    SeqStopsK Fence.wide m Try.prog 92 #[.pointer (some ⟨Bs, 0, none⟩)] encB (Kp Bl) (fun ys => ys = down n r n) (fun pre => ∃ k, k ≤ n ∧ pre = down n r k) n w := fun l J Jx W hW _ _ hY h0 => by
  rcases h with ⟨h1, rfl⟩ | ⟨g, cap, cur, h1, h2, h3⟩
  · exact (backward1_nil_in m l Bs Bl J W (h1.below hB hW) h0).mono fun e W' ⟨he, hj⟩ => ⟨he, .inl ⟨_, rfl, hj⟩⟩
  · exact backward1_in m l Bs Bl g n cap cur r hn J Jx hY W (h1.below hB hW) (h2.below hB hW) h3 h0
end Go.Proofs.Ytagfcfojfjkmbaa

namespace Go.Proofs.Ytagfcfojfjkmbaa
open Go.RowKit Go.Shelf

/-- The two blocks of a loop: the rounds' deferred calls at D, the record behind it. -/
structure Book (D : Nat) (r : Loop) (W : World) : Prop where
  lp : W.heap[D + 1]? = some (.loop r)
  df : W.heap[D]? = some (.deferred (some []))

theorem Book.grown {D : Nat} {r : Loop} {W W' : World} {row : Option Nat} (h : Book D r W) (hg : W.grownBy W' row) (hr : ∀ q, row = some q → D + 1 < q) : Book D r W' := by
  have hl := (Array.getElem?_eq_some_iff.1 h.lp).1
  exact ⟨(hg.block _ hl (fun e => by have := hr _ e.symm; omega)).trans h.lp, (hg.block _ (by omega) (fun e => by have := hr _ e.symm; omega)).trans h.df⟩
theorem Book.keeps {D : Nat} {r : Loop} {W W' : World} (h : Book D r W) (hk : KeepsFrom D W W') : Book D r W' :=
  ⟨hk.same _ _ (by omega) h.lp rfl, hk.same _ _ (Nat.le_refl _) h.df rfl⟩
theorem Book.put {D : Nat} {r : Loop} {W : World} (h : Book D r W) (r' : Loop) : Book D r' (W.putObj (D + 1) (.loop r')) :=
  ⟨World.putObj_heap_same (Array.getElem?_eq_some_iff.1 h.lp).1, (World.putObj_heap_other (by omega)).trans h.df⟩

/-- The iterator gives all that S says, whatever the rounds do, if each goes on. -/
def SeqAll {α : Type} (P : Program) (g : Nat) (lb : Array Value) (encs : α → Array Value) (K : World → World → Prop) (S : List α → Prop) (N : Nat) (w : World) : Prop :=
  ∀ (n l : Nat) (J : List α → World → Prop) (W : World), Below w.heap.size w W → OwnFrom W.heap.size J →
    (∀ pre x W1, J pre W1 → pre.length < N → YieldAt Fence.wide n P l (encs x) W1 fun e W' => e = .returned (.bool true) ∧ J (pre ++ [x]) W' ∧ K W1 W' ∧ KeepsOthers W1 W') → J [] W →
    CallsIn Fence.wide n P g (#[.func (.yield l) #[] #[]] ++ lb) W fun e W' => (∃ v, e = .returned v) ∧ ∃ xs, S xs ∧ J xs W'

theorem wide_range {α : Type} {P : Program} {n : Nat} {g : Operand} {ps : Array Tmp} {assign body : Code} {Q : Exit → Act → World → Prop} {a : Act} {w : World} {gf : Nat} {lb : Array Value}
    (hg : a.eval g = .func (.func gf) #[] lb) (eg : ∀ args w, (callFunc gf args).run P w = .ok (.enter gf args) w)
    {encs : α → Array Value} {K : World → World → Prop} {S : List α → Prop} {N : Nat} (hseq : SeqAll P gf lb encs K S N w) (hps : ∀ x, (encs x).size = ps.size)
    (hKt : ∀ {A B C : World}, K A B → K B C → K A C) (hKb : ∀ (W : World) (l : Nat) (o o' : Obj), w.heap.size ≤ l → W.heap[l]? = some o → o.isCells = false → o.isWalk = false → K W (W.putObj l o'))
    (I : List α → World → Prop) (hI : OwnFrom w.heap.size I) (h0 : I [] w)
    (A : List α → α → Act → World → Prop) (hA : ∀ pre x a', OwnFrom w.heap.size (fun (_ : Unit) W => A pre x a' W))
    (hassign : ∀ l pre x W, I pre W → pre.length < N → assign.wpIn (Fence.wide.inRound l) (n - 1) P (Exit.then (fun a' W' => K W W' ∧ KeepsOthers W W' ∧ A pre x a' W') (fun _ _ _ => False))
      { tmps := (ps.zip (encs x)).foldl (fun t (p, v) => t.setIfInBounds p v) a.tmps, defers := [] } W)
    (hbody : ∀ l pre x a' W, w.heap.size ≤ l → (∃ r, W.heap[l]? = some (.loop r)) → A pre x a' W → pre.length < N →
      body.wpIn (Fence.wide.inRound l) (n - 1) P (fun e _ W' => e = .normal ∧ KeepsOthers W W' ∧ K W W' ∧ I (pre ++ [x]) W') a' W)
    (hdone : ∀ D xs W, w.heap.size ≤ D → S xs → I xs W → W.heap[D]? = some (.deferred (some [])) → Q .normal { a with defers := { target := .collected D, args := #[] } :: a.defers } W) :
    (Code.rangeFunc g ps assign body).wpIn Fence.wide n P Q a w := by
  refine wpIn_rangeFunc fun fn hfn => ?_
  let rc : Loop := { state := .ready, pending := none, fn, tmps := a.tmps, params := ps, assign, body, defers := w.heap.size }
  have b0 : Book w.heap.size rc ((w.alloc (.deferred (some []))).alloc (.loop rc)) := by
    constructor
    · have := World.alloc_heap_new (w.alloc (.deferred (some []))) (.loop rc); rwa [World.size_alloc] at this
    · exact (Below.heap_alloc _ _ _ (by simp)).trans (World.alloc_heap_new w _)
  have hb : Below w.heap.size w ((w.alloc (.deferred (some []))).alloc (.loop rc)) := ((Below.refl _ w).alloc (Nat.le_refl _) _).alloc (by simp) _
  have hs : w.heap.size + 1 < ((w.alloc (.deferred (some []))).alloc (.loop rc)).heap.size := by simp
  refine ⟨w.heap.size + 1, [{ target := .collected w.heap.size, args := #[] }], (w.alloc (.deferred (some []))).alloc (.loop rc), { target := .fn (.func gf) lb, args := #[.func (.yield (w.heap.size + 1)) #[] #[]] }, (w.alloc (.deferred (some []))).alloc (.loop rc), gf,
    #[.func (.yield (w.heap.size + 1)) #[] #[]] ++ lb, (w.alloc (.deferred (some []))).alloc (.loop rc), run_enterLoop_outer fn a.tmps ps assign body, ?_, fun _ _ => trivial, ?_, fun h => (by cases h), ?_⟩
  · simp only [resolve, hg]
    simp [go_sem]
  · simp [invoke, go_sem, eg]
  refine (hseq (n - 1) (w.heap.size + 1) (fun pre W => I pre W ∧ Book w.heap.size rc W) _ hb ?_ ?_ ⟨hI.alloc _ (hI.alloc _ h0), b0⟩).mono ?_
  · intro s X Y row h1 h2 h3
    exact ⟨hI s X Y row h1.1 h2 (fun r e => ⟨by have := (h3 r e).1; simp at this; omega, (h3 r e).2⟩), h1.2.grown h2 (fun r e => by have := (h3 r e).1; simp at this; omega)⟩
  · rintro pre x W ⟨hi, hbk⟩ hlen
    refine ⟨fn, _, assign, body, run_yield hbk.lp (hps x), roundIn_of_wpIn hfn ?_⟩
    refine wpIn_mono (hassign _ pre x W hi hlen) ?_
    intro e a' W1 hq
    cases e with
    | normal =>
      obtain ⟨k1, f1, hax⟩ := hq
      have bk1 := hbk.keeps (f1.from _)
      refine ⟨_, run_beginRound bk1.lp rfl, ?_⟩
      have k2 := hKb _ _ _ (.loop { rc with state := .busy }) (by omega) bk1.lp rfl rfl
      have bk2 := bk1.put { rc with state := .busy }
      refine wpIn_mono (hbody _ pre x a' _ (by omega) ⟨_, bk2.lp⟩ ((hA pre x a').putObj (s := ()) _ hax (by omega) bk1.lp rfl) hlen) ?_
      rintro e a3 W3 ⟨rfl, f3, k3, hi3⟩
      have bk3 := bk2.keeps (f3.from _)
      have k4 := hKb _ _ _ (.loop rc) (by omega) bk3.lp rfl rfl
      refine ⟨_, _, run_endRound none bk3.lp, rfl, ⟨hI.putObj _ hi3 (by omega) bk3.lp rfl, bk3.put _⟩, hKt (hKt (hKt k1 k2) k3) k4, Nat.le_trans f1.size (by have := f3.size; simp at this ⊢; exact this), fun k o hk ho => ?_⟩
      by_cases e : k = w.heap.size + 1
      · subst e; rw [hbk.lp] at hk; cases hk; exact (bk3.put _).lp
      · rw [World.putObj_heap_other e]
        exact f3.same _ _ ((World.putObj_heap_other e).trans (f1.same _ _ hk ho)) ho
    | _ => exact hq.elim
  · rintro e W ⟨⟨v, rfl⟩, xs, hS, hi, hbk⟩
    refine ⟨none, _, run_endLoop hbk.lp (by simp [rc]), ?_⟩
    exact hdone _ xs _ (Nat.le_refl _) hS (hI.putObj _ hi (by omega) hbk.lp rfl) ((hbk.put _).df)
end Go.Proofs.Ytagfcfojfjkmbaa

namespace Go.Proofs.Ytagfcfojfjkmbaa
open Go.RowKit Go.Shelf

set_option maxHeartbeats 1000000 in
theorem years_any (lo hi day rule num : Int) (rv cv : Value) (w : World) :
    Calls Try.prog 94 #[.agg #[.int .i64 lo, .int .i64 hi, rv, cv], .agg #[.int .i64 day, .int .i64 rule, .int .i64 num]] w fun e w' => e = .returned (.func (.func 105) #[] #[.pointer (some ⟨w.heap.size, 0, none⟩), .pointer (some ⟨w.heap.size + 1, 0, none⟩)]) ∧ w' = (w.alloc (.cells #[.int .i64 lo, .int .i64 hi, rv, cv] 45)).alloc (.cells #[.int .i64 day, .int .i64 rule, .int .i64 num] 109) := by
  go_enter Try.func94, Try.ntmps94
  go_wp2
  go_ret
  exact ⟨rfl, rfl⟩

def encY (x : BR) : Array Value := #[.agg #[.int .i64 x.1.1, .int .i64 x.1.2]]

theorem YieldAt.wide {n m : Nat} {P : Program} {l : Nat} {args : Array Value} {W : World} {R : Ending → World → Prop} (h : YieldAt Fence.wide n P l args W R) : YieldAt Fence.wide m P l args W R := by
  obtain ⟨fn, tmps, assign, body, hy, hR⟩ := h
  exact ⟨fn, tmps, assign, body, hy, hR.1, fun c cs _ => hR.2 c cs (room_wide _)⟩

theorem OwnFrom.abides {β : Type} {B : Nat} {J : β → World → Prop} (h : OwnFrom B J) : AbidesFrom B J := fun s W W' row hs hg hr =>
  h s W W' row hs hg (fun r e => by obtain ⟨h1, o, ho, hw⟩ := hr r e; exact ⟨h1, o, ho, Obj.not_cells_of_walk hw⟩)
theorem OwnFrom.mono {β : Type} {B B' : Nat} {J : β → World → Prop} (h : OwnFrom B J) (hB : B ≤ B') : OwnFrom B' J := fun s W W' row hs hg hr =>
  h s W W' row hs hg (fun r e => ⟨Nat.le_trans hB (hr r e).1, (hr r e).2⟩)

theorem backward_all (Bl Bs n : Nat) (r : Nat → BR) (hn : n ≤ 100000) (w : World) (hB : Bl < w.heap.size) (h : BackAt Bl w Bs n r) :
    SeqAll Try.prog 92 #[.pointer (some ⟨Bs, 0, none⟩)] encB (Kp Bl) (fun ys => ys = down n r n) n w := fun m l J W hW hJ hY h0 => by
  refine (backward_stops m Bl Bs n r hn w hB h l J (fun _ _ => False) W hW (OwnFrom.abides hJ) (fun _ _ _ _ h _ _ => h) (fun pre x W1 hj hl => (YieldAt.wide (hY pre x W1 hj hl)).mono fun e W' h => .inl ⟨h.1, h.2.1, h.2.2.1⟩) h0).mono ?_
  rintro e W' ⟨hv, ⟨ys, hs, hj⟩ | ⟨_, _, h⟩⟩
  · exact ⟨hv, ys, hs, hj⟩
  · exact h.elim

theorem Mine.grown {Bl B : Nat} {W W' : World} {k : Nat} {c : Array Value} {t : TypeId} {row : Option Nat} (h : Mine Bl W k c t) (hB : Bl < B) (hBW : Bl < W.heap.size) (hg : W.grownBy W' row) (hr : ∀ r, row = some r → B ≤ r ∧ ∃ o : Obj, W.heap[r]? = some o ∧ o.isCells = false) : Mine Bl W' k c t := by
  have hl := (Array.getElem?_eq_some_iff.1 h.1).1
  refine ⟨(hg.block _ hl (fun e => ?_)).trans h.1, h.2.1, ?_⟩
  · obtain ⟨_, o, ho, hc⟩ := hr k e.symm
    rw [h.1] at ho; cases ho; cases hc
  · rw [ownB_same (hg.block _ hBW (fun e => by have := (hr _ e.symm).1; omega))]; exact h.2.2

theorem RS.slice {w : World} {base : Nat} {v : Value} {l : List (Int × Int)} (h : RS w base v l) : ∃ a cap, v = .slice a l.length cap := by
  rcases h.2 with ⟨rfl, h0⟩ | ⟨g, cap, cur, rfl, _⟩
  · exact ⟨none, 0, by rw [h0]⟩
  · exact ⟨_, _, rfl⟩

/-- The k-th of some ranges, as a range whose ends are no great numbers. -/
def brAt (l : List (Int × Int)) (k : Nat) : BR :=
  if h : -1000000 ≤ (l.getD k (0, 0)).1 ∧ (l.getD k (0, 0)).1 ≤ 1000000 ∧ -1000000 ≤ (l.getD k (0, 0)).2 ∧ (l.getD k (0, 0)).2 ≤ 1000000 then ⟨l.getD k (0, 0), h⟩ else ⟨(0, 0), by decide⟩

theorem below_grown {W W' : World} (h : Below W.heap.size W W') : W.grownBy W' none := ⟨h.os, h.tape, h.output, h.size, fun k hk _ => h.block k hk⟩

theorem ext_bd1 (l : List (Int × Int)) (lo hi B : Int) (h : ∀ r ∈ l, 0 ≤ r.1 ∧ r.1 ≤ B) (h0 : 0 ≤ lo) (h1 : lo ≤ B) : ∀ r ∈ ext l lo hi, 0 ≤ r.1 ∧ r.1 ≤ B := by
  intro r hr
  rcases List.eq_nil_or_concat l with rfl | ⟨l0, ⟨a, b⟩, rfl⟩
  · simp [ext] at hr; subst hr; exact ⟨h0, h1⟩
  · rw [List.concat_eq_append] at *
    have hb := h (a, b) (by simp)
    simp only at hb
    have he : ext (l0 ++ [(a, b)]) lo hi = if lo ≤ b + 1 then l0 ++ [(a, max b hi)] else (l0 ++ [(a, b)]) ++ [(lo, hi)] := by simp [ext]
    rw [he] at hr
    split at hr
    · rcases List.mem_append.1 hr with h2 | h2
      · exact h r (by simp [h2])
      · simp at h2; subst h2; exact hb
    · rcases List.mem_append.1 hr with h2 | h2
      · exact h r h2
      · simp at h2; subst h2; exact ⟨h0, h1⟩
theorem rngs_bd1 (fl : Nat → Bool) (k : Nat) : ∀ r ∈ rngs fl k, 0 ≤ r.1 ∧ r.1 ≤ (k : Int) := by
  induction k with
  | zero => simp [rngs]
  | succ k ih =>
    have ih' : ∀ r ∈ rngs fl k, 0 ≤ r.1 ∧ r.1 ≤ ((k + 1 : Nat) : Int) := fun r hr => ⟨(ih r hr).1, by have := (ih r hr).2; omega⟩
    rw [rngs]; split
    · exact ext_bd1 _ _ _ _ ih' (by omega) (by omega)
    · exact ih'

theorem brAt_val {l : List (Int × Int)} (h : ∀ r ∈ l, -1000000 ≤ r.1 ∧ r.1 ≤ 1000000 ∧ -1000000 ≤ r.2 ∧ r.2 ≤ 1000000) (k : Nat) (hk : k < l.length) : (brAt l k).1 = l[k] := by
  have e : l.getD k (0, 0) = l[k] := by simp [hk]
  unfold brAt
  rw [dif_pos (by rw [e]; exact h _ (List.getElem_mem hk))]
  exact e

theorem flat_get (l : List (Int × Int)) (k : Nat) (hk : k < l.length) : (flat l)[k * 2]? = some (.int .i64 l[k].1) ∧ (flat l)[k * 2 + 1]? = some (.int .i64 l[k].2) := by
  induction l generalizing k with
  | nil => simp at hk
  | cons x l ih =>
    cases k with
    | zero => exact ⟨rfl, rfl⟩
    | succ k =>
      have := ih k (by simpa using hk)
      refine ⟨?_, ?_⟩
      · have h2 : (flat (x :: l))[(k + 1) * 2]? = (flat l)[k * 2]? := by rw [show (k + 1) * 2 = k * 2 + 1 + 1 from by omega]; rfl
        rw [h2, this.1]; rfl
      · have h2 : (flat (x :: l))[(k + 1) * 2 + 1]? = (flat l)[k * 2 + 1]? := by rw [show (k + 1) * 2 + 1 = k * 2 + 1 + 1 + 1 from by omega]; rfl
        rw [h2, this.2]; rfl

theorem back_of_rs {Bl base : Nat} {w : World} {v : Value} {l : List (Int × Int)} (h : RS w base v l) (hB : Bl < base) (ho : ∀ k, ownB w Bl = some k → k < base) (hbase : base ≤ w.heap.size)
    (hbd : ∀ r ∈ l, -1000000 ≤ r.1 ∧ r.1 ≤ 1000000 ∧ -1000000 ≤ r.2 ∧ r.2 ≤ 1000000) : BackAt Bl (w.alloc (.cells #[v] 38)) w.heap.size l.length (brAt l) := by
  have hnew : Mine Bl (w.alloc (.cells #[v] 38)) w.heap.size #[v] 38 := Mine.new (by omega) (fun k hk => by have := ho k hk; omega) _ _
  rcases h.2 with ⟨rfl, h0⟩ | ⟨g, cap, cur, rfl, hg, hgc, _, _, hcs, hcur⟩
  · exact .inl ⟨hnew, h0⟩
  · refine .inr ⟨g, cap, cur, hnew, ⟨?_, by omega, ?_⟩, fun j hj => ?_⟩
    · rw [(below_alloc w _).block _ (Array.getElem?_eq_some_iff.1 hgc).1]; exact hgc
    · rw [ownB_same ((below_alloc w _).block _ (by omega))]; intro e; have := ho _ e; omega
    · have hf := flat_get l j hj
      rw [← hcur, List.getElem?_take, List.getElem?_take, if_pos (by omega), if_pos (by omega)] at hf
      rw [brAt_val hbd j hj]
      simpa using hf

/-- The true ages of a number as ranges; the same, the greatest ones first. -/
def ageRs (f b m e num : Int) : List (Int × Int) := rngs (agesF f b m e num 126) 121
def yearsL (l : List (Int × Int)) : List BR := (down l.length (brAt l) l.length).map (·.2)
theorem ranges_rs (f b m e num : Int) (w : World) : Calls Try.prog 84 #[.agg (flagsA (agesF f b m e num 126))] w (Gives w w.heap.size (ageRs f b m e num)) := ranges_any _ _

attribute [local go_sem] Oper.semAt_some
attribute [local go_sem ↓] Go.wp_at_zero Go.wp_at_succ

set_option maxRecDepth 100000 in
set_option maxHeartbeats 2000000 in
theorem years1_in (n l Bl Bp Br b off nr cap q : Nat) (num f bb m e : Int) (J : List BR → World → Prop)
    (W : World) (hJ : OwnFrom W.heap.size J)
    (hY : ∀ pre x W1, J pre W1 → pre.length < 121 → YieldAt Fence.wide n Try.prog l (encY x) W1 fun e W' =>
      e = .returned (.bool true) ∧ J (pre ++ [x]) W' ∧ Kp Bl W1 W' ∧ KeepsOthers W1 W')
    (hBl : Bl < W.heap.size) (hown : ∀ k, ownB W Bl = some k → k < W.heap.size)
    (p1 : W.cell? ⟨Bp, 2, none⟩ = some (.slice (some ⟨b, off, none⟩) nr cap)) (r1 : W.cell? ⟨Br, 1, none⟩ = some (.int .i64 (q : Int))) (r2 : W.cell? ⟨Br, 2, none⟩ = some (.int .i64 num))
    (hp : Bp < W.heap.size) (hr : Br < W.heap.size) (hb : b < W.heap.size) (hq : q < nr)
    (c0 : W.cell? ⟨b, off + q * 4, none⟩ = some (.int .i64 f)) (c1 : W.cell? ⟨b, off + q * 4 + 1, none⟩ = some (.int .i64 bb)) (c2 : W.cell? ⟨b, off + q * 4 + 2, none⟩ = some (.int .i64 m)) (c3 : W.cell? ⟨b, off + q * 4 + 3, none⟩ = some (.int .i64 e))
    (hok : okRule f bb m e = true) (h0 : J [] W) :
    CallsIn Fence.wide n Try.prog 105 #[.func (.yield l) #[] #[], .pointer (some ⟨Bp, 0, none⟩), .pointer (some ⟨Br, 0, none⟩)] W fun x W' => (∃ v, x = .returned v) ∧
      ∃ ys, ys = yearsL (ageRs f bb m e num) ∧ J ys W' := by
  obtain ⟨g0, g1, g2, g3, g4, g5, g6, g7⟩ := okRule_bd hok
  have HA := Lib.hid (fun W => ages_any f bb m e num W g2 g3 g4 g5 g6 g7)
  unfold ruleV at HA
  have HY := Lib.hid hY; clear hY
  have HJ := Lib.hid hJ; clear hJ
  have HO := Lib.hid hown; clear hown hok
  have qi : (0 : Int) ≤ (q : Int) := by omega
  have qj : (q : Int) < (nr : Int) := by omega
  have hp' : Bp < W.heap.size + 1 := by omega
  have hr' : Br < W.heap.size + 1 := by omega
  have hb' : b < W.heap.size + 1 := by omega
  refine callsIn_of_wp_marks Try.func105 rfl trivial ?_ rfl
  simp only [Try.ntmps105, List.size_toArray, List.length_cons, List.length_nil, Nat.reduceAdd, Nat.reduceSub, Array.replicate_succ, Array.replicate_zero, List.push_toArray, List.append_toArray, List.nil_append, List.cons_append]
  refine wpIn_wide.2 ?_
  go_wp2
  go_region_held3 (fun w' => w'.cell? ⟨Bp, 2, none⟩ = some (.slice (some ⟨b, off, none⟩) nr cap) ∧ w'.cell? ⟨Br, 1, none⟩ = some (.int .i64 (q : Int)) ∧ w'.cell? ⟨Br, 2, none⟩ = some (.int .i64 num) ∧ w'.cell? ⟨b, off + q * 4, none⟩ = some (.int .i64 f) ∧ w'.cell? ⟨b, off + q * 4 + 1, none⟩ = some (.int .i64 bb) ∧ w'.cell? ⟨b, off + q * 4 + 2, none⟩ = some (.int .i64 m) ∧ w'.cell? ⟨b, off + q * 4 + 3, none⟩ = some (.int .i64 e)) (go_keep)
    (first | (go_at_call 83; refine (HA.out _).mono ?_; rintro e w2 ⟨rfl, hb2⟩; obtain ⟨hc2, hf2⟩ := bcell hb2; have hs2 := hb2.size; simp at hs2; have hp2 : Bp < w2.heap.size := Nat.lt_of_lt_of_le hp' hs2; have hr2 : Br < w2.heap.size := Nat.lt_of_lt_of_le hr' hs2; have hbb2 : b < w2.heap.size := Nat.lt_of_lt_of_le hb' hs2) | (go_at_call 84; refine (ranges_rs f bb m e num _).mono ?_; rintro r w3 ⟨v, rfl, hr3, hb3⟩; obtain ⟨hc3, hf3⟩ := bcell hb3; have hs3 := hb3.size))
  obtain ⟨a4, cap4, rfl⟩ := hr3.slice
  go_wp2_with (go_at_call 67; refine (backward_any _ _ _ _).mono ?_; rintro e w4 ⟨rfl, rfl⟩)
  have hB3 : Bl < w3.heap.size := by omega
  have hO3 : ownB w3 Bl = ownB W Bl := by
    rw [ownB_same (hb3.block _ (by omega)), ownB_same (hb2.block _ (by simp; omega))]
    exact ownB_same ((below_alloc W _).block _ hBl)
  have hb2' : Below (W.alloc (.cells #[.func (.yield l) #[] #[]] 131)).heap.size (W.alloc (.cells #[.func (.yield l) #[] #[]] 131)) w2 := (Below.refl _ _).drew.trans hb2
  have hmy : Mine Bl (w3.alloc (.cells #[.slice a4 (ageRs f bb m e num).length cap4] 38)) W.heap.size #[.func (.yield l) #[] #[]] 131 :=
    (((Mine.new hBl HO.out _ _).below (by simp; omega) hb2').below (by omega) hb3).below hB3 (below_alloc _ _)
  have hback : BackAt Bl (w3.alloc (.cells #[.slice a4 (ageRs f bb m e num).length cap4] 38)) w3.heap.size (ageRs f bb m e num).length (brAt (ageRs f bb m e num)) := back_of_rs hr3 (by omega) (fun k hk => by rw [hO3] at hk; have := HO.out k hk; omega) hs3 (fun r hr => by have h1 := rngs_bd _ _ r hr; have h2 := rngs_bd1 _ _ r hr; omega)
  refine wpIn_wide.1 (wide_range (n := 0) (gf := 92) (lb := #[.pointer (some ⟨w3.heap.size, 0, none⟩)]) rfl (enters_of Try.func92 (by kernel_rfl) rfl)
    (backward_all Bl w3.heap.size _ _ (by have := rngs_length (agesF f bb m e num 126) 121; unfold ageRs; omega) _ (by simp; omega) hback) (fun _ => rfl) Kp.trans (Kp.b (by simp; omega))
    (fun pre W' => J (pre.map (·.2)) W' ∧ Mine Bl W' W.heap.size #[.func (.yield l) #[] #[]] 131 ∧ Bl < W'.heap.size) ?hI ?h0
    (fun pre x a' W' => (J (pre.map (·.2)) W' ∧ Mine Bl W' W.heap.size #[.func (.yield l) #[] #[]] 131 ∧ Bl < W'.heap.size) ∧ ∃ Bx, W'.heap[Bx]? = some (.cells #[.int .i64 x.2.1.1, .int .i64 x.2.1.2] 41 (0, 0)) ∧ a' = { tmps := #[.func (.yield l) #[] #[], .pointer (some ⟨Bp, 0, none⟩), .pointer (some ⟨Br, 0, none⟩), .pointer (some ⟨W.heap.size, 0, none⟩), .slice a4 (ageRs f bb m e num).length cap4, undef, .pointer (some ⟨Bx, 0, none⟩), .pointer (some ⟨Bp, 2, none⟩), .slice (some ⟨b, off, none⟩) nr cap, .pointer (some ⟨Br, 1, none⟩), .int .i64 (q : Int), .pointer (some ⟨b, off + q * 4, none⟩), .agg #[.int .i64 f, .int .i64 bb, .int .i64 m, .int .i64 e], .pointer (some ⟨Br, 2, none⟩), .int .i64 num, .agg (flagsA (agesF f bb m e num 126)), .slice a4 (ageRs f bb m e num).length cap4, .slice a4 (ageRs f bb m e num).length cap4, .func (.func 92) #[] #[.pointer (some ⟨w3.heap.size, 0, none⟩)], .int .i64 (x.1 : Int), .agg #[.int .i64 x.2.1.1, .int .i64 x.2.1.2], undef, undef, undef, undef], defers := [] })
    ?hA ?assign ?body ?done)
  case hI =>
    intro s X Y row hs hg hr
    exact ⟨OwnFrom.mono HJ.out (by simp; omega) _ X Y row hs.1 hg hr, hs.2.1.grown (B := (w3.alloc (.cells #[.slice a4 (ageRs f bb m e num).length cap4] 38)).heap.size) (by simp; omega) hs.2.2 hg hr, Nat.lt_of_lt_of_le hs.2.2 hg.size⟩
  case h0 => exact ⟨HJ.out _ W _ none h0 (below_grown ((((below_alloc W _).trans (hb2'.mono (by simp))).trans (hb3.mono (by omega))).trans ((below_alloc w3 _).mono (by omega)))) (fun r e => by cases e), hmy, by simp; omega⟩
  case hA =>
    rintro pre x a' s X Y row ⟨hs, Bx, hbx, rfl⟩ hg hr
    refine ⟨⟨OwnFrom.mono HJ.out (by simp; omega) _ X Y row hs.1 hg hr, hs.2.1.grown (B := (w3.alloc (.cells #[.slice a4 (ageRs f bb m e num).length cap4] 38)).heap.size) (by simp; omega) hs.2.2 hg hr, Nat.lt_of_lt_of_le hs.2.2 hg.size⟩, Bx, ?_, rfl⟩
    rw [hg.block _ (Array.getElem?_eq_some_iff.1 hbx).1 (fun e => by obtain ⟨_, o, ho, hc⟩ := hr _ e.symm; rw [hbx] at ho; cases ho; cases hc)]
    exact hbx
  case assign =>
    rintro l1 pre x W1 ⟨i1, i2, i3⟩ hlen
    have HI1 := Lib.hid i1; have HI2 := Lib.hid i2; clear i1 i2
    simp only [encB]
    gi_wp2
    exact ⟨Kp.alloc i3 _, KeepsOthers.alloc _ _, ⟨OwnFrom.alloc HJ.out _ HI1.out, HI2.out.below i3 (below_alloc _ _), by simp; omega⟩, W1.heap.size, heap_alloc_new _ _, rfl⟩
  case body =>
    rintro l1 pre x a' W1 hl ⟨r, hr⟩ ⟨⟨i1, i2, i3⟩, Bx, hbx, rfl⟩ hlen
    have x0 : W1.cell? ⟨Bx, 0, none⟩ = some (.int .i64 x.2.1.1) := cell_of_row _ _ 0 _ _ _ hbx
    have x1 : W1.cell? ⟨Bx, 1, none⟩ = some (.int .i64 x.2.1.2) := cell_of_row _ _ 1 _ _ _ hbx
    have y0 : W1.cell? ⟨W.heap.size, 0, none⟩ = some (.func (.yield l) #[] #[]) := i2.cell 0
    obtain ⟨fn, tmps, ac, bd, hy, hR⟩ := HY.out _ x.2 W1 i1 (by have := rngs_length (agesF f bb m e num 126) 121; unfold ageRs at hlen; simp; omega)
    dsimp only [encY] at hy
    have HR := Lib.hid hR; clear hR
    have HI1 := Lib.hid i1; have HI2 := Lib.hid i2; clear i1 i2
    gi_wp2
    refine ⟨rfl, ?_⟩
    refine RoundIn.mono (R := _) (show RoundIn (Fence.wide.inRound l1) _ _ _ _ _ _ _ _ _ from ⟨HR.out.1, fun c cs _ => HR.out.2 c cs (room_wide _)⟩) ?_
    rintro e W3 ⟨rfl, hJ3, hk3, ho3⟩
    gi_wp2
    exact ⟨hJ3, HI2.out.kp hk3, Nat.lt_of_lt_of_le i3 hk3.size⟩
  case done =>
    rintro D xs W5 hD rfl ⟨hj, _, _⟩ hK
    gi_wp2
    refine ⟨by simp, .inl ⟨_, _, rfl, run_takeDeferred hK, ?_⟩⟩
    exact ⟨_, results_none rfl _ _ _, ⟨_, rfl⟩, _, rfl, OwnFrom.putObj HJ.out _ hj (by simp at hD; omega) hK rfl⟩

theorem years_all (Bl Bp Br b off nr cap q : Nat) (num f bb m e : Int) (w : World) (hBl : Bl < w.heap.size) (hown : ∀ k, ownB w Bl = some k → k < w.heap.size)
    (p1 : w.cell? ⟨Bp, 2, none⟩ = some (.slice (some ⟨b, off, none⟩) nr cap)) (r1 : w.cell? ⟨Br, 1, none⟩ = some (.int .i64 (q : Int))) (r2 : w.cell? ⟨Br, 2, none⟩ = some (.int .i64 num))
    (hp : Bp < w.heap.size) (hr : Br < w.heap.size) (hb : b < w.heap.size) (hq : q < nr)
    (c0 : w.cell? ⟨b, off + q * 4, none⟩ = some (.int .i64 f)) (c1 : w.cell? ⟨b, off + q * 4 + 1, none⟩ = some (.int .i64 bb)) (c2 : w.cell? ⟨b, off + q * 4 + 2, none⟩ = some (.int .i64 m)) (c3 : w.cell? ⟨b, off + q * 4 + 3, none⟩ = some (.int .i64 e))
    (hok : okRule f bb m e = true) :
    SeqAll Try.prog 105 #[.pointer (some ⟨Bp, 0, none⟩), .pointer (some ⟨Br, 0, none⟩)] encY (Kp Bl) (fun ys => ys = yearsL (ageRs f bb m e num)) 121 w := fun n l J W hW hJ hY h0 => by
  have ho : ownB W Bl = ownB w Bl := ownB_same (hW.block _ hBl)
  exact years1_in n l Bl Bp Br b off nr cap q num f bb m e J W hJ hY (Nat.lt_of_lt_of_le hBl hW.size) (fun k hk => by rw [ho] at hk; exact Nat.lt_of_lt_of_le (hown k hk) hW.size)
    ((hW.cell (p := ⟨Bp, _, none⟩) hp).trans p1) ((hW.cell (p := ⟨Br, _, none⟩) hr).trans r1) ((hW.cell (p := ⟨Br, _, none⟩) hr).trans r2) (Nat.lt_of_lt_of_le hp hW.size) (Nat.lt_of_lt_of_le hr hW.size) (Nat.lt_of_lt_of_le hb hW.size) hq
    ((hW.cell (p := ⟨b, _, none⟩) hb).trans c0) ((hW.cell (p := ⟨b, _, none⟩) hb).trans c1) ((hW.cell (p := ⟨b, _, none⟩) hb).trans c2) ((hW.cell (p := ⟨b, _, none⟩) hb).trans c3) hok h0
end Go.Proofs.Ytagfcfojfjkmbaa
