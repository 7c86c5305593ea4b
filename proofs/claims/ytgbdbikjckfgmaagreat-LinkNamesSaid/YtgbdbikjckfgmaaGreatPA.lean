/- Age: persons, births, Same; the reference (turned from the Age seat) (1 of 8). -/
import Derived.Test.YtgbdbikjckfgmaaGreatWG
import Derived.BigQuiet
import Derived.Carry
import Derived.Deep.AppendLies
import Derived.Deep.DeepCutAuto
import Derived.Deep.DrawnRows
import Derived.Deep.MidRow
import Derived.Deep.QuietTactic
import Derived.Deep.RegionHeld3
import Derived.Deep.RegionLaw
import Derived.Deep.RegionLawGrows
import Derived.Deep.RegionWith
import Derived.Deep.Slices
import Derived.Deep.Strs
import Derived.Laws.EntriesVeiled
import Derived.Laws.Rows
import Derived.Laws.Tables
import Derived.Lib.Hide
import Derived.Lib.SliceRun
import Derived.Lib.SmallJoins
import Derived.LoopIn
import Derived.LoopNIn
import Derived.LoopTactic
import Derived.Maps.AppendAt
import Derived.OpenShut
import Derived.OrdersHeld
import Derived.OrdersIn
import Derived.Outline
import Derived.OwnWalkIn
import Derived.ProofKit
import Derived.RangeFuncBound
import Derived.RangeFuncCalls
import Derived.RangeFuncLeaves
import Derived.RangeFuncNested
import Derived.Shelf.Abstract
import Derived.Shelf.RegionOpen
import Derived.TacticsInMore
import Derived.WalkKit
import Derived.WalkLawsBesides
import Derived.WalkSpells
namespace Go.Proofs.YtgbdbikjckfgmaaGreat
abbrev RL := List (Int × Int)
/-- n is in some range of l. -/
def hasR (l : RL) (n : Int) : Bool := l.any fun r => decide (r.1 ≤ n) && decide (n ≤ r.2)
/-- Ranges in order, none empty, no two of them touching. -/
def Nrm (l : RL) : Prop := l.Pairwise (fun a b => a.2 + 2 ≤ b.1) ∧ ∀ r ∈ l, r.1 ≤ r.2
theorem hasR_nil (n : Int) : hasR [] n = false := rfl
theorem hasR_cons (r : Int × Int) (l : RL) (n : Int) : hasR (r :: l) n = ((decide (r.1 ≤ n) && decide (n ≤ r.2)) || hasR l n) := rfl
theorem hasR_append (a b : RL) (n : Int) : hasR (a ++ b) n = (hasR a n || hasR b n) := by simp [hasR]
theorem hasR_iff (l : RL) (n : Int) : hasR l n = true ↔ ∃ r ∈ l, r.1 ≤ n ∧ n ≤ r.2 := by simp [hasR]
theorem hasR_false (l : RL) (n : Int) : hasR l n = false ↔ ∀ r ∈ l, ¬ (r.1 ≤ n ∧ n ≤ r.2) := by
  rw [← Bool.not_eq_true, hasR_iff]; simp
theorem Nrm.nil : Nrm [] := ⟨List.Pairwise.nil, by simp⟩
theorem Nrm.cons_iff (r : Int × Int) (l : RL) : Nrm (r :: l) ↔ r.1 ≤ r.2 ∧ (∀ s ∈ l, r.2 + 2 ≤ s.1) ∧ Nrm l := by
  unfold Nrm
  rw [List.pairwise_cons]
  constructor
  · rintro ⟨⟨h1, h2⟩, h3⟩
    exact ⟨h3 r (by simp), h1, h2, fun s hs => h3 s (by simp [hs])⟩
  · rintro ⟨h1, h2, h3, h4⟩
    refine ⟨⟨h2, h3⟩, fun s hs => ?_⟩
    rcases List.mem_cons.1 hs with rfl | h
    · exact h1
    · exact h4 s h
theorem Nrm.tail {r : Int × Int} {l : RL} (h : Nrm (r :: l)) : Nrm l := ((Nrm.cons_iff r l).1 h).2.2
theorem Nrm.snoc_iff (l : RL) (r : Int × Int) : Nrm (l ++ [r]) ↔ Nrm l ∧ r.1 ≤ r.2 ∧ ∀ s ∈ l, s.2 + 2 ≤ r.1 := by
  unfold Nrm
  rw [List.pairwise_append]
  constructor
  · rintro ⟨⟨h1, _, h2⟩, h3⟩
    exact ⟨⟨h1, fun s hs => h3 s (by simp [hs])⟩, h3 r (by simp), fun s hs => h2 s hs r (by simp)⟩
  · rintro ⟨⟨h1, h2⟩, h3, h4⟩
    refine ⟨⟨h1, by simp, fun a ha b hb => ?_⟩, fun s hs => ?_⟩
    · rw [List.mem_singleton] at hb; subst hb; exact h4 a ha
    · rcases List.mem_append.1 hs with h | h
      · exact h2 s h
      · rw [List.mem_singleton] at h; subst h; exact h3
/-- Below its first range a normal list has nothing. -/
theorem Nrm.low {r : Int × Int} {l : RL} (h : Nrm (r :: l)) (n : Int) (hn : n < r.1) : hasR (r :: l) n = false := by
  obtain ⟨h1, h2, h3⟩ := (Nrm.cons_iff r l).1 h
  rw [hasR_false]
  intro s hs
  rcases List.mem_cons.1 hs with rfl | h'
  · omega
  · have := h2 s h'; omega
theorem Nrm.after {r : Int × Int} {l : RL} (h : Nrm (r :: l)) (n : Int) (hn : n ≤ r.2 + 1) : hasR l n = false := by
  obtain ⟨h1, h2, h3⟩ := (Nrm.cons_iff r l).1 h
  rw [hasR_false]
  intro s hs
  have := h2 s hs; omega
theorem Nrm.first {r : Int × Int} {l : RL} (h : Nrm (r :: l)) : hasR (r :: l) r.1 = true := by
  have := ((Nrm.cons_iff r l).1 h).1
  rw [hasR_iff]; exact ⟨r, by simp, by omega, by omega⟩
/-- A normal list is told by its members. -/
theorem Nrm.ext {a b : RL} (ha : Nrm a) (hb : Nrm b) (h : ∀ n, hasR a n = hasR b n) : a = b := by
  induction a generalizing b with
  | nil =>
    cases b with
    | nil => rfl
    | cons s b => have := hb.first; rw [← h] at this; simp [hasR] at this
  | cons r a ih =>
    cases b with
    | nil => have := ha.first; rw [h] at this; simp [hasR] at this
    | cons s b =>
      have e1 : r.1 = s.1 := by
        rcases Int.lt_trichotomy r.1 s.1 with hl | he | hl
        · have h1 := ha.first; rw [h, hb.low _ hl] at h1; cases h1
        · exact he
        · have h1 := hb.first; rw [← h, ha.low _ hl] at h1; cases h1
      have hra := ((Nrm.cons_iff r a).1 ha).1
      have hsb := ((Nrm.cons_iff s b).1 hb).1
      have e2 : r.2 = s.2 := by
        rcases Int.lt_trichotomy r.2 s.2 with hl | he | hl
        · have h1 := h (r.2 + 1)
          rw [hasR_cons, hasR_cons, ha.after (r.2 + 1) (by omega), hb.after (r.2 + 1) (by omega)] at h1
          simp only [Bool.or_false] at h1
          rw [Bool.eq_iff_iff] at h1; simp at h1; omega
        · exact he
        · have h1 := h (s.2 + 1)
          rw [hasR_cons, hasR_cons, ha.after (s.2 + 1) (by omega), hb.after (s.2 + 1) (by omega)] at h1
          simp only [Bool.or_false] at h1
          rw [Bool.eq_iff_iff] at h1; simp at h1; omega
      have e : r = s := Prod.ext e1 e2
      subst e
      rw [ih ha.tail hb.tail]
      intro n
      by_cases hn : n ≤ r.2 + 1
      · rw [ha.after n hn, hb.after n hn]
      · have h1 := h n
        rw [hasR_cons, hasR_cons, show (decide (r.1 ≤ n) && decide (n ≤ r.2)) = false from by simp; omega] at h1
        simpa using h1
/-- What is in both of two lists: the program's way. -/
def meetF : Nat → RL → RL → RL
  | k + 1, x :: a, y :: b => (if max x.1 y.1 ≤ min x.2 y.2 then [(max x.1 y.1, min x.2 y.2)] else []) ++ (if x.2 < y.2 then meetF k a (y :: b) else meetF k (x :: a) b)
  | _, _, _ => []
def meetL (a b : RL) : RL := meetF (a.length + b.length) a b
theorem meetL_nil_left (b : RL) : meetL [] b = [] := by unfold meetL; cases b <;> simp [meetF]
theorem meetL_nil_right (a : RL) : meetL a [] = [] := by unfold meetL; cases a <;> simp [meetF]
theorem meetL_cons (x y : Int × Int) (a b : RL) : meetL (x :: a) (y :: b) = (if max x.1 y.1 ≤ min x.2 y.2 then [(max x.1 y.1, min x.2 y.2)] else []) ++ (if x.2 < y.2 then meetL a (y :: b) else meetL (x :: a) b) := by
  unfold meetL
  rw [show (x :: a).length + (y :: b).length = (a.length + b.length + 1) + 1 from by simp; omega, meetF]
  congr 1
  split
  · rw [show a.length + (y :: b).length = a.length + b.length + 1 from by simp; omega]
  · rw [show (x :: a).length + b.length = a.length + b.length + 1 from by simp; omega]
theorem meetF_facts (k : Nat) : ∀ (a b : RL), a.length + b.length ≤ k → Nrm a → Nrm b → Nrm (meetL a b) ∧ (∀ n, hasR (meetL a b) n = (hasR a n && hasR b n)) ∧ (∀ r ∈ meetL a b, (∃ x ∈ a, x.1 ≤ r.1 ∧ r.2 ≤ x.2) ∧ ∃ y ∈ b, y.1 ≤ r.1 ∧ r.2 ≤ y.2) := by
  induction k with
  | zero =>
    intro a b hl _ _
    have : a = [] := by cases a <;> simp_all
    subst this
    rw [meetL_nil_left]
    exact ⟨Nrm.nil, fun n => by simp [hasR], by simp⟩
  | succ k ih =>
    intro a b hl ha hb
    cases a with
    | nil => rw [meetL_nil_left]; exact ⟨Nrm.nil, fun n => by simp [hasR], by simp⟩
    | cons x a =>
      cases b with
      | nil => rw [meetL_nil_right]; exact ⟨Nrm.nil, fun n => by simp [hasR], by simp⟩
      | cons y b =>
        rw [meetL_cons]
        have hx := (Nrm.cons_iff x a).1 ha
        have hy := (Nrm.cons_iff y b).1 hb
        simp only [List.length_cons] at hl
        by_cases hc : x.2 < y.2
        · rw [if_pos hc]
          obtain ⟨i1, i2, i3⟩ := ih a (y :: b) (by simp; omega) ha.tail hb
          have far : ∀ s ∈ meetL a (y :: b), x.2 + 2 ≤ s.1 := fun s hs => by
            obtain ⟨⟨x', hx', h1, _⟩, _⟩ := i3 s hs
            have := hx.2.1 x' hx'; omega
          have mem : ∀ s ∈ meetL a (y :: b), (∃ x' ∈ x :: a, x'.1 ≤ s.1 ∧ s.2 ≤ x'.2) ∧ ∃ y' ∈ y :: b, y'.1 ≤ s.1 ∧ s.2 ≤ y'.2 := fun s hs => by
            obtain ⟨⟨x', hx', h1⟩, h2⟩ := i3 s hs
            exact ⟨⟨x', by simp [hx'], h1⟩, h2⟩
          have key : ∀ n, (hasR (x :: a) n && hasR (y :: b) n) = ((decide (max x.1 y.1 ≤ n) && decide (n ≤ min x.2 y.2)) || (hasR a n && hasR (y :: b) n)) := by
            intro n
            rw [hasR_cons x, Bool.and_or_distrib_right]
            congr 1
            by_cases h : x.1 ≤ n ∧ n ≤ x.2
            · rw [hasR_cons y, hb.after n (by omega), Bool.eq_iff_iff]; simp; omega
            · rw [show (decide (x.1 ≤ n) && decide (n ≤ x.2)) = false from by simp; omega]
              rw [show (decide (max x.1 y.1 ≤ n) && decide (n ≤ min x.2 y.2)) = false from by simp; omega]; simp
          split
          · rename_i hm
            refine ⟨?_, fun n => ?_, ?_⟩
            · refine (Nrm.cons_iff _ _).2 ⟨hm, fun s hs => ?_, i1⟩
              have := far s hs
              show min x.2 y.2 + 2 ≤ s.1
              omega
            · rw [key n, List.singleton_append, hasR_cons, i2 n]
            · intro r hr
              rcases List.mem_cons.1 hr with rfl | h
              · exact ⟨⟨x, by simp, by show x.1 ≤ max _ _; omega, by show min _ _ ≤ x.2; omega⟩, ⟨y, by simp, by show y.1 ≤ max _ _; omega, by show min _ _ ≤ y.2; omega⟩⟩
              · exact mem r h
          · rename_i hm
            refine ⟨i1, fun n => ?_, mem⟩
            rw [key n, List.nil_append, i2 n]
            rw [show (decide (max x.1 y.1 ≤ n) && decide (n ≤ min x.2 y.2)) = false from by simp; omega]; simp
        · rw [if_neg hc]
          obtain ⟨i1, i2, i3⟩ := ih (x :: a) b (by simp; omega) ha hb.tail
          have far : ∀ s ∈ meetL (x :: a) b, y.2 + 2 ≤ s.1 := fun s hs => by
            obtain ⟨_, ⟨x', hx', h1, _⟩⟩ := i3 s hs
            have := hy.2.1 x' hx'; omega
          have mem : ∀ s ∈ meetL (x :: a) b, (∃ x' ∈ x :: a, x'.1 ≤ s.1 ∧ s.2 ≤ x'.2) ∧ ∃ y' ∈ y :: b, y'.1 ≤ s.1 ∧ s.2 ≤ y'.2 := fun s hs => by
            obtain ⟨h2, ⟨x', hx', h1⟩⟩ := i3 s hs
            exact ⟨h2, ⟨x', by simp [hx'], h1⟩⟩
          have key : ∀ n, (hasR (x :: a) n && hasR (y :: b) n) = ((decide (max x.1 y.1 ≤ n) && decide (n ≤ min x.2 y.2)) || (hasR (x :: a) n && hasR b n)) := by
            intro n
            rw [hasR_cons y, Bool.and_or_distrib_left]
            congr 1
            by_cases h : y.1 ≤ n ∧ n ≤ y.2
            · rw [hasR_cons x, ha.after n (by omega), Bool.eq_iff_iff]; simp; omega
            · rw [show (decide (y.1 ≤ n) && decide (n ≤ y.2)) = false from by simp; omega]
              rw [show (decide (max x.1 y.1 ≤ n) && decide (n ≤ min x.2 y.2)) = false from by simp; omega]; simp
          split
          · rename_i hm
            refine ⟨?_, fun n => ?_, ?_⟩
            · refine (Nrm.cons_iff _ _).2 ⟨hm, fun s hs => ?_, i1⟩
              have := far s hs
              show min x.2 y.2 + 2 ≤ s.1
              omega
            · rw [key n, List.singleton_append, hasR_cons, i2 n]
            · intro r hr
              rcases List.mem_cons.1 hr with rfl | h
              · exact ⟨⟨x, by simp, by show x.1 ≤ max _ _; omega, by show min _ _ ≤ x.2; omega⟩, ⟨y, by simp, by show y.1 ≤ max _ _; omega, by show min _ _ ≤ y.2; omega⟩⟩
              · exact mem r h
          · rename_i hm
            refine ⟨i1, fun n => ?_, mem⟩
            rw [key n, List.nil_append, i2 n]
            rw [show (decide (max x.1 y.1 ≤ n) && decide (n ≤ min x.2 y.2)) = false from by simp; omega]; simp
theorem meetL_nrm {a b : RL} (ha : Nrm a) (hb : Nrm b) : Nrm (meetL a b) := (meetF_facts _ a b (Nat.le_refl _) ha hb).1
theorem meetL_has {a b : RL} (ha : Nrm a) (hb : Nrm b) (n : Int) : hasR (meetL a b) n = (hasR a n && hasR b n) := (meetF_facts _ a b (Nat.le_refl _) ha hb).2.1 n
theorem meetL_length (k : Nat) : ∀ (a b : RL), a.length + b.length ≤ k → (meetL a b).length ≤ a.length + b.length := by
  induction k with
  | zero => intro a b hl; have : a = [] := by cases a <;> simp_all
            subst this; rw [meetL_nil_left]; simp
  | succ k ih =>
    intro a b hl
    cases a with
    | nil => rw [meetL_nil_left]; simp
    | cons x a =>
      cases b with
      | nil => rw [meetL_nil_right]; simp
      | cons y b =>
        rw [meetL_cons]
        simp only [List.length_cons] at hl
        have h1 := ih a (y :: b) (by simp; omega)
        have h2 := ih (x :: a) b (by simp; omega)
        simp only [List.length_cons, List.length_append] at h1 h2 ⊢
        split <;> split <;> simp <;> omega
theorem meetL_bd (k : Nat) (B : Int) : ∀ (a b : RL), a.length + b.length ≤ k → (∀ r ∈ a, -B ≤ r.1 ∧ r.1 ≤ B ∧ -B ≤ r.2 ∧ r.2 ≤ B) → (∀ r ∈ b, -B ≤ r.1 ∧ r.1 ≤ B ∧ -B ≤ r.2 ∧ r.2 ≤ B) → ∀ r ∈ meetL a b, -B ≤ r.1 ∧ r.1 ≤ B ∧ -B ≤ r.2 ∧ r.2 ≤ B := by
  induction k with
  | zero => intro a b hl _ _; have : a = [] := by cases a <;> simp_all
            subst this; rw [meetL_nil_left]; simp
  | succ k ih =>
    intro a b hl ha hb
    cases a with
    | nil => rw [meetL_nil_left]; simp
    | cons x a =>
      cases b with
      | nil => rw [meetL_nil_right]; simp
      | cons y b =>
        rw [meetL_cons]
        simp only [List.length_cons] at hl
        have h1 := ih a (y :: b) (by simp; omega) (fun r hr => ha r (by simp [hr])) hb
        have h2 := ih (x :: a) b (by simp; omega) ha (fun r hr => hb r (by simp [hr]))
        have hx := ha x (by simp)
        have hy := hb y (by simp)
        intro r hr
        rcases List.mem_append.1 hr with h | h
        · split at h
          · simp only [List.mem_singleton] at h; subst h; simp only; omega
          · simp at h
        · split at h
          · exact h1 r h
          · exact h2 r h
end Go.Proofs.YtgbdbikjckfgmaaGreat
namespace Go.Proofs.YtgbdbikjckfgmaaGreat
open Go.RowKit
set_option maxHeartbeats 400000 in
theorem within_any (a b c : Int) (w : World) :
    Calls Tryz.prog 122 #[.int .i64 a, .int .i64 b, .int .i64 c] w fun e w' => e = .returned (.bool (inB a b c)) ∧ w = w' := by
  go_enter Tryz.func122, Tryz.ntmps122
  go_wp2
  all_goals go_ret
  all_goals (refine ⟨?_, rfl⟩; congr 2; simp [inB]; omega)
set_option maxHeartbeats 400000 in
theorem isDay_any (a : Int) (w : World) :
    Calls Tryz.prog 97 #[.int .i64 a] w fun e w' => e = .returned (.bool (inB a (-50000) 50000)) ∧ w = w' := by
  go_enter Tryz.func97, Tryz.ntmps97
  go_wp2_with (go_at_call 122; refine (within_any _ _ _ _).mono ?_; rintro e w' ⟨rfl, rfl⟩)
  go_ret
  exact ⟨rfl, rfl⟩
set_option maxHeartbeats 400000 in
theorem isWritten_any (a : Int) (w : World) :
    Calls Tryz.prog 123 #[.int .i64 a] w fun e w' => e = .returned (.bool (inB a 0 140)) ∧ w = w' := by
  go_enter Tryz.func123, Tryz.ntmps123
  go_wp2_with (go_at_call 122; refine (within_any _ _ _ _).mono ?_; rintro e w' ⟨rfl, rfl⟩)
  go_ret
  exact ⟨rfl, rfl⟩
def ruleV (f b m e : Int) : Value := .agg #[.int .i64 f, .int .i64 b, .int .i64 m, .int .i64 e]
def okRule (f b m e : Int) : Bool := inB f 0 120 && inB b 1 12 && inB m 0 1 && inB e 0 5
set_option maxHeartbeats 400000 in
theorem down_any (f b m e k : Int) (w : World) (hb : 1 ≤ b) (hb2 : b ≤ 12) (hk : 0 ≤ k) (hk2 : k ≤ 1000) :
    Calls Tryz.prog 171 #[ruleV f b m e, .int .i64 k] w fun r w' => r = .returned (.int .i64 (k - k % b)) ∧ Below w.heap.size w w' := by
  unfold ruleV
  have h1 := Int.emod_nonneg k (by omega : b ≠ 0)
  have h2 := Int.emod_lt_of_pos k (by omega : 0 < b)
  have hbz : (b == 0) = false := by simp; omega
  have hbm : (b == -1) = false := by simp; omega
  go_enter Tryz.func171, Tryz.ntmps171
  go_wp2
  go_ret
  exact ⟨rfl, (Below.refl _ _).alloc (Nat.le_refl _) _⟩
set_option maxHeartbeats 400000 in
theorem near_any (f b m e k : Int) (w : World) (hb : 1 ≤ b) (hb2 : b ≤ 12) (hk : 0 ≤ k) (hk2 : k ≤ 900) :
    Calls Tryz.prog 172 #[ruleV f b m e, .int .i64 k] w fun r w' => r = .returned (.int .i64 (k + b / 2 - (k + b / 2) % b)) ∧ Below w.heap.size w w' := by
  unfold ruleV
  go_enter Tryz.func172, Tryz.ntmps172
  go_wp2_with (go_at_call 171; refine (down_any _ _ _ _ _ _ (by omega) (by omega) (by omega) (by omega)).mono ?_; rintro e w' ⟨rfl, hb⟩)
  go_ret
  exact ⟨rfl, ((Below.refl _ _).alloc (Nat.le_refl _) _).trans (hb.mono (by simp))⟩
end Go.Proofs.YtgbdbikjckfgmaaGreat
namespace Go.Proofs.YtgbdbikjckfgmaaGreat
open Go.RowKit
theorem bcell {W w1 : World} (hb : Below W.heap.size W w1) : (∀ b o, b < W.heap.size → w1.cell? ⟨b, o, none⟩ = W.cell? ⟨b, o, none⟩) ∧ (∀ b o, b < W.heap.size → w1.frozen? ⟨b, o, none⟩ = W.frozen? ⟨b, o, none⟩) :=
  ⟨fun b o h => hb.cell (p := ⟨b, o, none⟩) h, fun b o h => hb.frozen (p := ⟨b, o, none⟩) h⟩
set_option maxHeartbeats 400000 in
theorem min2_any (b : Nat) (x y : Int) (w : World) (h0 : w.cell? ⟨b, 0, none⟩ = some (.int .i64 x)) (h1 : w.cell? ⟨b, 1, none⟩ = some (.int .i64 y)) :
    Calls Tryz.prog 163 #[.slice (some ⟨b, 0, none⟩) 2 2] w fun e w' => e = .returned (.int .i64 (min x y)) ∧ w = w' := by
  go_enter Tryz.func163, Tryz.ntmps163
  go_wp2
  go_loop [3, 4] (fun n i => (n = .int .i64 x ∧ i = .int .i64 1) ∨ (n = .int .i64 (min x y) ∧ i = .int .i64 2)) (fun _ i => 2 - (intOf i).toNat)
  case atStart => exact .inl ⟨rfl, rfl⟩
  case round =>
    rcases hrel with ⟨rfl, rfl⟩ | ⟨rfl, rfl⟩
    · go_wp2
      go_round
      case rel => exact .inr ⟨by congr 1; omega, rfl⟩
      case measure => simp [intOf]
    · go_wp2
      go_ret
      exact ⟨rfl, rfl⟩
set_option maxHeartbeats 400000 in
theorem smallest_any (b : Nat) (x y : Int) (w : World) (h0 : w.cell? ⟨b, 0, none⟩ = some (.int .i64 x)) (h1 : w.cell? ⟨b, 1, none⟩ = some (.int .i64 y)) :
    Calls Tryz.prog 160 #[.slice (some ⟨b, 0, none⟩) 2 2] w fun e w' => e = .returned (.int .i64 (min x y)) ∧ w = w' := by
  go_enter Tryz.func160, Tryz.ntmps160
  go_wp2_with (go_at_call 163; refine (min2_any _ x y _ h0 h1).mono ?_; rintro e w' ⟨rfl, rfl⟩)
  go_ret
  exact ⟨rfl, rfl⟩
set_option maxHeartbeats 400000 in
theorem modes_any (w : World) :
    Calls Tryz.prog 170 #[] w fun e w' => e = .returned (.slice (some ⟨w.heap.size, 0, none⟩) 2 2) ∧ w' = w.alloc (.cells #[.func (.func 171) #[] #[], .func (.func 172) #[] #[]] 238) := by
  go_enter Tryz.func170, Tryz.ntmps170
  go_wp2
  go_ret
  exact ⟨rfl, rfl⟩
def wrt (f b m k : Int) : Int := if k < f then k else if m = 0 then k - k % b else k + b / 2 - (k + b / 2) % b
set_option maxHeartbeats 400000 in
theorem write_lo (f b m e k : Int) (w : World) (h : k < f) :
    Calls Tryz.prog 168 #[ruleV f b m e, .int .i64 k] w fun r w' => r = .returned (.int .i64 k) ∧ Below w.heap.size w w' := by
  unfold ruleV
  go_enter Tryz.func168, Tryz.ntmps168
  go_wp2
  go_ret
  exact ⟨rfl, (Below.refl _ _).alloc (Nat.le_refl _) _⟩
attribute [local go_sem ↓] Go.wp_at_zero Go.wp_at_succ
set_option maxHeartbeats 1000000 in
theorem write_hi0 (f b e k : Int) (w : World) (h : f ≤ k) (hb : 1 ≤ b) (hb2 : b ≤ 12) (hk : 0 ≤ k) (hk2 : k ≤ 800) :
    Calls Tryz.prog 168 #[ruleV f b 0 e, .int .i64 k] w fun r w' => r = .returned (.int .i64 (wrt f b 0 k)) ∧ Below w.heap.size w w' := by
  have hd : ∀ W, Calls Tryz.prog 171 #[.agg #[.int .i64 f, .int .i64 b, .int .i64 0, .int .i64 e], .int .i64 k] W fun r w' => r = .returned (.int .i64 (k - k % b)) ∧ Below W.heap.size W w' := fun W => down_any f b 0 e k W hb hb2 hk (by omega)
  have HD := Lib.hid hd; clear hd
  have hv : wrt f b 0 k = k - k % b := by unfold wrt; rw [if_neg (by omega), if_pos rfl]
  have HV := Lib.hid hv; clear hv
  unfold ruleV
  go_enter Tryz.func168, Tryz.ntmps168
  go_wp2
  go_region_with (first | (go_at_call 170; refine (modes_any _).mono ?_; rintro e w' ⟨rfl, rfl⟩) | (go_at_call 171; refine (HD.out _).mono ?_; rintro e w' ⟨rfl, hb⟩))
  all_goals (go_wp2; go_ret; exact ⟨(show Ending.returned (.int .i64 _) = _ from by rw [HV.out]), (((Below.refl _ _).alloc (Nat.le_refl _) _).alloc (by simp) _).drew.trans (hb.mono (by simp; omega))⟩)
set_option maxHeartbeats 1000000 in
theorem write_hi1 (f b e k : Int) (w : World) (h : f ≤ k) (hb : 1 ≤ b) (hb2 : b ≤ 12) (hk : 0 ≤ k) (hk2 : k ≤ 800) :
    Calls Tryz.prog 168 #[ruleV f b 1 e, .int .i64 k] w fun r w' => r = .returned (.int .i64 (wrt f b 1 k)) ∧ Below w.heap.size w w' := by
  have hd : ∀ W, Calls Tryz.prog 172 #[.agg #[.int .i64 f, .int .i64 b, .int .i64 1, .int .i64 e], .int .i64 k] W fun r w' => r = .returned (.int .i64 (k + b / 2 - (k + b / 2) % b)) ∧ Below W.heap.size W w' := fun W => near_any f b 1 e k W hb hb2 hk (by omega)
  have HD := Lib.hid hd; clear hd
  have hv : wrt f b 1 k = k + b / 2 - (k + b / 2) % b := by unfold wrt; rw [if_neg (by omega), if_neg (by decide)]
  have HV := Lib.hid hv; clear hv
  unfold ruleV
  go_enter Tryz.func168, Tryz.ntmps168
  go_wp2
  go_region_with (first | (go_at_call 170; refine (modes_any _).mono ?_; rintro e w' ⟨rfl, rfl⟩) | (go_at_call 172; refine (HD.out _).mono ?_; rintro e w' ⟨rfl, hb⟩))
  all_goals (go_wp2; go_ret; exact ⟨(show Ending.returned (.int .i64 _) = _ from by rw [HV.out]), (((Below.refl _ _).alloc (Nat.le_refl _) _).alloc (by simp) _).drew.trans (hb.mono (by simp; omega))⟩)
theorem write_any (f b m e k : Int) (w : World) (hb : 1 ≤ b) (hb2 : b ≤ 12) (hm : 0 ≤ m) (hm1 : m ≤ 1) (hk : 0 ≤ k) (hk2 : k ≤ 800) :
    Calls Tryz.prog 168 #[ruleV f b m e, .int .i64 k] w fun r w' => r = .returned (.int .i64 (wrt f b m k)) ∧ Below w.heap.size w w' := by
  by_cases h : k < f
  · refine (write_lo f b m e k w h).mono ?_
    rintro r w' ⟨rfl, hb⟩
    exact ⟨by unfold wrt; rw [if_pos h], hb⟩
  · have : m = 0 ∨ m = 1 := by omega
    rcases this with rfl | rfl
    · exact write_hi0 f b e k w (by omega) hb hb2 hk hk2
    · exact write_hi1 f b e k w (by omega) hb hb2 hk hk2
end Go.Proofs.YtgbdbikjckfgmaaGreat
namespace Go.Proofs.YtgbdbikjckfgmaaGreat
open Go.RowKit
set_option maxHeartbeats 1000000 in
theorem valid_any (f b m e : Int) (w : World) :
    Calls Tryz.prog 99 #[ruleV f b m e] w fun r w' => r = .returned (.bool (okRule f b m e)) ∧ Below w.heap.size w w' := by
  unfold ruleV
  go_enter Tryz.func99, Tryz.ntmps99
  go_wp2_with (go_at_call 122; refine (within_any _ _ _ _).mono ?_; rintro e w' ⟨rfl, rfl⟩)
  all_goals go_ret
  all_goals exact ⟨by simp [okRule, *], (Below.refl _ _).alloc (Nat.le_refl _) _⟩
def flat (l : List (Int × Int)) : List Value := l.flatMap fun r => [.int .i64 r.1, .int .i64 r.2]
def RS (w : World) (base : Nat) (v : Value) (l : List (Int × Int)) : Prop := w.ownsRow base 94 2 v l.length (flat l)
theorem flat_append (a b : List (Int × Int)) : flat (a ++ b) = flat a ++ flat b := by simp [flat]
theorem flat_length (a : List (Int × Int)) : (flat a).length = a.length * 2 := by
  induction a with
  | nil => rfl
  | cons x l ih => simp only [flat, List.flatMap_cons, List.length_append] at ih ⊢; rw [ih]; simp; omega
theorem RS.mono {w : World} {b b' : Nat} {v : Value} {l : List (Int × Int)} (h : RS w b v l) (hb : b' ≤ b) : RS w b' v l := by
  obtain ⟨h1, h2⟩ := h
  refine ⟨h1, h2.imp id ?_⟩
  rintro ⟨g, cap, cur, r1, r2, r⟩
  exact ⟨g, cap, cur, r1, by omega, r⟩
set_option maxHeartbeats 1000000 in
theorem extended_join (g n cap : Nat) (lo hi b : Int) (w : World) (hn : n + 1 ≤ 100000)
    (h0 : w.cell? ⟨g, n * 2 + 1, none⟩ = some (.int .i64 b)) (hf : w.frozen? ⟨g, n * 2 + 1, none⟩ = false) (hb : -1000000000 ≤ b) (hb2 : b ≤ 1000000000) (hlo : lo ≤ b + 1) :
    Calls Tryz.prog 162 #[.slice (some ⟨g, 0, none⟩) (n + 1) cap, .int .i64 lo, .int .i64 hi] w fun e w' => e = .returned (.slice (some ⟨g, 0, none⟩) (n + 1) cap) ∧ w' = w.setCell ⟨g, n * 2 + 1, none⟩ (.int .i64 (max b hi)) := by
  go_enter Tryz.func162, Tryz.ntmps162
  go_wp2
  all_goals go_ret
  all_goals (refine ⟨rfl, ?_⟩; first | rw [show max b hi = hi from by omega] | rw [show max b hi = b from by omega])
theorem Tryz.infoRange : (Tryz.prog.info? 94).map (fun i => (i.zero, i.size, i.bytes)) = some (some (.agg #[.int .i64 0, .int .i64 0]), 2, 16) := by kernel_rfl
/-- A new value that owns xs, where v was before: only v's row has been written, or a new one was made. -/
def GivesX (w : World) (base : Nat) (v : Value) (n : Nat) (xs : List Value) (e : Ending) (w' : World) : Prop :=
  ∃ v', e = .returned v' ∧ w'.ownsRow base 94 2 v' n xs ∧ w.grownBy w' v.ownBlock ∧ (v'.ownBlock = v.ownBlock ∨ ∀ k, v'.ownBlock = some k → w.heap.size ≤ k)
def GivesG (w : World) (base : Nat) (v : Value) (l : List (Int × Int)) (e : Ending) (w' : World) : Prop :=
  ∃ v', e = .returned v' ∧ RS w' base v' l ∧ w.grownBy w' v.ownBlock ∧ (v'.ownBlock = v.ownBlock ∨ ∀ k, v'.ownBlock = some k → w.heap.size ≤ k)
def Gives (w : World) (base : Nat) (l : List (Int × Int)) (e : Ending) (w' : World) : Prop := ∃ v, e = .returned v ∧ RS w' base v l ∧ Below base w w'
set_option maxHeartbeats 1000000 in
theorem extended_first (a : Option Addr) (base cap : Nat) (lo hi : Int) (w : World) (hbase : base ≤ w.heap.size) (hown : w.ownsRow base 94 2 (.slice a 0 cap) 0 []) :
    Calls Tryz.prog 162 #[.slice a 0 cap, .int .i64 lo, .int .i64 hi] w (GivesG w base (.slice a 0 cap) [(lo, hi)]) := by
  obtain ⟨i0, hi0, hz0, hz1, hz2⟩ := info_parts Tryz.infoRange
  go_enter Tryz.func162, Tryz.ntmps162
  go_wp2_with (at_builtin; refine wpList_append_own_at _ rfl _ _ 210 rfl base 94 i0 (.agg #[.int .i64 0, .int .i64 0]) 2 16 Tryz.underlying210 hi0 hz0 hz1 hz2 rfl (by decide) (.slice a 0 cap) 0 [] rfl (hown.alloc _) ⟨w.heap.size, 0, none⟩ 1 1 [.int .i64 lo, .int .i64 hi] rfl rfl ?c1 ?c2 ?c3 ?c4 ?c5 ?_)
  case c1 => exact World.news_of_block (heap_alloc_new w _)
  case c2 => simp [Value.oneCell']
  case c3 => unfold maxLen; omega
  case c4 => omega
  case c5 => simp; omega
  intro v' w1 h1 h2 _ h4
  have H2 := Lib.hid h2
  have H4 := Lib.hid h4
  clear h2 h4
  go_wp2
  go_ret
  exact ⟨v', rfl, h1, grown_alloc H2.out, H4.out.imp id (fun e k hk => by have := Option.some.inj (e.symm.trans hk); omega)⟩
set_option maxRecDepth 100000 in
set_option maxHeartbeats 1000000 in
theorem extended_push (g n cap base : Nat) (lo hi b : Int) (xs : List Value) (w : World) (hn : n + 1 ≤ 100000) (hbase : base ≤ w.heap.size)
    (h0 : w.cell? ⟨g, n * 2 + 1, none⟩ = some (.int .i64 b)) (hb : -1000000000 ≤ b) (hb2 : b ≤ 1000000000) (hlo : b + 1 < lo) (hown : w.ownsRow base 94 2 (.slice (some ⟨g, 0, none⟩) (n + 1) cap) (n + 1) xs) :
    Calls Tryz.prog 162 #[.slice (some ⟨g, 0, none⟩) (n + 1) cap, .int .i64 lo, .int .i64 hi] w (GivesX w base (.slice (some ⟨g, 0, none⟩) (n + 1) cap) (n + 1 + 1) (xs ++ [.int .i64 lo, .int .i64 hi])) := by
  obtain ⟨i0, hi0, hz0, hz1, hz2⟩ := info_parts Tryz.infoRange
  have HO := Lib.hid hown; clear hown
  go_enter Tryz.func162, Tryz.ntmps162
  go_wp2_with (at_builtin; refine wpList_append_own_at _ rfl _ _ 210 rfl base 94 i0 (.agg #[.int .i64 0, .int .i64 0]) 2 16 Tryz.underlying210 hi0 hz0 hz1 hz2 rfl (by decide) (.slice (some ⟨g, 0, none⟩) (n + 1) cap) (n + 1) xs rfl (World.ownsRow.alloc HO.out _) ⟨w.heap.size, 0, none⟩ 1 1 [.int .i64 lo, .int .i64 hi] rfl rfl ?c1 ?c2 ?c3 ?c4 ?c5 ?_)
  case c1 => exact World.news_of_block (heap_alloc_new w _)
  case c2 => simp [Value.oneCell']
  case c3 => unfold maxLen; omega
  case c4 => omega
  case c5 => simp; omega
  intro v' w1 h1 h2 _ h4
  have H2 := Lib.hid h2
  have H4 := Lib.hid h4
  clear h2 h4
  go_wp2
  go_ret
  exact ⟨v', rfl, h1, grown_alloc H2.out, H4.out.imp id (fun e k hk => by have := Option.some.inj (e.symm.trans hk); omega)⟩
end Go.Proofs.YtgbdbikjckfgmaaGreat
namespace Go.Proofs.YtgbdbikjckfgmaaGreat
open Go.RowKit
def flagsL (fl : Nat → Bool) : List Value := (List.range 121).map fun i => Value.bool (fl i)
def flagsA (fl : Nat → Bool) : Array Value := (flagsL fl).toArray
theorem flagsA_size (fl : Nat → Bool) : (flagsA fl).size = 121 := by simp [flagsA, flagsL]
theorem flagsA_zero : Tryz.zeroCells228 = flagsA fun _ => false := by kernel_rfl
theorem flagsA_get (fl : Nat → Bool) (i : Nat) (h : i < 121) : (flagsA fl)[i]? = some (.bool (fl i)) := by simp [flagsA, flagsL, h]
theorem flagsA_one (fl : Nat → Bool) : (flagsA fl).all (·.oneCell') = true := by
  rw [Array.all_eq_true]; intro i h; simp [flagsA, flagsL, Value.oneCell']
theorem flagsA_set (fl : Nat → Bool) (i : Nat) : (flagsA fl).setIfInBounds i (.bool true) = flagsA fun k => fl k || decide (k = i) := by
  apply Array.ext_getElem?
  intro j
  rw [Array.getElem?_setIfInBounds]
  by_cases hj : j < 121
  · rw [flagsA_get _ _ hj]
    by_cases e : i = j
    · subst e; rw [if_pos rfl, if_pos (by rw [flagsA_size]; exact hj), flagsA_get _ _ hj]; simp
    · rw [if_neg e, flagsA_get _ _ hj]; simp [Ne.symm e]
  · have h1 : (flagsA fun k => fl k || decide (k = i)).size ≤ j := by rw [flagsA_size]; omega
    have h2 : (flagsA fl).size ≤ j := by rw [flagsA_size]; omega
    rw [Array.getElem?_eq_none h1, Array.getElem?_eq_none h2]
    by_cases e : i = j
    · subst e; simp [flagsA_size, hj]
    · rw [if_neg e]
theorem flagsA_congr {f g : Nat → Bool} (h : ∀ i, i < 121 → f i = g i) : flagsA f = flagsA g := by
  unfold flagsA flagsL
  congr 1
  apply List.map_congr_left
  intro a ha
  rw [h a (by simpa using ha)]
/-- The true ages of n after the first k known ages. -/
def agesF (f b m e n : Int) (k : Nat) (i : Nat) : Bool := (List.range k).any fun q => (wrt f b m q == n) && (decide ((q : Int) - e ≤ i) && decide ((i : Int) ≤ q + e))
theorem agesF_zero (f b m e n : Int) : agesF f b m e n 0 = fun _ => false := by funext i; simp [agesF]
theorem agesF_succ (f b m e n : Int) (k i : Nat) : agesF f b m e n (k + 1) i = (agesF f b m e n k i || ((wrt f b m k == n) && (decide ((k : Int) - e ≤ i) && decide ((i : Int) ≤ k + e)))) := by
  unfold agesF; rw [List.range_succ, List.any_append]; simp
def agesM (f b m e n : Int) (k : Nat) (j : Int) (i : Nat) : Bool := agesF f b m e n k i || (decide ((k : Int) - e ≤ i) && decide ((i : Int) < j))
def AgesIn (w : World) (f b m e : Int) (fl : Nat → Bool) (wr : World) : Prop :=
  wr.heap[w.heap.size + 1]? = some (.cells (flagsA fl) 228 (0, 0)) ∧ Below (w.heap.size + 1) (w.alloc (.cells #[.int .i64 f, .int .i64 b, .int .i64 m, .int .i64 e] 156)) wr
theorem AgesIn.cells {w : World} {f b m e : Int} {fl : Nat → Bool} {wr : World} (h : AgesIn w f b m e fl wr) :
    wr.cell? ⟨w.heap.size, 0, none⟩ = some (.int .i64 f) ∧ wr.cell? ⟨w.heap.size, 1, none⟩ = some (.int .i64 b) ∧ wr.cell? ⟨w.heap.size, 2, none⟩ = some (.int .i64 m) ∧ wr.cell? ⟨w.heap.size, 3, none⟩ = some (.int .i64 e) ∧ w.heap.size + 1 < wr.heap.size := by
  obtain ⟨h1, h2⟩ := h
  refine ⟨?_, ?_, ?_, ?_, ?_⟩
  · rw [h2.cell (p := ⟨w.heap.size, 0, none⟩) (by simp), cell_of_row _ _ 0 _ _ _ (heap_alloc_new w _)]; rfl
  · rw [h2.cell (p := ⟨w.heap.size, 1, none⟩) (by simp), cell_of_row _ _ 1 _ _ _ (heap_alloc_new w _)]; rfl
  · rw [h2.cell (p := ⟨w.heap.size, 2, none⟩) (by simp), cell_of_row _ _ 2 _ _ _ (heap_alloc_new w _)]; rfl
  · rw [h2.cell (p := ⟨w.heap.size, 3, none⟩) (by simp), cell_of_row _ _ 3 _ _ _ (heap_alloc_new w _)]; rfl
  · exact (Array.getElem?_eq_some_iff.1 h1).1
theorem AgesIn.below {w : World} {f b m e : Int} {fl : Nat → Bool} {wr w2 : World} (h : AgesIn w f b m e fl wr) (hb : Below wr.heap.size wr w2) : AgesIn w f b m e fl w2 :=
  ⟨(hb.block _ h.cells.2.2.2.2).trans h.1, h.2.trans (hb.mono (by have := h.cells.2.2.2.2; omega))⟩
theorem AgesIn.flag {w : World} {f b m e : Int} {fl : Nat → Bool} {wr : World} (h : AgesIn w f b m e fl wr) (i : Nat) (hi : i < 121) :
    wr.cell? ⟨w.heap.size + 1, i, none⟩ = some (.bool (fl i)) ∧ wr.frozen? ⟨w.heap.size + 1, i, none⟩ = false := by
  constructor
  · rw [cell_of_row wr _ i _ _ _ h.1, flagsA_get _ _ hi]
  · exact frozen_of_row wr _ i _ _ h.1
theorem AgesIn.set {w : World} {f b m e : Int} {fl : Nat → Bool} {wr : World} (h : AgesIn w f b m e fl wr) (i : Nat) : AgesIn w f b m e (fun k => fl k || decide (k = i)) (wr.setCell ⟨w.heap.size + 1, i, none⟩ (.bool true)) := by
  refine ⟨?_, h.2.setCell (by simp) _⟩
  rw [← flagsA_set]
  have := h.1
  simp [World.setCell, Array.getElem?_modify, this]
/-- Where the inner loop's counter can be. -/
def AgesJ (k : Nat) (e j : Int) : Prop := 0 ≤ j ∧ (k : Int) - e ≤ j ∧ (j ≤ min (k + e) 120 + 1 ∨ j = max 0 (k - e))
theorem AgesJ.bd {k : Nat} {e j : Int} (he : 0 ≤ e) (h : AgesJ k e j) : 0 ≤ j ∧ (k : Int) - e ≤ j ∧ j ≤ 1000 + k + e := by unfold AgesJ at h; omega
theorem agesM_start (f b m e n : Int) (k : Nat) (j : Int) (h : j = max 0 (k - e)) : agesM f b m e n k j = agesF f b m e n k := by
  funext i; unfold agesM
  have : (decide ((k : Int) - e ≤ i) && decide ((i : Int) < j)) = false := by simp; omega
  rw [this]; simp
theorem agesM_end (f b m e n : Int) (k : Nat) (j : Int) (he : 0 ≤ e) (hw : wrt f b m k = n) (hj : AgesJ k e j) (h : ¬ j ≤ min (k + e) 120) : flagsA (agesM f b m e n k j) = flagsA (agesF f b m e n (k + 1)) := by
  apply flagsA_congr
  intro i hi
  rw [agesF_succ]; unfold agesM
  congr 1
  unfold AgesJ at hj
  rw [Bool.eq_iff_iff]
  simp [hw]
  omega
theorem agesM_set (f b m e n : Int) (k j : Nat) (h : (k : Int) - e ≤ j) : (fun i => agesM f b m e n k j i || decide (i = j)) = agesM f b m e n k (j + 1) := by
  funext i; unfold agesM
  rw [Bool.or_assoc]; congr 1
  rw [Bool.eq_iff_iff]; simp; omega
attribute [local go_sem ↓] Go.wp_at_zero Go.wp_at_succ
set_option maxRecDepth 100000 in
set_option maxHeartbeats 2000000 in
theorem ages_any (f b m e n : Int) (w : World) (hb : 1 ≤ b) (hb2 : b ≤ 12) (hm : 0 ≤ m) (hm1 : m ≤ 1) (he : 0 ≤ e) (he5 : e ≤ 5) :
    Calls Tryz.prog 165 #[ruleV f b m e, .int .i64 n] w fun r w' => r = .returned (.agg (flagsA (agesF f b m e n 126))) ∧ Below w.heap.size w w' := by
  unfold ruleV
  go_enter Tryz.func165, Tryz.ntmps165
  go_wp2
  go_loopw [5, 6, 7] (fun _ _ i wr => ∃ k : Nat, k ≤ 126 ∧ i = .int .i64 k ∧ AgesIn w f b m e (agesF f b m e n k) wr) (fun _ _ i _ => 126 - (intOf i).toNat)
  case atStart => exact ⟨0, by omega, rfl, by rw [agesF_zero, ← flagsA_zero]; exact (by have := heap_alloc_new (w.alloc (.cells #[.int .i64 f, .int .i64 b, .int .i64 m, .int .i64 e] 156)) (.cells Tryz.zeroCells228 228); rw [World.size_alloc] at this; exact this), (Below.refl _ _).alloc (by simp) _⟩
  case round =>
    obtain ⟨k, hk, rfl, hin⟩ := hrel
    obtain ⟨c0, c1, c2, c3, hsz⟩ := hin.cells
    have HIN := Lib.hid hin; clear hin
    by_cases hlt : k < 126
    · by_cases hw : wrt f b m k = n
      · have hw1 : (wrt f b m k != n) = false := by simp [hw]
        have HW := Lib.hid hw; clear hw
        go_wp2_with (go_at_call 168; refine (write_any f b m e _ _ (by omega) (by omega) (by omega) (by omega) (by omega) (by omega)).mono ?_; rintro r w1 ⟨rfl, hb1⟩; have hin1 := HIN.out.below hb1; obtain ⟨d0, d1, d2, d3, hs1⟩ := hin1.cells; have HIN1 := Lib.hid hin1; clear hin1 hb1 c0 c1 c2 c3 hsz)
        all_goals
          go_loopw [6] (fun i wr => ∃ j : Int, i = .int .i64 j ∧ AgesJ k e j ∧ AgesIn w f b m e (agesM f b m e n k j) wr) (fun i _ => 121 - (intOf i).toNat)
          case atStart => exact ⟨_, rfl, by unfold AgesJ; omega, by rw [agesM_start _ _ _ _ _ _ _ (by omega)]; exact HIN1.out⟩
          case round =>
            obtain ⟨j, rfl, hj, hin⟩ := hrel
            obtain ⟨c0, c1, c2, c3, hsz⟩ := hin.cells
            have HIN2 := Lib.hid hin; clear hin
            obtain ⟨hj0, hj1, hj2⟩ := hj.bd he
            have HJ := Lib.hid hj; clear hj
            by_cases hc : j ≤ min (k + e) 120
            · obtain ⟨q, rfl⟩ := Int.eq_ofNat_of_zero_le hj0
              obtain ⟨f1, f2⟩ := HIN2.out.flag q (by omega)
              have hf1 : wr.cell? ⟨w.heap.size + 1, q, none⟩ = some (.bool (agesM f b m e n k q q)) := f1
              clear f1
              go_wp2_with (go_at_call 160; refine (smallest_any _ (↑k + e) 120 _ (cell_of_row _ _ 0 _ _ _ (heap_alloc_new _ _)) (cell_of_row _ _ 1 _ _ _ (heap_alloc_new _ _))).mono ?_; rintro r w2 ⟨rfl, rfl⟩)
              go_roundw
              case rel => exact ⟨_, rfl, by have := HJ.out; unfold AgesJ at this ⊢; omega, by rw [← agesM_set _ _ _ _ _ _ _ hj1]; exact (HIN2.out.set q).below ((Below.refl _ _).alloc (Nat.le_refl _) _)⟩
              case measure => simp [intOf]; omega
            · go_wp2_with (go_at_call 160; refine (smallest_any _ (↑k + e) 120 _ (cell_of_row _ _ 0 _ _ _ (heap_alloc_new _ _)) (cell_of_row _ _ 1 _ _ _ (heap_alloc_new _ _))).mono ?_; rintro r w2 ⟨rfl, rfl⟩)
              go_roundw
              case rel => exact ⟨k + 1, by omega, by go_num, by have h1 := HIN2.out.below ((Below.refl _ _).alloc (Nat.le_refl _) (.cells #[.int .i64 (↑k + e), .int .i64 120] 3)); exact ⟨by rw [← agesM_end _ _ _ _ _ _ _ he HW.out HJ.out (by omega)]; exact h1.1, h1.2⟩⟩
              case measure => simp [intOf]; omega
      · have hw1 : (wrt f b m k != n) = true := by simp [hw]
        have HW := Lib.hid hw; clear hw
        go_wp2_with (go_at_call 168; refine (write_any f b m e _ _ (by omega) (by omega) (by omega) (by omega) (by omega) (by omega)).mono ?_; rintro r w1 ⟨rfl, hb1⟩)
        go_roundw
        case rel => exact ⟨k + 1, by omega, by go_num, by rw [show agesF f b m e n (k + 1) = agesF f b m e n k from by funext i; rw [agesF_succ]; simp [HW.out]]; exact HIN.out.below hb1⟩
        case measure => simp [intOf]; omega
    · obtain rfl : k = 126 := by omega
      have hg := HIN.out.1
      have HG := Lib.hid hg; clear hg
      have hsz := (show Option.map (fun x => x.size) (Tryz.prog.info? 228) = some (flagsA (agesF f b m e n 126)).size from by rw [flagsA_size]; kernel_rfl)
      have HS := Lib.hid hsz; clear hsz
      go_wp2_with (first | (with_reducible refine wpList_load_row (o := ⟨some 33, _, _, _, _, _⟩) rfl 228 (.tmp 4) rfl (w.heap.size + 1) ?hx 228 (flagsA (agesF f b m e n 126)) (0, 0) _ HG.out Tryz.underlying228 rfl HS.out ?_) | (with_reducible refine wpList_store_row (o := ⟨none, .store 228 (.tmp 4) (.tmp 33), _, _, _, _⟩) rfl 228 (.tmp 4) (.tmp 33) rfl (w.heap.size + 1) (flagsA (agesF f b m e n 126)) ?sx ?sy 228 (flagsA (agesF f b m e n 126)) HG.out HS.out rfl (flagsA_one _) ?_))
      case hx => rfl
      refine bodyPost_ret (v := .agg (flagsA (agesF f b m e n 126))) (results_cell_row rfl _ _ (w.heap.size + 1) 228 _ (0, 0) _ rfl (setRow_heap _ _ _ _ _ _ HG.out) Tryz.underlying228 rfl HS.out) rfl ⟨rfl, ?_⟩
      have hB := (((Below.refl _ _).alloc (Nat.le_refl _) _).trans (HIN.out.2.mono (Nat.le_succ _)) : Below w.heap.size w wr)
      exact hB.trans ⟨rfl, rfl, rfl, by simp, fun q hq => setRow_other _ _ _ _ (by omega)⟩
end Go.Proofs.YtgbdbikjckfgmaaGreat
namespace Go.Proofs.YtgbdbikjckfgmaaGreat
open Go.RowKit
def ext (l : List (Int × Int)) (lo hi : Int) : List (Int × Int) :=
  match l.getLast? with
  | some r => if lo ≤ r.2 + 1 then l.dropLast ++ [(r.1, max r.2 hi)] else l ++ [(lo, hi)]
  | none => [(lo, hi)]
theorem ext_length (l : List (Int × Int)) (lo hi : Int) : (ext l lo hi).length ≤ l.length + 1 := by
  unfold ext
  split
  · split <;> simp
  · simp
theorem flat_cell (l : List (Int × Int)) (a b : Int) : (flat (l ++ [(a, b)]))[l.length * 2 + 1]? = some (.int .i64 b) := by
  rw [flat_append, List.getElem?_append_right (by rw [flat_length]; omega), flat_length]
  simp [flat]
theorem flat_set (l : List (Int × Int)) (a b c : Int) : (flat (l ++ [(a, b)])).set (l.length * 2 + 1) (.int .i64 c) = flat (l ++ [(a, c)]) := by
  rw [flat_append, flat_append, List.set_append_right _ _ (by rw [flat_length]; omega), flat_length]
  simp [flat]
theorem extended_grow (base : Nat) (v : Value) (l : List (Int × Int)) (lo hi : Int) (w : World) (h : RS w base v l) (hlen : l.length ≤ 10000) (hbase : base ≤ w.heap.size)
    (hbd : ∀ r ∈ l, -1000000000 ≤ r.2 ∧ r.2 ≤ 1000000000) :
    Calls Tryz.prog 162 #[v, .int .i64 lo, .int .i64 hi] w (GivesG w base v (ext l lo hi)) := by
  rcases List.eq_nil_or_concat l with rfl | ⟨l0, ⟨a, b⟩, rfl⟩
  · have : ∃ a cap, v = .slice a 0 cap := by
      rcases h.2 with ⟨rfl, _⟩ | ⟨g, cap, cur, rfl, _⟩
      · exact ⟨_, _, rfl⟩
      · exact ⟨_, _, rfl⟩
    obtain ⟨a, cap, rfl⟩ := this
    exact extended_first a base cap lo hi w hbase h
  · rw [List.concat_eq_append] at *
    have hb := hbd (a, b) (by simp)
    obtain ⟨g, cap, rfl, _, _⟩ := World.ownsRow.form h (by simp)
    have hown := h
    unfold RS at hown
    simp only [List.length_append, List.length_cons, List.length_nil, Nat.zero_add] at hown hlen ⊢
    have hc : w.cell? ⟨g, l0.length * 2 + 1, none⟩ = some (.int .i64 b) := by rw [hown.cellAt _ (by omega), flat_cell]
    have he : ext (l0 ++ [(a, b)]) lo hi = if lo ≤ b + 1 then l0 ++ [(a, max b hi)] else (l0 ++ [(a, b)]) ++ [(lo, hi)] := by simp [ext]
    rw [he]
    by_cases hlo : lo ≤ b + 1
    · rw [if_pos hlo]
      refine (extended_join g l0.length cap lo hi b w (by omega) hc (hown.frozenAt _) hb.1 hb.2 hlo).mono ?_
      rintro e w' ⟨rfl, rfl⟩
      have hs := hown.stored (l0.length * 2 + 1) (.int .i64 (max b hi))
      rw [flat_set] at hs
      refine ⟨_, rfl, ?_, hs.2, .inl rfl⟩
      unfold RS
      simpa using hs.1
    · rw [if_neg hlo]
      refine (extended_push g l0.length cap base lo hi b _ w (by omega) hbase hc hb.1 hb.2 (by omega) hown).mono ?_
      rintro e w' ⟨v, rfl, h1, h2, h3⟩
      refine ⟨v, rfl, ?_, h2, h3⟩
      unfold RS
      rw [flat_append _ [(lo, hi)]]
      simpa [flat] using h1
theorem RS.own {w : World} {base : Nat} {v : Value} {l : List (Int × Int)} (h : RS w base v l) : ∀ k, v.ownBlock = some k → base ≤ k ∧ k < w.heap.size := fun k hk => by
  rcases h.2 with ⟨rfl, _⟩ | ⟨g, cap, cur, rfl, hg, hc, _⟩
  · cases hk
  · cases hk; exact ⟨hg, (Array.getElem?_eq_some_iff.1 hc).1⟩
theorem extended_any (base : Nat) (v : Value) (l : List (Int × Int)) (lo hi : Int) (w : World) (h : RS w base v l) (hlen : l.length ≤ 10000) (hbase : base ≤ w.heap.size)
    (hbd : ∀ r ∈ l, -1000000000 ≤ r.2 ∧ r.2 ≤ 1000000000) :
    Calls Tryz.prog 162 #[v, .int .i64 lo, .int .i64 hi] w (Gives w base (ext l lo hi)) := by
  refine (extended_grow base v l lo hi w h hlen hbase hbd).mono ?_
  rintro e w' ⟨v', rfl, h1, h2, _⟩
  exact ⟨v', rfl, h1, (Below.refl base w).grown h2 hbase (fun k hk => (h.own k hk).1)⟩
/-- The ranges of the flags below k. -/
def rngs (fl : Nat → Bool) : Nat → List (Int × Int)
  | 0 => []
  | k + 1 => if fl k then ext (rngs fl k) k k else rngs fl k
theorem rngs_length (fl : Nat → Bool) (k : Nat) : (rngs fl k).length ≤ k := by
  induction k with
  | zero => simp [rngs]
  | succ k ih => rw [rngs]; split
                 · have := ext_length (rngs fl k) k k; omega
                 · omega
theorem ext_bd (l : List (Int × Int)) (lo hi B : Int) (h : ∀ r ∈ l, 0 ≤ r.2 ∧ r.2 ≤ B) (h0 : 0 ≤ hi) (h1 : hi ≤ B) : ∀ r ∈ ext l lo hi, 0 ≤ r.2 ∧ r.2 ≤ B := by
  intro r hr
  rcases List.eq_nil_or_concat l with rfl | ⟨l0, ⟨a, b⟩, rfl⟩
  · simp [ext] at hr; subst hr; exact ⟨h0, h1⟩
  · rw [List.concat_eq_append] at *
    have hb := h (a, b) (by simp)
    simp only at hb
    have he : ext (l0 ++ [(a, b)]) lo hi = if lo ≤ b + 1 then l0 ++ [(a, max b hi)] else (l0 ++ [(a, b)]) ++ [(lo, hi)] := by simp [ext]
    rw [he] at hr
    split at hr
    · rcases List.mem_append.1 hr with h2 | h2
      · exact h r (by simp [h2])
      · simp at h2; subst h2; simp only; omega
    · rcases List.mem_append.1 hr with h2 | h2
      · exact h r h2
      · simp at h2; subst h2; exact ⟨h0, h1⟩
theorem rngs_bd (fl : Nat → Bool) (k : Nat) : ∀ r ∈ rngs fl k, 0 ≤ r.2 ∧ r.2 ≤ (k : Int) := by
  induction k with
  | zero => simp [rngs]
  | succ k ih =>
    have ih' : ∀ r ∈ rngs fl k, 0 ≤ r.2 ∧ r.2 ≤ ((k + 1 : Nat) : Int) := fun r hr => ⟨(ih r hr).1, by have := (ih r hr).2; omega⟩
    rw [rngs]; split
    · exact ext_bd _ _ _ _ ih' (by omega) (by omega)
    · exact ih'
theorem wp_box_row {P : Program} {o : Oper} {a : Act} {w : World} {K : Act → World → Prop} {Q : Exit → Act → World → Prop} (ty : TypeId) (x : Operand) (ho : o.op = .box ty x) (cs : Array Value) (hx : a.eval x = .agg cs)
    (h : K (a.put o.dst (.pointer (some ⟨w.heap.size, 0, none⟩))) (w.alloc (.cells cs ty))) : o.wp P a w K Q := by
  unfold Oper.wp execOp
  simp only [ho, hx, Instr.box, newVar, newRow, Value.cells, Sem.run_bind, Sem.run_pure]
  exact h
theorem wpList_box_row {P : Program} {ops : Array Oper} {rest : List Oper} {o : Oper} {a : Act} {w : World} {Q : Exit → Act → World → Prop} (hgd : o.guard = none) (ty : TypeId) (x : Operand) (ho : o.op = .box ty x) (cs : Array Value) (hx : a.eval x = .agg cs)
    (h : wpList P ops Q rest (a.put o.dst (.pointer (some ⟨w.heap.size, 0, none⟩))) (w.alloc (.cells cs ty))) : wpList P ops Q (o :: rest) a w :=
  wpList_plain hgd fun _ hK => wp_box_row ty x ho cs hx (hK _ _ h)
theorem run_index_flags (fl : Nat → Bool) (k : Nat) (hk : k < 121) (w : World) : (Instr.index 228 (.agg (flagsA fl)) (.int .i64 k)).run Tryz.prog w = .ok (.bool (fl k)) w := by
  have hg := flagsA_get fl k hk
  simp [Instr.index, go_sem, part, hg]
  intro h; omega
theorem run_index_flags' (fl : Nat → Bool) (w : World) (k : Nat) (hk : k < 121) : (Instr.index 228 (.agg (flagsA fl)) (.int .i64 k)).run Tryz.prog w = .ok (.bool (fl k)) w := run_index_flags fl k hk w
set_option maxRecDepth 100000 in
set_option maxHeartbeats 2000000 in
theorem ranges_any (fl : Nat → Bool) (w : World) :
    Calls Tryz.prog 166 #[.agg (flagsA fl)] w (Gives w w.heap.size (rngs fl 121)) := by
  have hsz := (show Option.map (fun x => x.size) (Tryz.prog.info? 228) = some (flagsA fl).size from by rw [flagsA_size]; kernel_rfl)
  have HS := Lib.hid hsz; clear hsz
  have HX := Lib.hid (run_index_flags' fl)
  go_enter Tryz.func166, Tryz.ntmps166
  go_wp2_with (first | (with_reducible refine wpList_box_row (o := ⟨some 1, .box 228 (.tmp 0), _, _, _, _⟩) rfl 228 (.tmp 0) rfl (flagsA fl) ?bx ?_) | (with_reducible refine wpList_load_row (o := ⟨some 5, .load 228 (.tmp 1), _, _, _, _⟩) rfl 228 (.tmp 1) rfl w.heap.size ?lx 228 (flagsA fl) (0, 0) _ (heap_alloc_new _ _) Tryz.underlying228 rfl HS.out ?_))
  case bx => rfl
  case lx => rfl
  go_loopw [2, 6] (fun v i wr => ∃ k : Nat, k ≤ 121 ∧ i = .int .i64 k ∧ RS wr (w.heap.size + 1) v (rngs fl k) ∧ Below (w.heap.size + 1) (w.alloc (.cells (flagsA fl) 228)) wr) (fun _ i _ => 121 - (intOf i).toNat)
  case atStart => exact ⟨0, by omega, rfl, World.ownsRow_nil _ _ _ _, Below.refl _ _⟩
  case round =>
    obtain ⟨k, hk, rfl, hrs, hbl⟩ := hrel
    have HR := Lib.hid hrs; clear hrs
    have HB := Lib.hid hbl; clear hbl
    by_cases hlt : k < 121
    · have hx := HX.out wr k hlt
      by_cases hf : fl k = true
      · go_wp2_with (go_at_call 162; refine (extended_any (w.heap.size + 1) _ _ _ _ _ HR.out (by have := rngs_length fl k; omega) (by have := HB.out.size; simp at this; omega) (fun r hr => by have := rngs_bd fl k r hr; omega)).mono ?_; rintro e w1 ⟨v1, rfl, hr1, hb1⟩)
        go_roundw
        case rel => exact ⟨k + 1, by omega, by go_num, by rw [rngs, if_pos hf]; exact hr1, HB.out.trans hb1⟩
        case measure => simp [intOf]; omega
      · have hf' : fl k = false := by simpa using hf
        clear hf
        go_wp2
        go_roundw
        case rel => exact ⟨k + 1, by omega, by go_num, by rw [rngs, hf']; exact HR.out, HB.out⟩
        case measure => simp [intOf]; omega
    · obtain rfl : k = 121 := by omega
      go_wp2
      go_ret
      exact ⟨_, rfl, HR.out.mono (by omega), ((Below.refl _ _).alloc (Nat.le_refl _) _).trans (HB.out.mono (by omega))⟩
end Go.Proofs.YtgbdbikjckfgmaaGreat
namespace Go.Proofs.YtgbdbikjckfgmaaGreat
open Go.RowKit
def GivesE (w : World) (base : Nat) (l : List (Int × Int)) (err : Int) (e : Ending) (w' : World) : Prop := ∃ v, e = .returned (.tuple #[v, .int .i64 err]) ∧ RS w' base v l ∧ Below base w w'
end Go.Proofs.YtgbdbikjckfgmaaGreat
