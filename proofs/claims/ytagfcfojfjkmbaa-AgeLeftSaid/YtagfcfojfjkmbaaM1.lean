/- Plain laws of lists of ranges: membership, normal lists, what is in two of them. -/
namespace Go.Proofs.Ytagfcfojfjkmbaa

abbrev RL := List (Int × Int)
/-- n is in some range of l. -/
def hasR (l : RL) (n : Int) : Bool := l.any fun r => decide (r.1 ≤ n) && decide (n ≤ r.2)
/-- Ranges in order, none empty, no two of them touching. -/
def Nrm (l : RL) : Prop := l.Pairwise (fun a b => a.2 + 2 ≤ b.1) ∧ ∀ r ∈ l, r.1 ≤ r.2

theorem hasR_nil (n : Int) : hasR [] n = false := rfl
theorem hasR_cons (r : Int × Int) (l : RL) (n : Int) : hasR (r :: l) n = ((decide (r.1 ≤ n) && decide (n ≤ r.2)) || hasR l n) := rfl
theorem hasR_append (a b : RL) (n : Int) : hasR (a ++ b) n = (hasR a n || hasR b n) := by simp [hasR]
theorem hasR_iff (l : RL) (n : Int) : hasR l n = true ↔ ∃ r ∈ l, r.1 ≤ n ∧ n ≤ r.2 := by simp [hasR]
theorem hasR_false (l : RL) (n : Int) : hasR l n = false ↔ ∀ r ∈ l, ¬ (r.1 ≤ n ∧ n ≤ r.2) := by
  rw [← Bool.not_eq_true, hasR_iff]; simp

theorem Nrm.nil : Nrm [] := ⟨List.Pairwise.nil, by simp⟩
theorem Nrm.cons_iff (r : Int × Int) (l : RL) : Nrm (r :: l) ↔ r.1 ≤ r.2 ∧ (∀ s ∈ l, r.2 + 2 ≤ s.1) ∧ Nrm l := by
  unfold Nrm
  rw [List.pairwise_cons]
  constructor
  · rintro ⟨⟨h1, h2⟩, h3⟩
    exact ⟨h3 r (by simp), h1, h2, fun s hs => h3 s (by simp [hs])⟩
  · rintro ⟨h1, h2, h3, h4⟩
    refine ⟨⟨h2, h3⟩, fun s hs => ?_⟩
    rcases List.mem_cons.1 hs with rfl | h
    · exact h1
    · exact h4 s h
theorem Nrm.tail {r : Int × Int} {l : RL} (h : Nrm (r :: l)) : Nrm l := ((Nrm.cons_iff r l).1 h).2.2
theorem Nrm.snoc_iff (l : RL) (r : Int × Int) : Nrm (l ++ [r]) ↔ Nrm l ∧ r.1 ≤ r.2 ∧ ∀ s ∈ l, s.2 + 2 ≤ r.1 := by
  unfold Nrm
  rw [List.pairwise_append]
  constructor
  · rintro ⟨⟨h1, _, h2⟩, h3⟩
    exact ⟨⟨h1, fun s hs => h3 s (by simp [hs])⟩, h3 r (by simp), fun s hs => h2 s hs r (by simp)⟩
  · rintro ⟨⟨h1, h2⟩, h3, h4⟩
    refine ⟨⟨h1, by simp, fun a ha b hb => ?_⟩, fun s hs => ?_⟩
    · rw [List.mem_singleton] at hb; subst hb; exact h4 a ha
    · rcases List.mem_append.1 hs with h | h
      · exact h2 s h
      · rw [List.mem_singleton] at h; subst h; exact h3
/-- Below its first range a normal list has nothing. -/
theorem Nrm.low {r : Int × Int} {l : RL} (h : Nrm (r :: l)) (n : Int) (hn : n < r.1) : hasR (r :: l) n = false := by
  obtain ⟨h1, h2, h3⟩ := (Nrm.cons_iff r l).1 h
  rw [hasR_false]
  intro s hs
  rcases List.mem_cons.1 hs with rfl | h'
  · omega
  · have := h2 s h'; omega
theorem Nrm.after {r : Int × Int} {l : RL} (h : Nrm (r :: l)) (n : Int) (hn : n ≤ r.2 + 1) : hasR l n = false := by
  obtain ⟨h1, h2, h3⟩ := (Nrm.cons_iff r l).1 h
  rw [hasR_false]
  intro s hs
  have := h2 s hs; omega
theorem Nrm.first {r : Int × Int} {l : RL} (h : Nrm (r :: l)) : hasR (r :: l) r.1 = true := by
  have := ((Nrm.cons_iff r l).1 h).1
  rw [hasR_iff]; exact ⟨r, by simp, by omega, by omega⟩
/-- A normal list is told by its members. -/
theorem Nrm.ext {a b : RL} (ha : Nrm a) (hb : Nrm b) (h : ∀ n, hasR a n = hasR b n) : a = b := by
  induction a generalizing b with
  | nil =>
    cases b with
    | nil => rfl
    | cons s b => have := hb.first; rw [← h] at this; simp [hasR] at this
  | cons r a ih =>
    cases b with
    | nil => have := ha.first; rw [h] at this; simp [hasR] at this
    | cons s b =>
      have e1 : r.1 = s.1 := by
        rcases Int.lt_trichotomy r.1 s.1 with hl | he | hl
        · have h1 := ha.first; rw [h, hb.low _ hl] at h1; cases h1
        · exact he
        · have h1 := hb.first; rw [← h, ha.low _ hl] at h1; cases h1
      have hra := ((Nrm.cons_iff r a).1 ha).1
      have hsb := ((Nrm.cons_iff s b).1 hb).1
      have e2 : r.2 = s.2 := by
        rcases Int.lt_trichotomy r.2 s.2 with hl | he | hl
        · have h1 := h (r.2 + 1)
          rw [hasR_cons, hasR_cons, ha.after (r.2 + 1) (by omega), hb.after (r.2 + 1) (by omega)] at h1
          simp only [Bool.or_false] at h1
          rw [Bool.eq_iff_iff] at h1; simp at h1; omega
        · exact he
        · have h1 := h (s.2 + 1)
          rw [hasR_cons, hasR_cons, ha.after (s.2 + 1) (by omega), hb.after (s.2 + 1) (by omega)] at h1
          simp only [Bool.or_false] at h1
          rw [Bool.eq_iff_iff] at h1; simp at h1; omega
      have e : r = s := Prod.ext e1 e2
      subst e
      rw [ih ha.tail hb.tail]
      intro n
      by_cases hn : n ≤ r.2 + 1
      · rw [ha.after n hn, hb.after n hn]
      · have h1 := h n
        rw [hasR_cons, hasR_cons, show (decide (r.1 ≤ n) && decide (n ≤ r.2)) = false from by simp; omega] at h1
        simpa using h1

/-- What is in both of two lists: the program's way. -/
def meetF : Nat → RL → RL → RL
  | k + 1, x :: a, y :: b => (if max x.1 y.1 ≤ min x.2 y.2 then [(max x.1 y.1, min x.2 y.2)] else []) ++ (if x.2 < y.2 then meetF k a (y :: b) else meetF k (x :: a) b)
  | _, _, _ => []
def meetL (a b : RL) : RL := meetF (a.length + b.length) a b
theorem meetL_nil_left (b : RL) : meetL [] b = [] := by unfold meetL; cases b <;> simp [meetF]
theorem meetL_nil_right (a : RL) : meetL a [] = [] := by unfold meetL; cases a <;> simp [meetF]
theorem meetL_cons (x y : Int × Int) (a b : RL) : meetL (x :: a) (y :: b) = (if max x.1 y.1 ≤ min x.2 y.2 then [(max x.1 y.1, min x.2 y.2)] else []) ++ (if x.2 < y.2 then meetL a (y :: b) else meetL (x :: a) b) := by
  unfold meetL
  rw [show (x :: a).length + (y :: b).length = (a.length + b.length + 1) + 1 from by simp; omega, meetF]
  congr 1
  split
  · rw [show a.length + (y :: b).length = a.length + b.length + 1 from by simp; omega]
  · rw [show (x :: a).length + b.length = a.length + b.length + 1 from by simp; omega]

theorem meetF_facts (k : Nat) : ∀ (a b : RL), a.length + b.length ≤ k → Nrm a → Nrm b → Nrm (meetL a b) ∧ (∀ n, hasR (meetL a b) n = (hasR a n && hasR b n)) ∧ (∀ r ∈ meetL a b, (∃ x ∈ a, x.1 ≤ r.1 ∧ r.2 ≤ x.2) ∧ ∃ y ∈ b, y.1 ≤ r.1 ∧ r.2 ≤ y.2) := by
  induction k with
  | zero =>
    intro a b hl _ _
    have : a = [] := by cases a <;> simp_all
    subst this
    rw [meetL_nil_left]
    exact ⟨Nrm.nil, fun n => by simp [hasR], by simp⟩
  | succ k ih =>
    intro a b hl ha hb
    cases a with
    | nil => rw [meetL_nil_left]; exact ⟨Nrm.nil, fun n => by simp [hasR], by simp⟩
    | cons x a =>
      cases b with
      | nil => rw [meetL_nil_right]; exact ⟨Nrm.nil, fun n => by simp [hasR], by simp⟩
      | cons y b =>
        rw [meetL_cons]
        have hx := (Nrm.cons_iff x a).1 ha
        have hy := (Nrm.cons_iff y b).1 hb
        simp only [List.length_cons] at hl
        by_cases hc : x.2 < y.2
        · rw [if_pos hc]
          obtain ⟨i1, i2, i3⟩ := ih a (y :: b) (by simp; omega) ha.tail hb
          have far : ∀ s ∈ meetL a (y :: b), x.2 + 2 ≤ s.1 := fun s hs => by
            obtain ⟨⟨x', hx', h1, _⟩, _⟩ := i3 s hs
            have := hx.2.1 x' hx'; omega
          have mem : ∀ s ∈ meetL a (y :: b), (∃ x' ∈ x :: a, x'.1 ≤ s.1 ∧ s.2 ≤ x'.2) ∧ ∃ y' ∈ y :: b, y'.1 ≤ s.1 ∧ s.2 ≤ y'.2 := fun s hs => by
            obtain ⟨⟨x', hx', h1⟩, h2⟩ := i3 s hs
            exact ⟨⟨x', by simp [hx'], h1⟩, h2⟩
          have key : ∀ n, (hasR (x :: a) n && hasR (y :: b) n) = ((decide (max x.1 y.1 ≤ n) && decide (n ≤ min x.2 y.2)) || (hasR a n && hasR (y :: b) n)) := by
            intro n
            rw [hasR_cons x, Bool.and_or_distrib_right]
            congr 1
            by_cases h : x.1 ≤ n ∧ n ≤ x.2
            · rw [hasR_cons y, hb.after n (by omega), Bool.eq_iff_iff]; simp; omega
            · rw [show (decide (x.1 ≤ n) && decide (n ≤ x.2)) = false from by simp; omega]
              rw [show (decide (max x.1 y.1 ≤ n) && decide (n ≤ min x.2 y.2)) = false from by simp; omega]; simp
          split
          · rename_i hm
            refine ⟨?_, fun n => ?_, ?_⟩
            · refine (Nrm.cons_iff _ _).2 ⟨hm, fun s hs => ?_, i1⟩
              have := far s hs
              show min x.2 y.2 + 2 ≤ s.1
              omega
            · rw [key n, List.singleton_append, hasR_cons, i2 n]
            · intro r hr
              rcases List.mem_cons.1 hr with rfl | h
              · exact ⟨⟨x, by simp, by show x.1 ≤ max _ _; omega, by show min _ _ ≤ x.2; omega⟩, ⟨y, by simp, by show y.1 ≤ max _ _; omega, by show min _ _ ≤ y.2; omega⟩⟩
              · exact mem r h
          · rename_i hm
            refine ⟨i1, fun n => ?_, mem⟩
            rw [key n, List.nil_append, i2 n]
            rw [show (decide (max x.1 y.1 ≤ n) && decide (n ≤ min x.2 y.2)) = false from by simp; omega]; simp
        · rw [if_neg hc]
          obtain ⟨i1, i2, i3⟩ := ih (x :: a) b (by simp; omega) ha hb.tail
          have far : ∀ s ∈ meetL (x :: a) b, y.2 + 2 ≤ s.1 := fun s hs => by
            obtain ⟨_, ⟨x', hx', h1, _⟩⟩ := i3 s hs
            have := hy.2.1 x' hx'; omega
          have mem : ∀ s ∈ meetL (x :: a) b, (∃ x' ∈ x :: a, x'.1 ≤ s.1 ∧ s.2 ≤ x'.2) ∧ ∃ y' ∈ y :: b, y'.1 ≤ s.1 ∧ s.2 ≤ y'.2 := fun s hs => by
            obtain ⟨h2, ⟨x', hx', h1⟩⟩ := i3 s hs
            exact ⟨h2, ⟨x', by simp [hx'], h1⟩⟩
          have key : ∀ n, (hasR (x :: a) n && hasR (y :: b) n) = ((decide (max x.1 y.1 ≤ n) && decide (n ≤ min x.2 y.2)) || (hasR (x :: a) n && hasR b n)) := by
            intro n
            rw [hasR_cons y, Bool.and_or_distrib_left]
            congr 1
            by_cases h : y.1 ≤ n ∧ n ≤ y.2
            · rw [hasR_cons x, ha.after n (by omega), Bool.eq_iff_iff]; simp; omega
            · rw [show (decide (y.1 ≤ n) && decide (n ≤ y.2)) = false from by simp; omega]
              rw [show (decide (max x.1 y.1 ≤ n) && decide (n ≤ min x.2 y.2)) = false from by simp; omega]; simp
          split
          · rename_i hm
            refine ⟨?_, fun n => ?_, ?_⟩
            · refine (Nrm.cons_iff _ _).2 ⟨hm, fun s hs => ?_, i1⟩
              have := far s hs
              show min x.2 y.2 + 2 ≤ s.1
              omega
            · rw [key n, List.singleton_append, hasR_cons, i2 n]
            · intro r hr
              rcases List.mem_cons.1 hr with rfl | h
              · exact ⟨⟨x, by simp, by show x.1 ≤ max _ _; omega, by show min _ _ ≤ x.2; omega⟩, ⟨y, by simp, by show y.1 ≤ max _ _; omega, by show min _ _ ≤ y.2; omega⟩⟩
              · exact mem r h
          · rename_i hm
            refine ⟨i1, fun n => ?_, mem⟩
            rw [key n, List.nil_append, i2 n]
            rw [show (decide (max x.1 y.1 ≤ n) && decide (n ≤ min x.2 y.2)) = false from by simp; omega]; simp

theorem meetL_nrm {a b : RL} (ha : Nrm a) (hb : Nrm b) : Nrm (meetL a b) := (meetF_facts _ a b (Nat.le_refl _) ha hb).1
theorem meetL_has {a b : RL} (ha : Nrm a) (hb : Nrm b) (n : Int) : hasR (meetL a b) n = (hasR a n && hasR b n) := (meetF_facts _ a b (Nat.le_refl _) ha hb).2.1 n
theorem meetL_in {a b : RL} (ha : Nrm a) (hb : Nrm b) : ∀ r ∈ meetL a b, (∃ x ∈ a, x.1 ≤ r.1 ∧ r.2 ≤ x.2) ∧ ∃ y ∈ b, y.1 ≤ r.1 ∧ r.2 ≤ y.2 := (meetF_facts _ a b (Nat.le_refl _) ha hb).2.2
theorem meetL_length (k : Nat) : ∀ (a b : RL), a.length + b.length ≤ k → (meetL a b).length ≤ a.length + b.length := by
  induction k with
  | zero => intro a b hl; have : a = [] := by cases a <;> simp_all
            subst this; rw [meetL_nil_left]; simp
  | succ k ih =>
    intro a b hl
    cases a with
    | nil => rw [meetL_nil_left]; simp
    | cons x a =>
      cases b with
      | nil => rw [meetL_nil_right]; simp
      | cons y b =>
        rw [meetL_cons]
        simp only [List.length_cons] at hl
        have h1 := ih a (y :: b) (by simp; omega)
        have h2 := ih (x :: a) b (by simp; omega)
        simp only [List.length_cons, List.length_append] at h1 h2 ⊢
        split <;> split <;> simp <;> omega
theorem meetL_bd (k : Nat) (B : Int) : ∀ (a b : RL), a.length + b.length ≤ k → (∀ r ∈ a, -B ≤ r.1 ∧ r.1 ≤ B ∧ -B ≤ r.2 ∧ r.2 ≤ B) → (∀ r ∈ b, -B ≤ r.1 ∧ r.1 ≤ B ∧ -B ≤ r.2 ∧ r.2 ≤ B) → ∀ r ∈ meetL a b, -B ≤ r.1 ∧ r.1 ≤ B ∧ -B ≤ r.2 ∧ r.2 ≤ B := by
  induction k with
  | zero => intro a b hl _ _; have : a = [] := by cases a <;> simp_all
            subst this; rw [meetL_nil_left]; simp
  | succ k ih =>
    intro a b hl ha hb
    cases a with
    | nil => rw [meetL_nil_left]; simp
    | cons x a =>
      cases b with
      | nil => rw [meetL_nil_right]; simp
      | cons y b =>
        rw [meetL_cons]
        simp only [List.length_cons] at hl
        have h1 := ih a (y :: b) (by simp; omega) (fun r hr => ha r (by simp [hr])) hb
        have h2 := ih (x :: a) b (by simp; omega) ha (fun r hr => hb r (by simp [hr]))
        have hx := ha x (by simp)
        have hy := hb y (by simp)
        intro r hr
        rcases List.mem_append.1 hr with h | h
        · split at h
          · simp only [List.mem_singleton] at h; subst h; simp only; omega
          · simp at h
        · split at h
          · exact h1 r h
          · exact h2 r h
end Go.Proofs.Ytagfcfojfjkmbaa
