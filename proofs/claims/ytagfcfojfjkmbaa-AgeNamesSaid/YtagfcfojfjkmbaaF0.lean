/- Plain laws: what extended and ranges give; lists inside lists. -/
import Derived.Test.YtagfcfojfjkmbaaPB
namespace Go.Proofs.Ytagfcfojfjkmbaa

theorem ext_snoc (l0 : RL) (a b lo hi : Int) : ext (l0 ++ [(a, b)]) lo hi = if lo ≤ b + 1 then l0 ++ [(a, max b hi)] else (l0 ++ [(a, b)]) ++ [(lo, hi)] := by simp [ext]
theorem ext_facts {l : RL} (h : Nrm l) {lo hi : Int} (hl : lo ≤ hi) (hlow : ∀ r ∈ l, r.1 ≤ lo) : Nrm (ext l lo hi) ∧ ∀ n, hasR (ext l lo hi) n = (hasR l n || (decide (lo ≤ n) && decide (n ≤ hi))) := by
  rcases List.eq_nil_or_concat l with rfl | ⟨l0, ⟨a, b⟩, rfl⟩
  · refine ⟨(Nrm.cons_iff _ _).2 ⟨hl, by simp, Nrm.nil⟩, fun n => ?_⟩
    show hasR [(lo, hi)] n = _
    rw [hasR_cons]; simp [hasR]
  · rw [List.concat_eq_append] at *
    rw [ext_snoc]
    obtain ⟨h1, h2, h3⟩ := (Nrm.snoc_iff _ _).1 h
    have ha := hlow (a, b) (by simp)
    simp only at h2 ha
    by_cases hc : lo ≤ b + 1
    · rw [if_pos hc]
      refine ⟨(Nrm.snoc_iff _ _).2 ⟨h1, by show a ≤ max b hi; omega, h3⟩, fun n => ?_⟩
      rw [hasR_append, hasR_append, Bool.or_assoc]
      congr 1
      rw [hasR_cons, hasR_cons, hasR_nil, Bool.or_false, Bool.or_false, Bool.eq_iff_iff]
      simp; omega
    · rw [if_neg hc]
      refine ⟨(Nrm.snoc_iff _ _).2 ⟨h, hl, fun s hs => ?_⟩, fun n => ?_⟩
      · rcases List.mem_append.1 hs with h' | h'
        · have := h3 s h'; show s.2 + 2 ≤ lo; simp only at this; omega
        · simp only [List.mem_singleton] at h'; subst h'; show b + 2 ≤ lo; omega
      · rw [hasR_append]
        congr 1
        rw [hasR_cons, hasR_nil, Bool.or_false]
theorem ext_mem_low {l : RL} {lo hi B : Int} (h : ∀ r ∈ l, r.1 ≤ B) (hlo : lo ≤ B) : ∀ r ∈ ext l lo hi, r.1 ≤ B := by
  rcases List.eq_nil_or_concat l with rfl | ⟨l0, ⟨a, b⟩, rfl⟩
  · intro r hr; simp [ext] at hr; subst hr; exact hlo
  · rw [List.concat_eq_append] at *
    rw [ext_snoc]
    intro r hr
    split at hr
    · rcases List.mem_append.1 hr with h' | h'
      · exact h r (by simp [h'])
      · simp only [List.mem_singleton] at h'; subst h'; exact h (a, b) (by simp)
    · rcases List.mem_append.1 hr with h' | h'
      · exact h r h'
      · simp only [List.mem_singleton] at h'; subst h'; exact hlo
theorem rngs_facts (fl : Nat → Bool) (k : Nat) : Nrm (rngs fl k) ∧ (∀ r ∈ rngs fl k, r.1 ≤ (k : Int) - 1) ∧ ∀ n : Int, hasR (rngs fl k) n = (decide (0 ≤ n) && decide (n < k) && fl n.toNat) := by
  induction k with
  | zero => refine ⟨Nrm.nil, by simp [rngs], fun n => ?_⟩
            rw [show (decide (0 ≤ n) && decide (n < ((0 : Nat) : Int))) = false from by first | (simp; done) | (simp; omega)]; rfl
  | succ k ih =>
    obtain ⟨i1, i2, i3⟩ := ih
    rw [rngs]
    have hc : ∀ n : Int, n ≠ k → (decide (0 ≤ n) && decide (n < ((k + 1 : Nat) : Int))) = (decide (0 ≤ n) && decide (n < (k : Int))) := fun n hn => by
      rw [Bool.eq_iff_iff]; simp; omega
    cases hf : fl k
    · rw [if_neg (by decide)]
      refine ⟨i1, fun r hr => by have := i2 r hr; omega, fun n => ?_⟩
      rw [i3 n]
      by_cases hn : n = k
      · subst hn; simp [hf]
      · rw [hc n hn]
    · rw [if_pos rfl]
      obtain ⟨e1, e2⟩ := ext_facts i1 (Int.le_refl (k : Int)) (fun r hr => by have := i2 r hr; omega)
      refine ⟨e1, fun r hr => ?_, fun n => ?_⟩
      · have := ext_mem_low (hi := (k : Int)) (B := (k : Int)) (fun r hr => by have := i2 r hr; omega) (Int.le_refl _) r hr
        omega
      · rw [e2 n, i3 n]
        by_cases hn : n = k
        · subst hn; simp [hf]; omega
        · rw [hc n hn, show (decide ((k : Int) ≤ n) && decide (n ≤ (k : Int))) = false from by simp; omega, Bool.or_false]

/-- Each range of a is in some range of b. -/
def insB (a b : RL) : Bool := a.all fun r => b.any fun s => decide (s.1 ≤ r.1) && decide (r.2 ≤ s.2)
theorem Nrm.pair {l : RL} (h : Nrm l) {s t : Int × Int} (hs : s ∈ l) (ht : t ∈ l) : s = t ∨ s.2 + 2 ≤ t.1 ∨ t.2 + 2 ≤ s.1 := by
  induction l with
  | nil => cases hs
  | cons r l ih =>
    obtain ⟨_, h2, h3⟩ := (Nrm.cons_iff r l).1 h
    rcases List.mem_cons.1 hs with hs' | hs' <;> rcases List.mem_cons.1 ht with ht' | ht'
    · exact .inl (hs'.trans ht'.symm)
    · subst hs'; exact .inr (.inl (h2 t ht'))
    · subst ht'; exact .inr (.inr (h2 s hs'))
    · exact ih h3 hs' ht'
theorem insB_of {a b : RL} (ha : Nrm a) (hb : Nrm b) (h : ∀ n, hasR a n = true → hasR b n = true) : insB a b = true := by
  unfold insB
  rw [List.all_eq_true]
  intro r hr
  rw [List.any_eq_true]
  have hrr := ha.2 r hr
  obtain ⟨s, hs, h1, h2⟩ := (hasR_iff b r.1).1 (h r.1 ((hasR_iff a r.1).2 ⟨r, hr, Int.le_refl _, hrr⟩))
  refine ⟨s, hs, ?_⟩
  have : r.2 ≤ s.2 := by
    rcases Int.lt_or_le s.2 r.2 with hlt | hle
    · obtain ⟨t, ht, t1, t2⟩ := (hasR_iff b (s.2 + 1)).1 (h (s.2 + 1) ((hasR_iff a _).2 ⟨r, hr, by omega, by omega⟩))
      have hss := hb.2 s hs
      rcases hb.pair hs ht with rfl | h' | h' <;> omega
    · exact hle
  simp [h1, this]
theorem insB_has {a b : RL} (h : insB a b = true) {n : Int} (hn : hasR a n = true) : hasR b n = true := by
  unfold insB at h
  rw [List.all_eq_true] at h
  obtain ⟨r, hr, h1, h2⟩ := (hasR_iff a n).1 hn
  have := h r hr
  rw [List.any_eq_true] at this
  obtain ⟨s, hs, h3⟩ := this
  simp at h3
  exact (hasR_iff b n).2 ⟨s, hs, by omega, by omega⟩
theorem agesF_iff (f b m e n : Int) (k i : Nat) : agesF f b m e n k i = true ↔ ∃ q, q < k ∧ wrt f b m q = n ∧ (q : Int) - e ≤ i ∧ (i : Int) ≤ q + e := by
  unfold agesF
  rw [List.any_eq_true]
  constructor
  · rintro ⟨q, hq, h⟩; simp at h hq; exact ⟨q, hq, h.1, h.2.1, h.2.2⟩
  · rintro ⟨q, hq, h1, h2, h3⟩; exact ⟨q, by simpa using hq, by simp [h1]; omega⟩
end Go.Proofs.Ytagfcfojfjkmbaa
