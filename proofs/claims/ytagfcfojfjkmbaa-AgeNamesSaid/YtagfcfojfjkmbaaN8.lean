/- Plain: what is in both of two lists, by trying all pairs. -/
import Derived.Test.YtagfcfojfjkmbaaPA
namespace Go.Proofs.Ytagfcfojfjkmbaa

def meetO (x : Int × Int) (y : Int × Int) : RL := if max x.1 y.1 ≤ min x.2 y.2 then [(max x.1 y.1, min x.2 y.2)] else []
def meetX (x : Int × Int) (b : RL) : RL := b.flatMap (meetO x)
def meetP (a b : RL) : RL := a.flatMap fun x => meetX x b
theorem meetX_nil (x : Int × Int) : meetX x [] = [] := rfl
theorem meetX_cons (x y : Int × Int) (b : RL) : meetX x (y :: b) = meetO x y ++ meetX x b := rfl
theorem meetP_cons (x : Int × Int) (a b : RL) : meetP (x :: a) b = meetX x b ++ meetP a b := rfl
theorem meetO_in {x y r : Int × Int} (h : r ∈ meetO x y) : r.1 ≤ r.2 ∧ x.1 ≤ r.1 ∧ r.2 ≤ x.2 ∧ y.1 ≤ r.1 ∧ r.2 ≤ y.2 := by
  unfold meetO at h
  split at h
  · rw [List.mem_singleton] at h; subst h; simp only; omega
  · cases h
theorem meetX_in {x r : Int × Int} {b : RL} (h : r ∈ meetX x b) : ∃ y ∈ b, r ∈ meetO x y := by
  unfold meetX at h
  rw [List.mem_flatMap] at h
  exact h
theorem meetO_has (x y : Int × Int) (n : Int) : hasR (meetO x y) n = ((decide (x.1 ≤ n) && decide (n ≤ x.2)) && (decide (y.1 ≤ n) && decide (n ≤ y.2))) := by
  unfold meetO
  split
  · rw [hasR_cons, hasR_nil, Bool.or_false, Bool.eq_iff_iff]
    simp only [Bool.and_eq_true, decide_eq_true_eq]
    omega
  · rw [hasR_nil, eq_comm, ← Bool.not_eq_true]
    simp only [Bool.and_eq_true, decide_eq_true_eq]
    omega
theorem meetX_facts (x : Int × Int) {b : RL} (hb : Nrm b) : Nrm (meetX x b) ∧ ∀ n, hasR (meetX x b) n = ((decide (x.1 ≤ n) && decide (n ≤ x.2)) && hasR b n) := by
  induction b with
  | nil => exact ⟨Nrm.nil, fun n => by simp [meetX_nil, hasR_nil]⟩
  | cons y b ih =>
    obtain ⟨hy, hlt, hb'⟩ := (Nrm.cons_iff y b).1 hb
    obtain ⟨i1, i2⟩ := ih hb'
    rw [meetX_cons]
    constructor
    · refine ⟨List.pairwise_append.2 ⟨?_, i1.1, fun r hr s hs => ?_⟩, fun r hr => ?_⟩
      · unfold meetO; split <;> simp
      · obtain ⟨z, hz, hs⟩ := meetX_in hs
        have := meetO_in hr; have := meetO_in hs; have := hlt z hz
        omega
      · rcases List.mem_append.1 hr with hr | hr
        · exact (meetO_in hr).1
        · exact i1.2 r hr
    · intro n
      rw [hasR_append, meetO_has, i2, hasR_cons, Bool.and_or_distrib_left]
theorem meetP_facts {a b : RL} (ha : Nrm a) (hb : Nrm b) : Nrm (meetP a b) ∧ ∀ n, hasR (meetP a b) n = (hasR a n && hasR b n) := by
  induction a with
  | nil => exact ⟨Nrm.nil, fun n => rfl⟩
  | cons x a ih =>
    obtain ⟨hx, hlt, ha'⟩ := (Nrm.cons_iff x a).1 ha
    obtain ⟨i1, i2⟩ := ih ha'
    obtain ⟨x1, x2⟩ := meetX_facts x hb
    rw [meetP_cons]
    constructor
    · refine ⟨List.pairwise_append.2 ⟨x1.1, i1.1, fun r hr s hs => ?_⟩, fun r hr => ?_⟩
      · obtain ⟨y, _, hr⟩ := meetX_in hr
        unfold meetP at hs
        obtain ⟨z, hz, hs⟩ := List.mem_flatMap.1 hs
        obtain ⟨u, _, hs⟩ := meetX_in hs
        have := meetO_in hr; have := meetO_in hs; have := hlt z hz
        omega
      · rcases List.mem_append.1 hr with hr | hr
        · exact x1.2 r hr
        · exact i1.2 r hr
    · intro n
      rw [hasR_append, x2, i2, hasR_cons, Bool.and_or_distrib_right]
theorem meetP_eq {a b : RL} (ha : Nrm a) (hb : Nrm b) : meetP a b = meetL a b := by
  obtain ⟨h1, h2⟩ := meetP_facts ha hb
  exact Nrm.ext h1 (meetL_nrm ha hb) fun n => by rw [h2, meetL_has ha hb]
theorem meetO_length (x y : Int × Int) : (meetO x y).length ≤ 1 := by unfold meetO; split <;> simp
theorem meetX_length (x : Int × Int) (b : RL) : (meetX x b).length ≤ b.length := by
  induction b with
  | nil => simp [meetX_nil]
  | cons y b ih => rw [meetX_cons, List.length_append, List.length_cons]; have := meetO_length x y; omega
theorem meetP_length (a b : RL) : (meetP a b).length ≤ a.length * b.length := by
  induction a with
  | nil => simp [meetP]
  | cons x a ih => rw [meetP_cons, List.length_append, List.length_cons, Nat.add_mul]; have := meetX_length x b; omega
/-- After some of the rounds. -/
def meetT (a b : RL) (i k : Nat) : RL := meetP (a.take i) b ++ (match a[i]? with | some x => meetX x (b.take k) | none => [])
theorem meetT_zero (a b : RL) (i : Nat) : meetT a b i 0 = meetP (a.take i) b := by
  unfold meetT
  cases a[i]? <;> simp [meetX]
theorem meetT_next {a b : RL} {i k : Nat} (hi : i < a.length) (hk : k < b.length) : meetT a b i (k + 1) = meetT a b i k ++ meetO a[i] b[k] := by
  unfold meetT
  rw [List.getElem?_eq_getElem hi]
  simp only [List.append_assoc]
  congr 1
  rw [List.take_succ_eq_append_getElem hk]
  unfold meetX
  rw [List.flatMap_append]
  simp
theorem meetT_row {a b : RL} {i : Nat} (hi : i < a.length) : meetT a b i b.length = meetP (a.take (i + 1)) b := by
  unfold meetT
  rw [List.getElem?_eq_getElem hi, List.take_length, List.take_succ_eq_append_getElem hi]
  unfold meetP
  rw [List.flatMap_append]
  simp
theorem meetT_length {a b : RL} {i k : Nat} (ha : a.length ≤ 1000) (hb : b.length ≤ 1000) : (meetT a b i k).length ≤ 1002000 := by
  unfold meetT
  have h1 := meetP_length (a.take i) b
  have h2 : (a.take i).length ≤ 1000 := by rw [List.length_take]; omega
  have h3 : (a.take i).length * b.length ≤ 1000 * 1000 := Nat.mul_le_mul h2 hb
  rw [List.length_append]
  cases a[i]? with
  | none => simp; omega
  | some x =>
    have h4 := meetX_length x (b.take k)
    have h5 : (b.take k).length ≤ 1000 := by rw [List.length_take]; omega
    show _ + (meetX x (b.take k)).length ≤ _
    omega
end Go.Proofs.Ytagfcfojfjkmbaa
