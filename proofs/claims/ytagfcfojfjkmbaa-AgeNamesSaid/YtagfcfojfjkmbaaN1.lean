/- Plain: which days a record allows; which days are possible. -/
import Derived.Test.YtagfcfojfjkmbaaF0
import Derived.Test.YtagfcfojfjkmbaaPC
namespace Go.Proofs.Ytagfcfojfjkmbaa

def foldG (day : Int) : RL → RL
  | [] => []
  | x :: l => ext (foldG day l) (day - 365 * x.2 - 364) (day - 365 * x.1)
theorem foldR_map (day : Int) (xs : List BR) : foldR day xs = foldG day (xs.map (·.1)).reverse := by
  unfold foldR
  rw [List.foldl_eq_foldr_reverse, ← List.map_reverse]
  induction xs.reverse with
  | nil => rfl
  | cons x l ih => rw [List.foldr_cons, List.map_cons, foldG, ← ih]
theorem yearsL_map {l : RL} (h : ∀ r ∈ l, -1000000 ≤ r.1 ∧ r.1 ≤ 1000000 ∧ -1000000 ≤ r.2 ∧ r.2 ≤ 1000000) : ((yearsL l).map (·.1)).reverse = l := by
  apply List.ext_getElem
  · simp [yearsL, down]
  · intro i h1 h2
    simp only [yearsL, down, List.map_map, List.getElem_reverse, List.getElem_map, List.getElem_range, Function.comp, List.length_map, List.length_range]
    rw [show l.length - 1 - (l.length - 1 - i) = i by omega]
    exact brAt_val h i h2
theorem foldG_low (day : Int) {l : RL} {B : Int} (h : ∀ s ∈ l, day - 365 * s.2 - 364 ≤ B) : ∀ r ∈ foldG day l, r.1 ≤ B := by
  induction l with
  | nil => simp [foldG]
  | cons x l ih =>
    rw [foldG]
    exact ext_mem_low (ih fun s hs => h s (List.mem_cons_of_mem _ hs)) (h x List.mem_cons_self)
theorem foldG_facts (day : Int) {l : RL} (h : Nrm l) : Nrm (foldG day l) ∧ ∀ n, hasR (foldG day l) n = hasR l ((day - n) / 365) := by
  induction l with
  | nil => exact ⟨Nrm.nil, fun n => rfl⟩
  | cons x l ih =>
    obtain ⟨hx, hlt, hl⟩ := (Nrm.cons_iff x l).1 h
    obtain ⟨i1, i2⟩ := ih hl
    obtain ⟨e1, e2⟩ := ext_facts i1 (lo := day - 365 * x.2 - 364) (hi := day - 365 * x.1) (by omega) (foldG_low day fun s hs => by have := hlt s hs; have := hl.2 s hs; omega)
    refine ⟨e1, fun n => ?_⟩
    rw [foldG, e2, i2, hasR_cons, Bool.or_comm]
    congr 1
    rw [Bool.eq_iff_iff]
    simp only [Bool.and_eq_true, decide_eq_true_eq]
    omega

/-- Record j allows the day of birth b. -/
def Pers.okB (p : Pers) (j : Nat) (b : Int) : Bool := decide (b ≤ (p.C j).day) && decide (((p.C j).day - b) / 365 ≤ 120) && agesF (p.rl j).f (p.rl j).b (p.rl j).m (p.rl j).e (p.C j).num 126 (((p.C j).day - b) / 365).toNat
theorem allow_facts (p : Pers) (j : Nat) : Nrm (p.allow j) ∧ ∀ n, hasR (p.allow j) n = p.okB j n := by
  unfold Pers.allow
  obtain ⟨r1, r2, r3⟩ := rngs_facts (agesF (p.rl j).f (p.rl j).b (p.rl j).m (p.rl j).e (p.C j).num 126) 121
  have hb : ∀ r ∈ ageRs (p.rl j).f (p.rl j).b (p.rl j).m (p.rl j).e (p.C j).num, -1000000 ≤ r.1 ∧ r.1 ≤ 1000000 ∧ -1000000 ≤ r.2 ∧ r.2 ≤ 1000000 := fun r hr => by
    have h1 := rngs_bd _ _ r hr
    have h2 := rngs_bd1 _ _ r hr
    omega
  rw [foldR_map, yearsL_map hb]
  obtain ⟨g1, g2⟩ := foldG_facts (p.C j).day (l := ageRs (p.rl j).f (p.rl j).b (p.rl j).m (p.rl j).e (p.C j).num) r1
  refine ⟨g1, fun n => ?_⟩
  rw [g2]
  unfold ageRs Pers.okB
  rw [r3]
  congr 1
  rw [Bool.eq_iff_iff]
  simp only [Bool.and_eq_true, decide_eq_true_eq]
  omega

theorem daysL_has (p : Pers) (out : Int → Bool) (h : p.lo ≤ p.hi) (k : Nat) : Nrm (daysL p out k) ∧ ∀ n, hasR (daysL p out k) n = true ↔ p.lo ≤ n ∧ n ≤ p.hi ∧ ∀ j : Nat, j < k → out j = true ∨ p.okB j n = true := by
  induction k with
  | zero =>
    refine ⟨(Nrm.cons_iff _ _).2 ⟨h, by simp, Nrm.nil⟩, fun n => ?_⟩
    simp [daysL, hasR]
  | succ k ih =>
    obtain ⟨i1, i2⟩ := ih
    rw [daysL]
    by_cases ho : out k = true
    · rw [if_pos ho]
      refine ⟨i1, fun n => ?_⟩
      rw [i2]
      constructor
      · rintro ⟨a, b, c⟩
        refine ⟨a, b, fun j hj => ?_⟩
        rcases Nat.lt_succ_iff_lt_or_eq.1 hj with h | rfl
        · exact c j h
        · exact .inl ho
      · rintro ⟨a, b, c⟩
        exact ⟨a, b, fun j hj => c j (by omega)⟩
    · rw [if_neg ho]
      obtain ⟨a1, a2⟩ := allow_facts p k
      refine ⟨meetL_nrm i1 a1, fun n => ?_⟩
      rw [meetL_has i1 a1, Bool.and_eq_true, i2, a2]
      constructor
      · rintro ⟨⟨a, b, c⟩, d⟩
        refine ⟨a, b, fun j hj => ?_⟩
        rcases Nat.lt_succ_iff_lt_or_eq.1 hj with h | rfl
        · exact c j h
        · exact .inr d
      · rintro ⟨a, b, c⟩
        refine ⟨⟨a, b, fun j hj => c j (by omega)⟩, ?_⟩
        rcases c k (by omega) with h | h
        · exact absurd h ho
        · exact h
theorem Nrm.ne_nil {l : RL} (h : Nrm l) : l ≠ [] ↔ ∃ n, hasR l n = true := by
  cases l with
  | nil => simp [hasR]
  | cons x l => simp only [ne_eq, reduceCtorEq, not_false_eq_true, true_iff]; exact ⟨x.1, h.first⟩

theorem Pers.ordered {p : Pers} (h : p.fault = 0) : p.lo ≤ p.hi := by
  obtain ⟨n4, n8, n0, l1, l2, l3, l4, l5, okR, okC⟩ := Pers.ok_facts h
  omega
/-- The possible days of birth. -/
theorem born_has {p : Pers} (h : p.fault = 0) : Nrm p.born ∧ ∀ n, hasR p.born n = true ↔ p.lo ≤ n ∧ n ≤ p.hi ∧ ∀ j : Nat, j < p.nc → p.okB j n = true := by
  unfold Pers.born Pers.days
  rw [if_pos h]
  obtain ⟨h1, h2⟩ := daysL_has p (fun _ => false) (Pers.ordered h) p.nc
  refine ⟨h1, fun n => ?_⟩
  rw [h2]
  simp
theorem okOut_iff {p : Pers} (h : p.fault = 0) (out : List Int) : p.okOut out = true ↔ ∃ b, p.lo ≤ b ∧ b ≤ p.hi ∧ ∀ j : Nat, j < p.nc → (j : Int) ∈ out ∨ p.okB j b = true := by
  unfold Pers.okOut
  obtain ⟨h1, h2⟩ := daysL_has p (inL (fun j => out.getD j 0) out.length) (Pers.ordered h) p.nc
  rw [Bool.not_eq_true', List.isEmpty_eq_false_iff, h1.ne_nil]
  have hin : ∀ j : Int, inL (fun j => out.getD j 0) out.length j = true ↔ j ∈ out := fun j => by
    simp only [inL, List.any_eq_true, List.mem_range, beq_iff_eq]
    constructor
    · rintro ⟨i, hi, rfl⟩
      simp [hi]
    · intro hj
      obtain ⟨i, hi, rfl⟩ := List.getElem_of_mem hj
      exact ⟨i, hi, by simp [hi]⟩
  constructor
  · rintro ⟨n, hn⟩
    obtain ⟨a, b, c⟩ := (h2 n).1 hn
    exact ⟨n, a, b, fun j hj => (c j hj).imp (hin _).1 id⟩
  · rintro ⟨n, a, b, c⟩
    exact ⟨n, (h2 n).2 ⟨a, b, fun j hj => (c j hj).imp (hin _).2 id⟩⟩
end Go.Proofs.Ytagfcfojfjkmbaa
