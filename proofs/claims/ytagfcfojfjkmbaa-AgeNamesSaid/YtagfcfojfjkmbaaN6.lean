/- Plain: the ages on a day. -/
import Derived.Test.YtagfcfojfjkmbaaN3
namespace Go.Proofs.Ytagfcfojfjkmbaa

def onG (day : Int) : RL → RL
  | [] => []
  | x :: l => if x.1 ≤ day then ext (onG day l) ((day - mn x.2 day) / 365) ((day - x.1) / 365) else onG day l
theorem onL_map (day : Int) (xs : List BR) : onL day xs = onG day (xs.map (·.1)).reverse := by
  unfold onL
  rw [List.foldl_eq_foldr_reverse, ← List.map_reverse]
  induction xs.reverse with
  | nil => rfl
  | cons x l ih => rw [List.foldr_cons, List.map_cons, onG, ← ih]; rfl
theorem onG_low (day : Int) {l : RL} {B : Int} (h : ∀ s ∈ l, s.1 ≤ s.2 ∧ B ≤ s.1) : ∀ r ∈ onG day l, r.1 ≤ (day - B) / 365 := by
  induction l with
  | nil => simp [onG]
  | cons x l ih =>
    rw [onG]
    have hx := h x List.mem_cons_self
    split
    · rename_i hd
      refine ext_mem_low (ih fun s hs => h s (List.mem_cons_of_mem _ hs)) ?_
      refine Int.ediv_le_ediv (by omega) ?_
      unfold mn
      omega
    · exact ih fun s hs => h s (List.mem_cons_of_mem _ hs)
theorem div_mid {lo hi day a : Int} (h : lo ≤ hi) : ((day - hi) / 365 ≤ a ∧ a ≤ (day - lo) / 365) ↔ ∃ b, lo ≤ b ∧ b ≤ hi ∧ (day - b) / 365 = a := by
  constructor
  · rintro ⟨h1, h2⟩
    by_cases e : (day - hi) / 365 = a
    · exact ⟨hi, h, Int.le_refl _, e⟩
    · exact ⟨day - 365 * a, by omega, by omega, by omega⟩
  · rintro ⟨b, h1, h2, rfl⟩
    exact ⟨by omega, by omega⟩
theorem onG_facts (day : Int) {l : RL} (h : Nrm l) : Nrm (onG day l) ∧ ∀ a, hasR (onG day l) a = true ↔ ∃ b, hasR l b = true ∧ b ≤ day ∧ (day - b) / 365 = a := by
  induction l with
  | nil => exact ⟨Nrm.nil, fun a => by simp [onG, hasR]⟩
  | cons x l ih =>
    obtain ⟨hx, hlt, hl⟩ := (Nrm.cons_iff x l).1 h
    obtain ⟨i1, i2⟩ := ih hl
    rw [onG]
    by_cases hd : x.1 ≤ day
    · rw [if_pos hd]
      have hm : x.1 ≤ mn x.2 day := by unfold mn; omega
      obtain ⟨e1, e2⟩ := ext_facts i1 (lo := (day - mn x.2 day) / 365) (hi := (day - x.1) / 365) (Int.ediv_le_ediv (by omega) (by omega)) (fun r hr => by
        have := onG_low day (l := l) (B := x.2 + 2) (fun s hs => ⟨hl.2 s hs, by have := hlt s hs; omega⟩) r hr
        refine Int.le_trans this (Int.ediv_le_ediv (by omega) ?_)
        unfold mn; omega)
      refine ⟨e1, fun a => ?_⟩
      rw [e2, Bool.or_eq_true, i2, Bool.and_eq_true, decide_eq_true_eq, decide_eq_true_eq, div_mid hm]
      constructor
      · rintro (⟨b, h1, h2, h3⟩ | ⟨b, h1, h2, h3⟩)
        · exact ⟨b, by rw [hasR_cons, h1, Bool.or_true], h2, h3⟩
        · have hb : b ≤ x.2 ∧ b ≤ day := by unfold mn at h2; omega
          exact ⟨b, by rw [hasR_cons]; simp [h1, hb.1], hb.2, h3⟩
      · rintro ⟨b, h1, h2, h3⟩
        rw [hasR_cons, Bool.or_eq_true, Bool.and_eq_true, decide_eq_true_eq, decide_eq_true_eq] at h1
        rcases h1 with h1 | h1
        · exact .inr ⟨b, h1.1, by unfold mn; omega, h3⟩
        · exact .inl ⟨b, h1, h2, h3⟩
    · rw [if_neg hd]
      refine ⟨i1, fun a => ?_⟩
      rw [i2]
      constructor
      · rintro ⟨b, h1, h2, h3⟩
        exact ⟨b, by rw [hasR_cons, h1, Bool.or_true], h2, h3⟩
      · rintro ⟨b, h1, h2, h3⟩
        rw [hasR_cons, Bool.or_eq_true, Bool.and_eq_true, decide_eq_true_eq, decide_eq_true_eq] at h1
        rcases h1 with h1 | h1
        · omega
        · exact ⟨b, h1, h2, h3⟩
/-- The ages on a day, by the days of birth. -/
theorem on_facts {p : Pers} (h : p.fault = 0) (day : Int) (hE : p.onE day = 0) : Nrm (p.on day) ∧ ∀ a, hasR (p.on day) a = true ↔ ∃ b, hasR p.born b = true ∧ b ≤ day ∧ (day - b) / 365 = a := by
  have hb := born_in p
  unfold Pers.on
  rw [if_pos hE, onL_map, yearsL_map (fun r hr => by have := hb r hr; omega)]
  exact onG_facts day (born_has h).1
theorem onE_ok {p : Pers} (h : p.fault = 0) {day b : Int} (hd : -50000 ≤ day ∧ day ≤ 50000) (hb : hasR p.born b = true) (hl : b ≤ day) : p.onE day = 0 := by
  obtain ⟨b1, b2⟩ := born_has h
  unfold Pers.onE
  rw [if_pos h, if_neg (by simp [inB, hd])]
  cases hp : p.born with
  | nil => rw [hp] at hb; simp [hasR] at hb
  | cons r l =>
    rw [hp] at hb b1
    have : r.1 ≤ b := by
      rcases Int.lt_or_le b r.1 with h1 | h1
      · rw [b1.low b h1] at hb; cases hb
      · exact h1
    simp only []
    rw [if_neg (by omega)]

theorem on_length (p : Pers) (day : Int) : (p.on day).length ≤ 1000 := by
  unfold Pers.on
  split
  · rename_i hE
    have hd : -50000 ≤ day ∧ day ≤ 50000 := by
      unfold Pers.onE at hE
      split at hE
      · split at hE
        · cases hE
        · rename_i h1 h2
          simpa [inB] using h2
      · rename_i h1; exact absurd hE h1
    have := (onL_facts day hd.1 hd.2 _ (yearsL p.born) rfl).1
    have h2 := born_length p
    rw [yearsL_length] at this
    omega
  · simp

/-- What is known of the person that Truly makes. -/
def Pers.TrueOf (x p : Pers) (birth : Int) : Prop := x.fault = 0 ∧ p.lo ≤ birth ∧ birth ≤ p.hi ∧ hasR x.born birth = true
theorem true_of {x p : Pers} {birth : Int} (hp : p.fault = 0) (h1 : x.lo = p.lo) (h2 : x.hi = p.hi) (h3 : x.nr = p.nr) (h4 : x.R = p.R) (h5 : x.nc ≤ p.nc) (hb : p.lo ≤ birth ∧ birth ≤ p.hi)
    (hc : ∀ j, j < x.nc → (x.C j).ok p.nr = true ∧ x.okB j birth = true) : x.TrueOf p birth := by
  obtain ⟨n4, n8, n0, l1, l2, l3, l4, l5, okR, okC⟩ := Pers.ok_facts hp
  have hf : x.fault = 0 := by
    unfold Pers.fault errOf
    rw [if_neg (by omega), if_pos]
    simp only [Pers.okAll, allB, inB, Bool.and_eq_true, List.all_eq_true, List.mem_range, decide_eq_true_eq, Bool.not_eq_true', beq_eq_false_iff_ne]
    rw [h1, h2, h3, h4]
    exact ⟨⟨⟨⟨⟨⟨l1, l2⟩, l3, l4⟩, l5⟩, by omega⟩, okR⟩, fun j hj => (hc j hj).1⟩
  exact ⟨hf, hb.1, hb.2, ((born_has hf).2 birth).2 ⟨by omega, by omega, fun j hj => (hc j hj).2⟩⟩
end Go.Proofs.Ytagfcfojfjkmbaa
