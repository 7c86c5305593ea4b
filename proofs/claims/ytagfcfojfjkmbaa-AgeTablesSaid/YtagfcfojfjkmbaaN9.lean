/- Plain: counts over a split. -/
import Derived.Test.YtagfcfojfjkmbaaS9
namespace Go.Proofs.Ytagfcfojfjkmbaa

theorem ansI_iff (fl : Nat → Bool) (lo hi : Int) (k : Nat) : ansI fl lo hi k = true ↔ ∃ a, a < k ∧ fl a = true ∧ lo ≤ a ∧ (a : Int) ≤ hi := by
  induction k with
  | zero => simp [ansI]
  | succ k ih =>
    rw [ansI, Bool.or_eq_true, ih, Bool.and_eq_true]
    simp only [inB, Bool.and_eq_true, decide_eq_true_eq]
    constructor
    · rintro (⟨a, h1, h2⟩ | ⟨h1, h2⟩)
      · exact ⟨a, by omega, h2⟩
      · exact ⟨k, by omega, h1, h2⟩
    · rintro ⟨a, h1, h2⟩
      rcases Nat.lt_succ_iff_lt_or_eq.1 h1 with h | rfl
      · exact .inl ⟨a, h, h2⟩
      · exact .inr ⟨h2.1, h2.2⟩
theorem ansO_iff (fl : Nat → Bool) (lo hi : Int) (k : Nat) : ansO fl lo hi k = true ↔ ∃ a, a < k ∧ fl a = true ∧ ¬ (lo ≤ a ∧ (a : Int) ≤ hi) := by
  induction k with
  | zero => simp [ansO]
  | succ k ih =>
    rw [ansO, Bool.or_eq_true, ih, Bool.and_eq_true]
    simp only [inB, Bool.not_eq_true', Bool.and_eq_false_iff, decide_eq_false_iff_not]
    constructor
    · rintro (⟨a, h1, h2⟩ | ⟨h1, h2⟩)
      · exact ⟨a, by omega, h2⟩
      · exact ⟨k, by omega, h1, by omega⟩
    · rintro ⟨a, h1, h2⟩
      rcases Nat.lt_succ_iff_lt_or_eq.1 h1 with h | rfl
      · exact .inl ⟨a, h, h2⟩
      · exact .inr ⟨h2.1, by omega⟩
theorem cnt_split (f b m e x k : Int) : cntI f b m e 0 (k - 1) x = cntO f b m e k 120 x ∧ cntO f b m e 0 (k - 1) x = cntI f b m e k 120 x := by
  unfold cntI cntO
  constructor
  · rw [Bool.eq_iff_iff, ansI_iff, ansO_iff]
    constructor
    · rintro ⟨a, h1, h2, h3⟩; exact ⟨a, h1, h2, by omega⟩
    · rintro ⟨a, h1, h2, h3⟩; exact ⟨a, h1, h2, by omega⟩
  · rw [Bool.eq_iff_iff, ansI_iff, ansO_iff]
    constructor
    · rintro ⟨a, h1, h2, h3⟩; exact ⟨a, h1, h2, by omega⟩
    · rintro ⟨a, h1, h2, h3⟩; exact ⟨a, h1, h2, by omega⟩
theorem cnt_all (f b m e x : Int) : cntO f b m e 0 120 x = false := by
  unfold cntO
  cases h : ansO (agesF f b m e x 126) 0 120 121
  · rfl
  · obtain ⟨a, h1, _, h3⟩ := (ansO_iff _ _ _ _).1 h
    omega
/-- A number that is written for an age has this age. -/
theorem cnt_true {f b m e : Int} (he : 0 ≤ e) (lo hi : Int) (y : Nat) (hy : y ≤ 120) : cntI f b m e lo hi (wrt f b m y) = true ∨ cntO f b m e lo hi (wrt f b m y) = true := by
  have hf : agesF f b m e (wrt f b m y) 126 y = true := (agesF_iff _ _ _ _ _ _ _).2 ⟨y, by omega, rfl, by omega, by omega⟩
  by_cases h : lo ≤ (y : Int) ∧ (y : Int) ≤ hi
  · exact .inl ((ansI_iff _ _ _ _).2 ⟨y, by omega, hf, h.1, h.2⟩)
  · exact .inr ((ansO_iff _ _ _ _).2 ⟨y, by omega, hf, h⟩)
theorem cLo_cHi {I O : Int → Bool} {z : Nat → Int} {n : Nat} (h : ∀ j, j < n → (I (z j) || O (z j)) = true) : cLo I O z n + cHi O z n = n := by
  induction n with
  | zero => rfl
  | succ n ih =>
    have h1 := ih (fun j hj => h j (by omega))
    have h2 := h n (by omega)
    rw [cLo, cHi]
    cases hI : I (z n) <;> cases hO : O (z n) <;> simp [hI, hO] at h2 ⊢ <;> omega
theorem cLo_congr {I O I' O' : Int → Bool} {z : Nat → Int} {n : Nat} (h : ∀ j, j < n → I (z j) = I' (z j) ∧ O (z j) = O' (z j)) : cLo I O z n = cLo I' O' z n ∧ cHi I z n = cHi I' z n := by
  induction n with
  | zero => exact ⟨rfl, rfl⟩
  | succ n ih =>
    obtain ⟨h1, h2⟩ := ih (fun j hj => h j (by omega))
    obtain ⟨h3, h4⟩ := h n (by omega)
    rw [cLo, cLo, cHi, cHi, h1, h2, h3, h4]
    exact ⟨rfl, rfl⟩
theorem cLo_all {I O : Int → Bool} {z : Nat → Int} {n : Nat} (h : ∀ j, j < n → I (z j) = true ∧ O (z j) = false) : cLo I O z n = n ∧ cHi I z n = n := by
  induction n with
  | zero => exact ⟨rfl, rfl⟩
  | succ n ih =>
    obtain ⟨h1, h2⟩ := ih (fun j hj => h j (by omega))
    obtain ⟨h3, h4⟩ := h n (by omega)
    rw [cLo, cHi, h1, h2, h3, h4]
    exact ⟨rfl, rfl⟩
/-- The bounds of a list of numbers that are written for ages, at a split. -/
theorem cnt_ok {f b m e : Int} (he : 0 ≤ e) (lo hi : Int) {z : Nat → Int} {y : Nat → Nat} {n : Nat} (hz : ∀ j, j < n → y j ≤ 120 ∧ z j = wrt f b m (y j)) : cntOk (cntI f b m e lo hi) (cntO f b m e lo hi) z n = true := by
  simp only [cntOk, allB, List.all_eq_true, List.mem_range, Bool.or_eq_true]
  intro j hj
  obtain ⟨h1, h2⟩ := hz j hj
  rw [h2]; exact cnt_true he lo hi _ h1
theorem cnt_tables {f b m e : Int} (he : 0 ≤ e) (k : Int) {z : Nat → Int} {y : Nat → Nat} {n : Nat} (hz : ∀ j, j < n → y j ≤ 120 ∧ z j = wrt f b m (y j)) :
    cLo (cntI f b m e 0 (k - 1)) (cntO f b m e 0 (k - 1)) z n + cHi (cntI f b m e k 120) z n = n ∧ cHi (cntI f b m e 0 (k - 1)) z n + cLo (cntI f b m e k 120) (cntO f b m e k 120) z n = n ∧
      cLo (cntI f b m e 0 120) (cntO f b m e 0 120) z n = n ∧ cHi (cntI f b m e 0 120) z n = n := by
  have hor : ∀ lo hi j, j < n → (cntI f b m e lo hi (z j) || cntO f b m e lo hi (z j)) = true := fun lo hi j hj => by
    obtain ⟨h1, h2⟩ := hz j hj
    rw [h2, Bool.or_eq_true]; exact cnt_true he lo hi _ h1
  refine ⟨?_, ?_, ?_⟩
  · have h1 := cLo_cHi (hor 0 (k - 1))
    have h2 := (cLo_congr (I := cntO f b m e 0 (k - 1)) (O := cntI f b m e 0 (k - 1)) (I' := cntI f b m e k 120) (O' := cntO f b m e k 120) (z := z) (n := n) (fun j _ => ⟨(cnt_split f b m e (z j) k).2, (cnt_split f b m e (z j) k).1⟩)).2
    rw [← h2]; exact h1
  · have h1 := cLo_cHi (I := cntO f b m e 0 (k - 1)) (O := cntI f b m e 0 (k - 1)) (z := z) (n := n) (fun j hj => by rw [Bool.or_comm]; exact hor 0 (k - 1) j hj)
    have h2 := (cLo_congr (I := cntO f b m e 0 (k - 1)) (O := cntI f b m e 0 (k - 1)) (I' := cntI f b m e k 120) (O' := cntO f b m e k 120) (z := z) (n := n) (fun j _ => ⟨(cnt_split f b m e (z j) k).2, (cnt_split f b m e (z j) k).1⟩)).1
    rw [← h2]; omega
  · exact cLo_all fun j hj => by
      have h1 := hor 0 120 j hj
      rw [cnt_all, Bool.or_false] at h1
      exact ⟨h1, cnt_all _ _ _ _ _⟩
end Go.Proofs.Ytagfcfojfjkmbaa
