/- Walk, plain: parts of divisions; who is reached; one plan. -/
import Derived.Test.YtpnkgjkoophckaaZD
import Derived.Test.YtpnkgjkoophckaaYN
namespace Go.Proofs.Ytpnkgjkoophckaa

theorem Prt.mem {ok : Nat → Bool} {s : Nat} {l : List Nat} (h : Prt ok s l) : s < 256 → ∀ p, p ∈ l → p &&& s = p ∧ 0 < p ∧ ok p = true := by
  induction h with
  | nil => intro _ p hp; cases hp
  | @snoc s p l h1 h2 h3 _ ih =>
    intro hs q hq
    rcases List.mem_append.1 hq with hq | hq
    · obtain ⟨a, b, c⟩ := ih (by omega) q hq
      refine ⟨?_, b, c⟩
      rw [sub_iff] at a ⊢
      intro i hi
      have := a i hi
      rw [sub_bit hs h1, Bool.and_eq_true] at this
      exact this.1
    · obtain rfl : q = p := by simpa using hq
      exact ⟨h1, h2, h3⟩
/-- How many parts hold a place. -/
theorem Prt.one {ok : Nat → Bool} {s : Nat} {l : List Nat} (h : Prt ok s l) : s < 256 → ∀ i, l.countP (fun p => p.testBit i) = if s.testBit i = true then 1 else 0 := by
  induction h with
  | nil => intro _ i; simp
  | @snoc s p l h1 h2 h3 _ ih =>
    intro hs i
    rw [List.countP_append, ih (by omega) i, sub_bit hs h1]
    have := sub_iff.1 h1 i
    cases hp : p.testBit i
    · cases hsi : s.testBit i <;> simp [hp]
    · rw [this hp]; simp [hp]
theorem dvW_mem {m : Mp} (ok : OkM m) {L : Int} (hL : L ≤ 1048575) {p : Nat} (hp : p ∈ dvW m L) : p < 2 ^ m.nw ∧ 0 < p ∧ lgM m p ≤ L ∧ rsT m 0 p < 1048576 := by
  have w := whole_pos ok
  have h := (dvW_iff ok L).2.2 (fun e => by rw [e] at hp; cases hp)
  obtain ⟨a, b, c⟩ := h.mem w.2.1 p hp
  have hlt : p < 2 ^ m.nw := Nat.lt_of_le_of_lt (sub_le a) w.2.2
  unfold okL at c
  rw [decide_eq_true_eq] at c
  refine ⟨hlt, b, c, ?_⟩
  rcases lgM_fin ok hlt with ⟨_, h, _⟩ | ⟨h, _⟩
  · exact h
  · omega
theorem dvW_len {m : Mp} (ok : OkM m) (L : Int) : (dvW m L).length ≤ m.nw := by
  by_cases h : dvW m L = []
  · rw [h]; simp
  · obtain ⟨d1, d2, _⟩ := dvW_iff ok L
    obtain ⟨n, hn⟩ := d1.1 h
    exact d2 _ (dvs_ones m.nw ok.nw.2 (fun i hi => by unfold okL; exact decide_eq_true (dvs_single ok hn hi)))
theorem dvW_reach {m : Mp} (ok : OkM m) (L : Int) : dvW m L ≠ [] ↔ ∀ i, i < m.nw → lgM m (2 ^ i) ≤ L := by
  obtain ⟨d1, _, _⟩ := dvW_iff ok L
  constructor
  · intro h i hi
    obtain ⟨n, hn⟩ := d1.1 h
    exact dvs_single ok hn hi
  · intro h
    exact d1.2 ⟨_, dvs_ones m.nw ok.nw.2 (fun i hi => by unfold okL; exact decide_eq_true (h i hi))⟩
theorem rchN_all (m : Mp) (L : Int) (k : Nat) : (rchN m L k).length = k ↔ ∀ i, i < k → lgM m (2 ^ i) ≤ L := by
  unfold rchN
  have h : (((List.range k).filter fun n => decide (lgM m (2 ^ n) ≤ L)).length = (List.range k).length) ↔ ∀ a ∈ List.range k, decide (lgM m (2 ^ a) ≤ L) = true := List.length_filter_eq_length_iff
  rw [List.length_range] at h
  rw [h]
  simp
theorem reach_plan {m : Mp} (ok : OkM m) (L : Int) : (rchN m L m.nw).length = m.nw ↔ dvW m L ≠ [] := by
  rw [rchN_all, dvW_reach ok]
end Go.Proofs.Ytpnkgjkoophckaa
