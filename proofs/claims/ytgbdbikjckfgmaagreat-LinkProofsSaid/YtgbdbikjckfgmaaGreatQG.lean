/- Link, plain: what Cover's search reaches. -/
import Derived.Test.YtgbdbikjckfgmaaGreatOJ
namespace Go.Proofs.YtgbdbikjckfgmaaGreat
open Go.RowKit Go.Shelf

/-- From (R, M) to (R', M'): what is newly reached and met is closed, and dead. -/
structure Cl (g : Nat → Nat → Bool) (l : Nat → Int) (D R M R' M' : Nat → Bool) : Prop where
  monR : ∀ j, R j = true → R' j = true
  monM : ∀ k, M k = true → M' k = true
  met : ∀ j k, R' j = true → R j = false → g j k = true → M' k = true
  next : ∀ k, M' k = true → M k = false → l k ≠ -1 → R' (l k).toNat = true
  why : ∀ k, M' k = true → M k = false → ∃ j, R' j = true ∧ g j k = true
  good : ∀ j, R' j = true → R j = false → ∀ k, g j k = true → D k = true
variable {g : Nat → Nat → Bool} {l : Nat → Int} {D R M R1 M1 R2 M2 : Nat → Bool}
theorem Cl.refl : Cl g l D R M R M :=
  ⟨fun _ h => h, fun _ h => h, fun j k h h2 => (by rw [h] at h2; cases h2), fun k h h2 => (by rw [h] at h2; cases h2), fun k h h2 => (by rw [h] at h2; cases h2), fun j h h2 => (by rw [h] at h2; cases h2)⟩
theorem Cl.trans (a : Cl g l D R M R1 M1) (b : Cl g l D R1 M1 R2 M2) : Cl g l D R M R2 M2 := by
  refine ⟨fun j h => b.monR j (a.monR j h), fun k h => b.monM k (a.monM k h), fun j k h h2 h3 => ?_, fun k h h2 h3 => ?_, fun k h h2 => ?_, fun j h h2 k h3 => ?_⟩
  · cases c : R1 j
    · exact b.met j k h c h3
    · exact b.monM k (a.met j k c h2 h3)
  · cases c : M1 k
    · exact b.next k h c h3
    · exact b.monR _ (a.next k c h2 h3)
  · cases c : M1 k
    · exact b.why k h c
    · obtain ⟨j, h3, h4⟩ := a.why k c h2
      exact ⟨j, b.monR j h3, h4⟩
  · cases c : R1 j
    · exact b.good j h c k h3
    · exact a.good j c h2 k h3
/-- A new entry is met that has no link. -/
theorem Cl.meet {i k : Nat} (hi : R i = true) (hg : g i k = true) (hl : l k = -1) : Cl g l D R M R (putL M k true) := by
  refine ⟨fun _ h => h, fun q h => ?_, fun j q h h2 => (by rw [h] at h2; cases h2), fun q h h2 h3 => ?_, fun q h h2 => ?_, fun j h h2 => (by rw [h] at h2; cases h2)⟩
  · by_cases e : q = k
    · subst e; rw [putL_same]
    · rw [putL_ne e]; exact h
  · by_cases e : q = k
    · subst e; exact absurd hl h3
    · rw [putL_ne e] at h; rw [h] at h2; cases h2
  · by_cases e : q = k
    · subst e; exact ⟨i, hi, hg⟩
    · rw [putL_ne e] at h; rw [h] at h2; cases h2
/-- A new entry is met, and its link is followed. -/
theorem Cl.follow {i k : Nat} (hi : R i = true) (hg : g i k = true) (c : Cl g l D R (putL M k true) R2 M2) (hr : R2 (l k).toNat = true) : Cl g l D R M R2 M2 := by
  have hp : ∀ q, q ≠ k → putL M k true q = M q := fun q e => putL_ne e
  refine ⟨c.monR, fun q h => c.monM q ?_, c.met, fun q h h2 h3 => ?_, fun q h h2 => ?_, c.good⟩
  · by_cases e : q = k
    · subst e; rw [putL_same]
    · rw [hp q e]; exact h
  · by_cases e : q = k
    · subst e; exact hr
    · exact c.next q h (by rw [hp q e]; exact h2) h3
  · by_cases e : q = k
    · subst e; exact ⟨i, c.monR i hi, hg⟩
    · exact c.why q h (by rw [hp q e]; exact h2)
/-- All of an old entry's new ones are met: it is reached. -/
theorem Cl.close {i : Nat} (c : Cl g l D (putL R i true) M R2 M2) (hm : ∀ k, g i k = true → M2 k = true) (hd : ∀ k, g i k = true → D k = true) : Cl g l D R M R2 M2 ∧ R2 i = true := by
  have hi : R2 i = true := c.monR i putL_same
  refine ⟨⟨fun j h => c.monR j ?_, c.monM, fun j k h h2 h3 => ?_, c.next, c.why, fun j h h2 k h3 => ?_⟩, hi⟩
  · by_cases e : j = i
    · subst e; exact putL_same
    · rw [putL_ne e]; exact h
  · by_cases e : j = i
    · subst e; exact hm k h3
    · exact c.met j k h (by rw [putL_ne e]; exact h2) h3
  · by_cases e : j = i
    · subst e; exact hd k h3
    · exact c.good j h (by rw [putL_ne e]; exact h2) k h3
/-- From nothing: what is reached is a cover as small as the matching is large. -/
theorem Cl.cover {nn no n : Nat} (b : Best g nn no l n D) (hn : ∀ i k, g i k = true → k < nn) (c : Cl g l D (fun _ => false) (fun _ => false) R M) (hb : ∀ i, i < no → (∀ k, l k ≠ i) → R i = true) :
    ((List.range no).filter fun i => !R i).length + ((List.range nn).filter M).length = n :=
  b.cover hn ⟨hb, fun i k h h2 => c.met i k h rfl h2, fun k h h2 => c.next k h rfl h2⟩ (fun i k h h2 => c.good i h rfl k h2) fun k h => c.why k h rfl
theorem Best.free_good {nn no n : Nat} (b : Best g nn no l n D) {i : Nat} (hi : i < no) (hf : ∀ k, l k ≠ i) : ∀ k, g i k = true → D k = true := by
  rcases b.all i hi with ⟨k, h⟩ | h
  · exact absurd h (hf k)
  · exact h
end Go.Proofs.YtgbdbikjckfgmaaGreat
