/- Link, plain: the cover that is found. -/
import Derived.Test.YtgbdbikjckfgmaaGreatQH
namespace Go.Proofs.YtgbdbikjckfgmaaGreat
open Go.RowKit Go.Shelf

theorem pickN_mem {p : Nat → Bool} {n k : Nat} : k ∈ pickN p n ↔ k < n ∧ p k = true := by
  unfold pickN; rw [List.mem_filter, List.mem_range]
theorem pickN_up (p : Nat → Bool) (n : Nat) : (pickN p n).Pairwise (· < ·) := List.Pairwise.filter p List.pairwise_lt_range
theorem nz_at {l : List Nat} {j : Nat} (h : j < l.length) : nz l j = ((l[j] : Nat) : Int) := by
  unfold nz; simp [h]
theorem hasN_nz {l : List Nat} {x : Nat} (h : x ∈ l) : hasN (nz l) l.length x = true := by
  obtain ⟨j, hj, e⟩ := List.getElem_of_mem h
  exact hasN_iff.2 ⟨j, hj, by rw [nz_at hj, e]⟩
theorem pickN_rises (p : Nat → Bool) (n : Nat) : risesB (nz (pickN p n)) (pickN p n).length n = true := by
  unfold risesB
  refine allB_true fun k hk => ?_
  have h1 := (pickN_mem.1 (List.getElem_mem hk)).1
  have hz := nz_at hk
  have hi : inB (nz (pickN p n) k) 0 ((n : Int) - 1) = true := by
    rw [hz]; unfold inB; simp; omega
  rw [hi]
  rcases Nat.eq_zero_or_pos k with rfl | hk0
  · simp
  · have h2 := List.pairwise_iff_getElem.1 (pickN_up p n) (k - 1) k (by omega) hk (by omega)
    have hz2 := nz_at (l := pickN p n) (j := k - 1) (by omega)
    have h3 : ¬ nz (pickN p n) k ≤ nz (pickN p n) (k - 1) := by rw [hz, hz2]; omega
    simp [h3]
theorem OkF.bestD {f : Fl} (h : OkF f) : ∃ D, Best f.g f.nw f.no (f.m []).1 f.most D := by
  have h8 := h.nw
  have hn : ∀ i k, offG f.g (SK []) i k = true → k < f.nw := fun i k e => (Fl.g_in (offG_sub i k e)).2
  obtain ⟨D, b⟩ := match_best (P := f.P) (F := 9) hn (fun i k e => Fl.P_mem.2 (offG_sub i k e)) (by omega) f.no
  rw [off_nil] at b
  refine ⟨D, ?_⟩
  have e : (f.m []) = matchL f.g f.P 9 f.no := by unfold Fl.m; rw [off_nil]
  unfold Fl.most
  rw [e]
  exact b
theorem OkF.lst_none {f : Fl} (h : OkF f) {i : Nat} (hf : ∀ k, (f.m []).1 k ≠ i) : f.lst i = -1 := by
  rcases h.lst_or i with e | ⟨k, e⟩
  · exact e
  · exact absurd (h.lst_iff.1 e) (hf k)
theorem OkF.none_lst {f : Fl} (h : OkF f) {i : Nat} (e : f.lst i = -1) : ∀ k, (f.m []).1 k ≠ i := fun k hk => by
  have := h.lst_iff.2 hk
  rw [e] at this
  omega
/-- The cover is a cover, and as small as the matching is large. -/
theorem OkF.covered {f : Fl} {D R M : Nat → Bool} (h : OkF f) (b : Best f.g f.nw f.no (f.m []).1 f.most D) (c : Cl f.g (f.m []).1 D (fun _ => false) (fun _ => false) R M) (hb : ∀ i, i < f.no → f.lst i = -1 → R i = true) :
    f.isC (pickN (fun i => !R i) f.no).length (nz (pickN (fun i => !R i) f.no)) (pickN M f.nw).length (nz (pickN M f.nw)) = true ∧ (pickN (fun i => !R i) f.no).length + (pickN M f.nw).length = f.most := by
  refine ⟨?_, c.cover b (fun i k e => (Fl.g_in e).2) fun i hi hf => hb i hi (h.lst_none hf)⟩
  unfold Fl.isC
  rw [pickN_rises, pickN_rises]
  simp only [Bool.true_and]
  refine allB_true fun i hi => allB_true fun k hk => ?_
  cases hg : f.g i k
  · simp
  · cases hr : R i
    · rw [hasN_nz (pickN_mem.2 ⟨hi, by simp [hr]⟩)]; simp
    · rw [hasN_nz (l := pickN M f.nw) (pickN_mem.2 ⟨hk, c.met i k hr rfl hg⟩)]; simp
end Go.Proofs.YtgbdbikjckfgmaaGreat
