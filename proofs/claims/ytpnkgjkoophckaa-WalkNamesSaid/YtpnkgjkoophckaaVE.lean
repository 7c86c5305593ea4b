/- Walk, plain: what a walk is in both; times of a walk grow with the numbers. -/
import Derived.Test.YtpnkgjkoophckaaVD
import Derived.Test.YtpnkgjkoophckaaVB
namespace Go.Proofs.Ytpnkgjkoophckaa

theorem rises_iff {z : Nat → Int} {n : Nat} : risesB z n = true ↔ ∀ j, j < n → j = 0 ∨ z (j - 1) < z j := by
  unfold risesB
  rw [allB_iff]
  constructor
  · intro h j hj
    rcases Nat.eq_zero_or_pos j with h0 | h0
    · exact .inl h0
    · right
      have := of_decide_eq_true (h (j - 1) (by omega))
      rwa [show j - 1 + 1 = j by omega] at this
  · intro h q hq
    rcases h (q + 1) (by omega) with h0 | h0
    · omega
    · exact decide_eq_true h0
theorem isWalk_iff {m : Mp} (ok : OkM m) (y : Wl) : isWalkB m y = true ↔ walkE m y = 0 := by
  have hin : inB 0 0 ((m.nw : Int) - 1) = true := by have := ok.nw; simp only [inB, Bool.and_eq_true, decide_eq_true_eq]; omega
  have h1 : walkE m y = 0 ↔ y.nl ≤ 64 ∧ walkOk m y = true := by
    unfold walkE
    by_cases h : 64 < y.nl
    · rw [if_pos h]; constructor
      · intro e; exact absurd e (by decide)
      · rintro ⟨e, _⟩; omega
    · rw [if_neg h]
      by_cases h2 : walkOk m y = true
      · rw [if_pos h2]; exact ⟨fun _ => ⟨by omega, h2⟩, fun _ => rfl⟩
      · rw [if_neg h2]; constructor
        · intro e; exact absurd e (by decide)
        · rintro ⟨_, e⟩; exact absurd e h2
  rw [h1]
  unfold isWalkB walkOk isPathB
  simp only [Bool.and_eq_true, decide_eq_true_eq, hin, true_and, allB_iff, rises_iff, Bool.or_eq_true]
  constructor
  · rintro ⟨a, ⟨b, c, d, e⟩, f⟩
    exact ⟨a, b, c, d, e, fun j hj => (f j hj).2, fun j hj => (f j hj).1⟩
  · rintro ⟨a, b, c, d, e, f, g⟩
    exact ⟨a, ⟨b, c, d, e⟩, fun j hj => ⟨g j hj, f j hj⟩⟩
theorem along_le {m : Mp} {rt tr tr' : Nat → Int} : ∀ n, (∀ k, k < n → ∃ r : Nat, m.road (rt k) (rt (k + 1)) = r ∧ tr r ≤ tr' r) → alongZ m rt tr n ≤ alongZ m rt tr' n
  | 0, _ => Int.le_refl _
  | n + 1, h => by
    have h1 := along_le n (fun k hk => h k (by omega))
    obtain ⟨r, h2, h3⟩ := h n (by omega)
    simp only [alongZ]
    rw [h2, Int.toNat_natCast]
    omega
theorem work_le {ct tw tw' : Nat → Int} : ∀ n, (∀ k, k < n → ∃ p : Nat, ct k = p ∧ tw p ≤ tw' p) → workZ ct tw n ≤ workZ ct tw' n
  | 0, _ => Int.le_refl _
  | n + 1, h => by
    have h1 := work_le n (fun k hk => h k (by omega))
    obtain ⟨r, h2, h3⟩ := h n (by omega)
    simp only [workZ]
    rw [h2, Int.toNat_natCast]
    omega
theorem timeZ_le {m : Mp} {y : Wl} (hy : WlOk m y) {tw tr tw' tr' : Nat → Int} (h1 : ∀ i, i < m.nw → tw i ≤ tw' i) (h2 : ∀ i, i < m.nr → tr i ≤ tr' i) : timeZ m y tw tr ≤ timeZ m y tw' tr' := by
  have a := along_le (m := m) (rt := y.rt) (tr := tr) (tr' := tr') (y.nl - 1) (fun k hk => by obtain ⟨r, e, hr⟩ := hy.rd k (by omega); exact ⟨r, e, h2 r hr⟩)
  have b := work_le (ct := y.ct) (tw := tw) (tw' := tw') y.nc (fun k hk => by obtain ⟨r, e, hr⟩ := hy.ct k hk; exact ⟨r, e, h1 r hr⟩)
  unfold timeZ
  omega
theorem truth_ok {m : Mp} {tw tr : Nat → Int} (h1 : ∀ i, i < m.nw → (m.wk i).1 ≤ tw i ∧ tw i ≤ (m.wk i).2) (h2 : ∀ i, i < m.nr → (m.rt i).1 ≤ tr i ∧ tr i ≤ (m.rt i).2) : truthB m m.nw m.nr tw tr = true := by
  unfold truthB
  rw [decide_eq_true rfl, decide_eq_true rfl, allB_true (fun q hq => by have := h1 q hq; simp only [inB, Bool.and_eq_true, decide_eq_true_eq]; omega), allB_true (fun q hq => by have := h2 q hq; simp only [inB, Bool.and_eq_true, decide_eq_true_eq]; omega)]
  rfl
open Go.RowKit Go.Shelf in
/-- Time of a walk in a truth of a valid map. -/
theorem time_pl {m : Mp} (ok : OkM m) (h0 : m.fault = 0) {y : Wl} (hy : walkE m y = 0) (hc : y.nc ≤ 100000) {tw tr : Nat → Int} (ht : truthB m m.nw m.nr tw tr = true) (x : MV) (u : LV) (t : TV) (w : World) (h : MpIn w x m) (hu : WlIn w u y) (h1 : IntsIn w (.slice t.wa m.nw t.wc) m.nw tw) (h2 : IntsIn w (.slice t.ra m.nr t.rc) m.nr tr) :
    Calls Try.prog 52 #[.agg #[.slice x.wa m.nw x.wc, .slice x.ra m.nr x.rc], .agg #[.slice u.ra y.nl u.rc, .slice u.ca y.nc u.cc], .agg #[.slice t.wa m.nw t.wc, .slice t.ra m.nr t.rc]] w fun e w' => e = .returned (.tuple #[.int .i64 (timeZ m y tw tr), .int .i64 0]) ∧ Below w.heap.size w w' := by
  have hn := ok.nw; have hr := ok.nr; have hl := (wlOk_of ok hy).nl
  have e := Time_any x m u y t m.nw m.nr tw tr w h hu h1 h2 (by omega) (by omega) (by omega) hc
  have e1 : timeE m y m.nw m.nr tw tr = 0 := by unfold timeE; rw [h0, hy, ht]; rfl
  have e2 : timeV m y m.nw m.nr tw tr = timeZ m y tw tr := by unfold timeV; rw [if_pos e1]
  rw [e1, e2] at e
  exact e
end Go.Proofs.Ytpnkgjkoophckaa
