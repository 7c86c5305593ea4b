/- Walk, plain: the smallest limit; limits for many; single places. -/
import Derived.Test.YtpnkgjkoophckaaZB
import Derived.Test.YtpnkgjkoophckaaYE
namespace Go.Proofs.Ytpnkgjkoophckaa

theorem whole_pos {m : Mp} (ok : OkM m) : 2 ^ m.nw - 1 ≠ 0 ∧ 2 ^ m.nw - 1 < 256 ∧ 2 ^ m.nw - 1 < 2 ^ m.nw := by
  have h1 := Nat.pow_le_pow_right (n := 2) (by decide) ok.nw.1
  have h2 := Nat.pow_le_pow_right (n := 2) (by decide) ok.nw.2
  omega
theorem whole_bit {m : Mp} (i : Nat) : (2 ^ m.nw - 1).testBit i = decide (i < m.nw) := Nat.testBit_two_pow_sub_one ..
theorem okL_mono {m : Mp} {L L' : Int} (h : L ≤ L') {p : Nat} (hp : okL m L p = true) : okL m L' p = true := by
  unfold okL at *; rw [decide_eq_true_eq] at *; omega
theorem dvW_iff {m : Mp} (ok : OkM m) (L : Int) : (dvW m L ≠ [] ↔ ∃ n, Dvs (okL m L) (2 ^ m.nw - 1) n) ∧ (∀ n, Dvs (okL m L) (2 ^ m.nw - 1) n → (dvW m L).length ≤ n) ∧ (dvW m L ≠ [] → Prt (okL m L) (2 ^ m.nw - 1) (dvW m L)) := by
  obtain ⟨w0, w8, _⟩ := whole_pos ok
  have d := dv_is (okL m L) w8
  refine ⟨⟨fun h => ⟨_, (d.some (.inl h)).dvs⟩, fun ⟨n, hn⟩ h => d.none h w0 n hn⟩, d.few, fun h => d.some (.inl h)⟩
theorem enG_iff {m : Mp} (ok : OkM m) (k L : Int) : enG m k L = true ↔ ∃ n : Nat, (n : Int) ≤ k ∧ Dvs (okL m L) (2 ^ m.nw - 1) n := by
  obtain ⟨d1, d2, d3⟩ := dvW_iff ok L
  unfold enG
  rw [decide_eq_true_eq]
  constructor
  · rintro ⟨h1, h2⟩
    exact ⟨_, h2, (d3 h1).dvs⟩
  · rintro ⟨n, h1, h2⟩
    have := d2 n h2
    exact ⟨d1.2 ⟨n, h2⟩, by omega⟩
theorem enG_mono {m : Mp} (ok : OkM m) {k k' L L' : Int} (hk : k ≤ k') (h : L ≤ L') (hg : enG m k L = true) : enG m k' L' = true := by
  rw [enG_iff ok] at *
  obtain ⟨n, h1, h2⟩ := hg
  exact ⟨n, by omega, h2.mono (fun p _ hp => okL_mono h hp) (whole_pos ok).2.1⟩
theorem bis_spec {P : Int → Bool} (hP : ∀ a b, a ≤ b → P a = true → P b = true) : ∀ (f : Nat) (lo hi : Int), lo ≤ hi → hi - lo < ((2 ^ f : Nat) : Int) → P hi = true → lo ≤ bis P f lo hi ∧ bis P f lo hi ≤ hi ∧ P (bis P f lo hi) = true ∧ ∀ L, lo ≤ L → P L = true → bis P f lo hi ≤ L
  | 0, lo, hi, h1, h2, h3 => by
    simp only [bis]
    obtain rfl : lo = hi := by simp at h2; omega
    exact ⟨Int.le_refl _, Int.le_refl _, h3, fun L h _ => h⟩
  | f + 1, lo, hi, h1, h2, h3 => by
    simp only [bis]
    rw [Nat.pow_succ] at h2
    by_cases hl : lo < hi
    · rw [if_pos hl]
      by_cases hp : P ((lo + hi) / 2) = true
      · rw [if_pos hp]
        obtain ⟨a1, a2, a3, a4⟩ := bis_spec hP f lo ((lo + hi) / 2) (by omega) (by omega) hp
        exact ⟨a1, by omega, a3, a4⟩
      · rw [if_neg hp]
        obtain ⟨a1, a2, a3, a4⟩ := bis_spec hP f ((lo + hi) / 2 + 1) hi (by omega) (by omega) h3
        refine ⟨by omega, a2, a3, fun L hL hPL => a4 L ?_ hPL⟩
        by_cases hc : (lo + hi) / 2 + 1 ≤ L
        · exact hc
        · exact absurd (hP L _ (by omega) hPL) hp
    · rw [if_neg hl]
      obtain rfl : lo = hi := by omega
      exact ⟨Int.le_refl _, Int.le_refl _, h3, fun L h _ => h⟩
theorem lowL_le {m : Mp} {L : Int} (h0 : 0 ≤ L) : ∀ k, (∀ i, i < k → lgM m (2 ^ i) ≤ L) → lowL m k ≤ L
  | 0, _ => h0
  | k + 1, h => by
    have h1 := lowL_le h0 k (fun i hi => h i (by omega))
    have h2 := h k (by omega)
    simp only [lowL]
    split <;> omega
theorem lowL_ge {m : Mp} : ∀ k i, i < k → lgM m (2 ^ i) ≤ lowL m k
  | 0, i, h => by omega
  | k + 1, i, h => by
    simp only [lowL]
    rcases Nat.lt_succ_iff_lt_or_eq.1 h with h | rfl
    · have := lowL_ge (m := m) k i h
      split <;> omega
    · split <;> omega
theorem lg_one {m : Mp} (_ : OkM m) {i : Nat} (hi : i < m.nw) : 2 ^ i < 2 ^ m.nw := Nat.pow_lt_pow_right (by decide) hi
theorem ones_or (k : Nat) : 2 ^ (k + 1) - 1 = (2 ^ k - 1) ||| 2 ^ k := by
  refine Nat.eq_of_testBit_eq fun i => ?_
  rw [Nat.testBit_or, Nat.testBit_two_pow_sub_one, Nat.testBit_two_pow_sub_one, Nat.testBit_two_pow]
  rw [Bool.eq_iff_iff]
  simp
  omega
theorem lgM_zero {m : Mp} (ok : OkM m) : lgM m 0 = 0 := by
  show (rest (tmA m) 0 0).1 + hiS m (plc 0) = 0
  rw [rest_zero, show plc 0 = [] by decide +kernel]
  have := tmA_self ok (a := 0) (by have := ok.nw; omega)
  simp only [hiS, List.foldl_nil]
  omega
/-- If each place can be visited, all can be together. -/
theorem lgM_ones {m : Mp} (ok : OkM m) (hs : ∀ i, i < m.nw → lgM m (2 ^ i) < 1048576) : ∀ k, k ≤ m.nw → lgM m (2 ^ k - 1) ≤ 3550
  | 0, _ => by rw [show 2 ^ 0 - 1 = 0 from rfl, lgM_zero ok]; decide
  | k + 1, h => by
    have h1 := lgM_ones ok hs k (by omega)
    have h2 := hs k (by omega)
    have h3 : 2 ^ k < 2 ^ m.nw := lg_one ok (by omega)
    have h4 : 2 ^ k - 1 < 2 ^ m.nw := Nat.lt_of_le_of_lt (Nat.sub_le _ _) h3
    have h5 := lgM_or ok h4 h3
    rw [← ones_or] at h5
    have h6 : 2 ^ (k + 1) - 1 < 2 ^ m.nw := by rw [ones_or]; exact or_lt h4 h3
    rcases lgM_fin ok h3 with ⟨_, _, h7⟩ | ⟨h7, _⟩
    · rcases lgM_fin ok h6 with ⟨_, _, h8⟩ | ⟨h8, _⟩
      · exact h8
      · omega
    · omega
theorem dvs_ones {P : Nat → Bool} : ∀ k, k ≤ 8 → (∀ i, i < k → P (2 ^ i) = true) → Dvs P (2 ^ k - 1) k
  | 0, _, _ => .nil
  | k + 1, h8, h => by
    have hp := Nat.two_pow_pos k
    have e : 2 ^ (k + 1) - 1 - 2 ^ k = 2 ^ k - 1 := by rw [Nat.pow_succ]; omega
    refine .cons (p := 2 ^ k) (one_sub (by rw [Nat.testBit_two_pow_sub_one]; simp)) hp (h k (by omega)) ?_
    rw [e]
    exact dvs_ones k (by omega) (fun i hi => h i (by omega))
/-- A division holds each single place. -/
theorem dvs_single {m : Mp} (ok : OkM m) {L : Int} {n : Nat} (h : Dvs (okL m L) (2 ^ m.nw - 1) n) {i : Nat} (hi : i < m.nw) : lgM m (2 ^ i) ≤ L := by
  obtain ⟨p, _, _, p1, p2, p3, _⟩ := h.has (whole_pos ok).2.1 i (by rw [whole_bit]; exact decide_eq_true hi)
  have hp : p < 2 ^ m.nw := Nat.lt_of_le_of_lt (sub_le p1) (whole_pos ok).2.2
  have := lgM_sub ok hp (one_sub p2)
  unfold okL at p3
  rw [decide_eq_true_eq] at p3
  omega
theorem enG_low {m : Mp} (ok : OkM m) {k L : Int} (h : enG m k L = true) : lowL m m.nw ≤ L := by
  obtain ⟨n, _, hd⟩ := (enG_iff ok k L).1 h
  have h0 : 0 ≤ L := by
    have := dvs_single ok hd (i := 0) (by have := ok.nw; omega)
    have := (lgM_bd ok (s := 2 ^ 0) (lg_one ok (by have := ok.nw; omega))).1
    omega
  exact lowL_le h0 _ (fun i hi => dvs_single ok hd hi)
theorem low_fin {m : Mp} (ok : OkM m) (h : lowL m m.nw < 1048576) : lgM m (2 ^ m.nw - 1) ≤ 3550 :=
  lgM_ones ok (fun i hi => by have := lowL_ge (m := m) m.nw i hi; omega) m.nw (Nat.le_refl _)
theorem enG_whole {m : Mp} (ok : OkM m) {k : Int} (hk : 1 ≤ k) : enG m k (lgM m (2 ^ m.nw - 1)) = true := by
  rw [enG_iff ok]
  have w := whole_pos ok
  refine ⟨1, by omega, .cons (p := 2 ^ m.nw - 1) (Nat.and_self _) (by omega) (by unfold okL; simp) ?_⟩
  rw [Nat.sub_self]
  exact .nil
theorem lst_spec {m : Mp} (ok : OkM m) {k : Int} (hk : 1 ≤ k) (h : lowL m m.nw < 1048576) : enG m k (lstV m k) = true ∧ (∀ L, enG m k L = true → lstV m k ≤ L) ∧ lowL m m.nw ≤ lstV m k ∧ 0 ≤ lstV m k ∧ lstV m k ≤ 3550 := by
  have hw := low_fin ok h
  have w := whole_pos ok
  have hg := enG_whole ok hk
  have hl := enG_low ok hg
  have hb := lowL_bd ok m.nw (Nat.le_refl _)
  have e : mnI (lgM m (2 ^ m.nw - 1)) 10000 = lgM m (2 ^ m.nw - 1) := by unfold mnI; rw [if_neg (by omega)]
  unfold lstV
  rw [e]
  obtain ⟨a1, a2, a3, a4⟩ := bis_spec (P := enG m k) (fun a b hab ha => enG_mono ok (Int.le_refl _) hab ha) 14 (lowL m m.nw) (lgM m (2 ^ m.nw - 1)) hl (by have : ((2 ^ 14 : Nat) : Int) = 16384 := rfl; omega) hg
  exact ⟨a3, fun L hL => a4 L (enG_low ok hL) hL, a1, by omega, by omega⟩
theorem lst_more {m : Mp} (ok : OkM m) {k : Int} (hk : 1 ≤ k) (h : lowL m m.nw < 1048576) : lstV m (k + 1) ≤ lstV m k := by
  obtain ⟨a1, _⟩ := lst_spec ok hk h
  obtain ⟨_, b2, _⟩ := lst_spec ok (k := k + 1) (by omega) h
  exact b2 _ (enG_mono ok (by omega) (Int.le_refl _) a1)
theorem lst_all {m : Mp} (ok : OkM m) (h : lowL m m.nw < 1048576) : lstV m m.nw = lowL m m.nw := by
  have hn := ok.nw
  obtain ⟨_, b2, b3, _⟩ := lst_spec ok (k := m.nw) (by omega) h
  have hg : enG m m.nw (lowL m m.nw) = true := by
    rw [enG_iff ok]
    exact ⟨m.nw, Int.le_refl _, dvs_ones m.nw hn.2 (fun i hi => by unfold okL; exact decide_eq_true (lowL_ge m.nw i hi))⟩
  have := b2 _ hg
  omega
end Go.Proofs.Ytpnkgjkoophckaa
