/- Walk, plain: easier maps. By hand. -/
import Derived.Test.YtpnkgjkoophckaaPF
namespace Go.Proofs.Ytpnkgjkoophckaa

/-- A map that is easier than another one: its roads and its work take at most as long; it has at least the same roads. -/
structure Ez (m x : Mp) : Prop where
  nw : x.nw = m.nw
  ed : ∀ a b h, Ed m a b h → ∃ h', h' ≤ h ∧ Ed x a b h'
  wk : ∀ i, i < m.nw → (x.wk i).2 ≤ (m.wk i).2
theorem Ez.refl (m : Mp) : Ez m m := ⟨rfl, fun _ _ h e => ⟨h, Int.le_refl _, e⟩, fun _ _ => Int.le_refl _⟩
theorem Ez.pth {m x : Mp} (h : Ez m x) {a b : Nat} {k : Int} (p : Pth m a b k) : ∃ k', k' ≤ k ∧ Pth x a b k' := by
  induction p with
  | nil a => exact ⟨0, Int.le_refl _, .nil a⟩
  | cons e _ ih =>
    obtain ⟨h', h1, e'⟩ := h.ed _ _ _ e
    obtain ⟨k', h2, p'⟩ := ih
    exact ⟨h' + k', by omega, .cons e' p'⟩
theorem Ez.tm {m x : Mp} (h : Ez m x) (ok : OkM m) (okx : OkM x) {a b : Nat} (ha : a < m.nw) (hb : b < m.nw) : tmA x a b ≤ tmA m a b := by
  have hbx : b < x.nw := by rw [h.nw]; exact hb
  have hax : a < x.nw := by rw [h.nw]; exact ha
  by_cases hf : tmA m a b < 1048576
  · obtain ⟨k', h1, p⟩ := h.pth (tmA_pth ok ha hb hf)
    have := tmA_le okx hbx p
    omega
  · have := (tmA_bd okx hax hbx).2
    omega
theorem Ez.rs {m x : Mp} (h : Ez m x) (ok : OkM m) (okx : OkM x) : ∀ (k a s : Nat), s ≤ k → a < m.nw → s < 2 ^ m.nw → rsT x a s ≤ rsT m a s := by
  intro k
  induction k with
  | zero =>
    intro a s hs ha _
    obtain rfl : s = 0 := by omega
    rw [rsT_zero, rsT_zero]
    exact h.tm ok okx ha (by have := ok.nw; omega)
  | succ k ih =>
    intro a s hs ha hsn
    by_cases h0 : s = 0
    · subst h0
      rw [rsT_zero, rsT_zero]
      exact h.tm ok okx ha (by have := ok.nw; omega)
    by_cases hf : rsT m a s < 1048576
    · obtain ⟨n, n8, hb, hn, _, _, e⟩ := rsT_next ok ha hsn h0 hf
      have hp := Nat.two_pow_pos n
      have hge : 2 ^ n ≤ s := Nat.ge_two_pow_of_testBit hb
      have h1 := rsT_le (m := x) (a := a) n8 hb
      have h2 := h.tm ok okx ha hn
      have h3 := ih n (s - 2 ^ n) (by omega) hn (by omega)
      omega
    · have := (rsT_bd okx (a := a) (s := s) (by rw [h.nw]; exact ha) (by rw [h.nw]; exact hsn)).2
      omega
theorem Ez.hi {m x : Mp} (h : Ez m x) {s : Nat} (hs : s < 2 ^ m.nw) : hiS x (plc s) ≤ hiS m (plc s) := by
  have t : ∀ i, bitI s i * (x.wk i).2 ≤ bitI s i * (m.wk i).2 := fun i => by
    unfold bitI
    by_cases hb : s.testBit i = true
    · rw [if_pos hb]
      have := h.wk i (sub_sub hs hb)
      omega
    · rw [if_neg hb]; omega
  have t0 := t 0; have t1 := t 1; have t2 := t 2; have t3 := t 3; have t4 := t 4; have t5 := t 5; have t6 := t 6; have t7 := t 7
  rw [hiS_8s, hiS_8s]
  omega
theorem Ez.lg {m x : Mp} (h : Ez m x) (ok : OkM m) (okx : OkM x) {s : Nat} (hs : s < 2 ^ m.nw) : lgM x s ≤ lgM m s := by
  have h1 := h.rs ok okx s 0 s (Nat.le_refl _) (by have := ok.nw; omega) hs
  have h2 := h.hi hs
  rw [lgM_rs, lgM_rs]
  omega
/-- No fewer places are reached. -/
theorem Ez.rch {m x : Mp} (h : Ez m x) (ok : OkM m) (okx : OkM x) {L L' : Int} (hL : L ≤ L') {j : Nat} (hj : j < (rchN m L m.nw).length) : hasB (zL (rchN x L' x.nw)) (rchN x L' x.nw).length (zL (rchN m L m.nw) j) = true := by
  rw [zL_get hj, hasB_iff]
  have hm := List.getElem_mem hj
  generalize (rchN m L m.nw)[j] = i at hm
  unfold rchN at hm
  rw [List.mem_filter, List.mem_range, decide_eq_true_eq] at hm
  have h1 := h.lg ok okx (s := 2 ^ i) (Nat.pow_lt_pow_right (by decide) hm.1)
  have hx : i ∈ rchN x L' x.nw := by
    unfold rchN
    rw [List.mem_filter, List.mem_range, decide_eq_true_eq, h.nw]
    exact ⟨hm.1, by omega⟩
  obtain ⟨q, hq, e⟩ := List.getElem_of_mem hx
  exact ⟨q, hq, by rw [zL_get hq, e]⟩
/-- No more walks are needed. -/
theorem Ez.few {m x : Mp} (h : Ez m x) (ok : OkM m) (okx : OkM x) {L L' : Int} (hL : L ≤ L') (hd : dvW m L ≠ []) : dvW x L' ≠ [] ∧ (dvW x L').length ≤ (dvW m L).length := by
  have w := whole_pos ok
  have hD := ((dvW_iff ok L).2.2 hd).dvs
  have hD2 : Dvs (okL x L') (2 ^ x.nw - 1) (dvW m L).length := by
    rw [h.nw]
    refine hD.mono (fun p hp hk => ?_) w.2.1
    unfold okL at hk ⊢
    rw [decide_eq_true_eq] at hk ⊢
    have := h.lg ok okx (s := p) (Nat.lt_of_le_of_lt (sub_le hp) w.2.2)
    omega
  obtain ⟨d1, d2, _⟩ := dvW_iff okx L'
  exact ⟨d1.2 ⟨_, hD2⟩, d2 _ hD2⟩
/-- The changes. -/
def Mp.more (m : Mp) (a b : Int) (r : R2) : Mp := ⟨m.nw, m.wk, m.nr + 1, fun k => if k = m.nr then a else m.ra k, fun k => if k = m.nr then b else m.rb k, fun k => if k = m.nr then r else m.rt k⟩
theorem Ez.more (m : Mp) (a b : Int) (r : R2) : Ez m (m.more a b r) := by
  refine ⟨rfl, fun p q h e => ⟨h, Int.le_refl _, ?_⟩, fun _ _ => Int.le_refl _⟩
  obtain ⟨k, hk, h1, h2⟩ := e
  refine ⟨k, by show k < m.nr + 1; omega, ?_, ?_⟩
  · simp only [Mp.more, if_neg (show ¬ k = m.nr by omega)]; exact h1
  · simp only [Mp.more, if_neg (show ¬ k = m.nr by omega)]; exact h2
def Mp.setW (m : Mp) (j : Nat) (v : Int) : Mp := ⟨m.nw, fun i => if i = j then ((m.wk i).1, v) else m.wk i, m.nr, m.ra, m.rb, m.rt⟩
theorem Ez.setW (m : Mp) (j : Nat) {v : Int} (h : v ≤ (m.wk j).2) : Ez m (m.setW j v) := by
  refine ⟨rfl, fun p q h e => ⟨h, Int.le_refl _, e⟩, fun i _ => ?_⟩
  simp only [Mp.setW]
  by_cases e : i = j
  · subst e; rw [if_pos rfl]; exact h
  · rw [if_neg e]; exact Int.le_refl _
def Mp.setR (m : Mp) (j : Nat) (v : Int) : Mp := ⟨m.nw, m.wk, m.nr, m.ra, m.rb, fun i => if i = j then ((m.rt i).1, v) else m.rt i⟩
theorem Ez.setR (m : Mp) (j : Nat) {v : Int} (h : v ≤ (m.rt j).2) : Ez m (m.setR j v) := by
  refine ⟨rfl, fun p q t e => ?_, fun i _ => Int.le_refl _⟩
  obtain ⟨k, hk, h1, h2⟩ := e
  by_cases e : k = j
  · exact ⟨v, by rw [h2, e]; exact h, k, hk, h1, by simp only [Mp.setR, if_pos e]⟩
  · exact ⟨t, Int.le_refl _, k, hk, h1, by simp only [Mp.setR, if_neg e]; exact h2⟩
end Go.Proofs.Ytpnkgjkoophckaa
