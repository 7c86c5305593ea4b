/- Walk, plain: how long ways and tours are; tours of more places; tours of two sets. -/
import Derived.Test.YtpnkgjkoophckaaZA
namespace Go.Proofs.Ytpnkgjkoophckaa

theorem cntN_lt_le (S : Nat → Bool) (n : Nat) : cntN S n ≤ n := cntN_le S n
/-- Places nearer to the goal. -/
def nearer (D : Nat → Int) (a : Nat) (i : Nat) : Bool := decide (D i < D a)
theorem Dst.len {m : Mp} (ok : OkM m) {goal : Nat} {D F : Nat → Int} (d : Dst m goal D F) : ∀ (N a : Nat), a < m.nw → (D a).toNat < N → D a < 1048576 → D a ≤ 50 * (cntN (nearer D a) m.nw : Int) ∧ cntN (nearer D a) m.nw < m.nw
  | 0, _, _, h, _ => by omega
  | N + 1, a, ha, hN, hf => by
    have hlt : cntN (nearer D a) m.nw < m.nw := by
      have h := cntN_lt (S := nearer D a) (S' := fun _ => true) (fun _ _ => rfl) ha (by unfold nearer; simp) rfl
      rw [cntN_all (fun _ _ => rfl)] at h
      exact h
    refine ⟨?_, hlt⟩
    by_cases e : a = goal
    · subst e; rw [d.self]; omega
    · obtain ⟨f, h, h1, h2, h3⟩ := d.first a ha e hf
      have hb := h2.bd ok
      have hfd := d.bd f hb.2.1
      obtain ⟨r1, r2⟩ := d.len ok N f hb.2.1 (by omega) (by omega)
      have hc := cntN_lt (S := nearer D f) (S' := nearer D a) (fun i hi => by unfold nearer at hi ⊢; rw [decide_eq_true_eq] at hi ⊢; omega) hb.2.1 (by unfold nearer; simp) (by unfold nearer; rw [decide_eq_true_eq]; omega)
      omega
theorem tmA_fin {m : Mp} (ok : OkM m) {a b : Nat} (ha : a < m.nw) (hb : b < m.nw) (h : tmA m a b < 1048576) : tmA m a b ≤ 350 := by
  obtain ⟨h1, h2⟩ := (dst_atlas ok hb).len ok _ a ha (Nat.lt_succ_self _) h
  have := ok.nw
  have e : tmA m a b ≤ 50 * (cntN (nearer (fun n => tmA m n b) a) m.nw : Int) := h1
  omega
theorem wayL_short {m : Mp} (ok : OkM m) {b : Nat} (hb : b < m.nw) : ∀ (N a : Nat), a < m.nw → (tmA m a b).toNat < N → tmA m a b < 1048576 → (wayL m a b).length ≤ cntN (nearer (fun n => tmA m n b) a) m.nw + 1
  | 0, _, _, h, _ => by omega
  | N + 1, a, ha, hN, hf => by
    by_cases e : a = b
    · subst e; rw [wayL_self ok ha]; simp
    · obtain ⟨f, h, h1, h2, h3, h4, h5, h6⟩ := wayL_step ok ha hb e hf
      have hfd := tmA_bd ok h2 hb
      have ih := wayL_short ok hb N f h2 (by omega) (by omega)
      have hc := cntN_lt (S := nearer (fun n => tmA m n b) f) (S' := nearer (fun n => tmA m n b) a) (fun i hi => by unfold nearer at hi ⊢; rw [decide_eq_true_eq] at hi ⊢; simp only at hi ⊢; omega) h2 (by unfold nearer; simp) (by unfold nearer; rw [decide_eq_true_eq]; simp only; omega)
      rw [h6, List.length_cons]
      omega
theorem wayL_8 {m : Mp} (ok : OkM m) {a b : Nat} (ha : a < m.nw) (hb : b < m.nw) (hf : tmA m a b < 1048576) : (wayL m a b).length ≤ 8 := by
  have h1 := wayL_short ok hb _ a ha (Nat.lt_succ_self _) hf
  have h2 := ((dst_atlas ok hb).len ok _ a ha (Nat.lt_succ_self _) hf).2
  have := ok.nw
  omega

/-- The time to the end of a tour. -/
def rsT (m : Mp) (a s : Nat) : Int := (rest (tmA m) a s).1
theorem rsT_zero (m : Mp) (a : Nat) : rsT m a 0 = tmA m a 0 := rfl
theorem bestL_min (v : Nat → Int) (L : List Nat) {n : Nat} (h : n ∈ L) : (bestL v L).1 ≤ v n := by
  have hle : ∀ (L : List Nat) (b : R2), (L.foldl (fun b n => if v n < b.1 then (v n, (n : Int)) else b) b).1 ≤ b.1 := by
    intro L
    induction L with
    | nil => intro b; exact Int.le_refl _
    | cons p L ih =>
      intro b
      refine Int.le_trans (ih _) ?_
      simp only
      split
      · show v p ≤ b.1; omega
      · exact Int.le_refl _
  have : ∀ (L : List Nat) (b : R2), n ∈ L → (L.foldl (fun b n => if v n < b.1 then (v n, (n : Int)) else b) b).1 ≤ v n := by
    intro L
    induction L with
    | nil => intro b h; cases h
    | cons p L ih =>
      intro b h
      rcases List.mem_cons.1 h with rfl | h
      · refine Int.le_trans (hle L _) ?_
        simp only
        split
        · exact Int.le_refl _
        · omega
      · exact ih _ h
  exact this L _ h
theorem rsT_le {m : Mp} {a s n : Nat} (hn : n < 8) (hb : s.testBit n = true) : rsT m a s ≤ tmA m a n + rsT m n (s - 2 ^ n) := by
  have h0 : s ≠ 0 := by rintro rfl; simp at hb
  unfold rsT
  rw [rest_eq _ _ h0]
  exact bestL_min (fun n => tmA m a n + (rest (tmA m) n (s - 2 ^ n)).1) _ (plc_mem.2 ⟨hn, hb⟩)
theorem rsT_bd {m : Mp} (ok : OkM m) {a s : Nat} (ha : a < m.nw) (hs : s < 2 ^ m.nw) : 0 ≤ rsT m a s ∧ rsT m a s ≤ 1048576 := rest_bd (tmB ok) (by have := ok.nw; omega) s s a (Nat.le_refl _) hs ha
theorem rsT_next {m : Mp} (ok : OkM m) {a s : Nat} (ha : a < m.nw) (hs : s < 2 ^ m.nw) (h0 : s ≠ 0) (h : rsT m a s < 1048576) : ∃ k : Nat, k < 8 ∧ s.testBit k = true ∧ k < m.nw ∧ tmA m a k < 1048576 ∧ rsT m k (s - 2 ^ k) < 1048576 ∧ rsT m a s = tmA m a k + rsT m k (s - 2 ^ k) := by
  obtain ⟨k, _, h2⟩ := rest_next ok ha hs h0 h
  exact ⟨k, h2⟩
theorem one_sub {s n : Nat} (h : s.testBit n = true) : 2 ^ n &&& s = 2 ^ n := by
  rw [sub_iff]
  intro i hi
  rw [Nat.testBit_two_pow] at hi
  have := of_decide_eq_true hi
  subst this; exact h
theorem off_bit {s n : Nat} (hs : s < 256) (h : s.testBit n = true) (i : Nat) : (s - 2 ^ n).testBit i = (s.testBit i && decide (i ≠ n)) := by
  rw [sub_bit hs (one_sub h), Nat.testBit_two_pow]
  by_cases e : n = i
  · subst e; simp
  · simp [e, Ne.symm e]
/-- Through another place it takes at least as long. -/
theorem rsT_tri {m : Mp} (ok : OkM m) {a b s : Nat} (ha : a < m.nw) (hb : b < m.nw) (hs : s < 2 ^ m.nw) : rsT m a s ≤ tmA m a b + rsT m b s := by
  have hab := tmA_bd ok ha hb
  have hA := rsT_bd ok ha hs
  have hB := rsT_bd ok hb hs
  by_cases h0 : s = 0
  · subst h0
    rw [rsT_zero, rsT_zero]
    exact tmA_tri ok ha hb (by have := ok.nw; omega)
  by_cases hf : rsT m b s < 1048576
  · obtain ⟨k, k8, k1, k2, _, _, k5⟩ := rsT_next ok hb hs h0 hf
    have h1 := rsT_le (m := m) (a := a) k8 k1
    have h2 := tmA_tri ok ha hb k2
    omega
  · omega
theorem two8 {m : Mp} (ok : OkM m) {s : Nat} (hs : s < 2 ^ m.nw) : s < 256 := Nat.lt_of_lt_of_le hs (Nat.pow_le_pow_right (by decide) ok.nw.2)
/-- A place less. -/
theorem rsT_less {m : Mp} (ok : OkM m) : ∀ (k a s j : Nat), s ≤ k → a < m.nw → s < 2 ^ m.nw → s.testBit j = true → rsT m a (s - 2 ^ j) ≤ rsT m a s
  | 0, a, s, j, hk, _, _, hj => by obtain rfl : s = 0 := by omega
                                   simp at hj
  | k + 1, a, s, j, hk, ha, hs, hj => by
    have h0 : s ≠ 0 := by rintro rfl; simp at hj
    have h8 := two8 ok hs
    have hA := rsT_bd ok ha (s := s - 2 ^ j) (Nat.lt_of_le_of_lt (Nat.sub_le _ _) hs)
    have hp := testBit_le hj
    have hjp := Nat.two_pow_pos j
    by_cases hf : rsT m a s < 1048576
    · obtain ⟨n, n8, n1, n2, _, _, n5⟩ := rsT_next ok ha hs h0 hf
      have hnp := Nat.two_pow_pos n
      by_cases e : n = j
      · subst e
        have := rsT_tri ok ha n2 (s := s - 2 ^ n) (by omega)
        omega
      · have b1 : (s - 2 ^ j).testBit n = true := by rw [off_bit h8 hj, n1]; simp [e]
        have b2 : (s - 2 ^ n).testBit j = true := by rw [off_bit h8 n1, hj]; simp [Ne.symm e]
        have h1 := rsT_le (m := m) (a := a) n8 b1
        have h2 := rsT_less ok k n (s - 2 ^ n) j (by omega) n2 (by omega) b2
        rw [Nat.sub_right_comm] at h2
        omega
    · have := rsT_bd ok ha hs
      omega
/-- Fewer places. -/
theorem rsT_sub {m : Mp} (ok : OkM m) : ∀ (k a s p : Nat), s - p ≤ k → a < m.nw → s < 2 ^ m.nw → p &&& s = p → rsT m a p ≤ rsT m a s
  | 0, a, s, p, hk, _, _, hp => by
    have := sub_le hp
    obtain rfl : s = p := by omega
    exact Int.le_refl _
  | k + 1, a, s, p, hk, ha, hs, hp => by
    have h8 := two8 ok hs
    have hle := sub_le hp
    by_cases e : s - p = 0
    · obtain rfl : s = p := by omega
      exact Int.le_refl _
    · have hb := lowb_in ⟨s - p, by omega⟩ (by show 0 < s - p; omega)
      simp only at hb
      have hb2 := hb
      rw [sub_bit h8 hp, Bool.and_eq_true] at hb2
      have h1 := rsT_less ok s a s (lowb (s - p)) (Nat.le_refl _) ha hs hb2.1
      have hpow := testBit_le hb
      have hpos := Nat.two_pow_pos (lowb (s - p))
      have h2 := rsT_sub ok k a (s - 2 ^ lowb (s - p)) p (by omega) ha (by omega) (by
        rw [sub_iff]
        intro i hi
        rw [off_bit h8 hb2.1, sub_iff.1 hp i hi]
        by_cases e2 : i = lowb (s - p)
        · rw [← e2, hi] at hb2; simp at hb2
        · simp [e2])
      omega
/-- Two sets. -/
theorem rsT_or {m : Mp} (ok : OkM m) : ∀ (k a x y : Nat), x ≤ k → a < m.nw → x < 2 ^ m.nw → y < 2 ^ m.nw → rsT m a (x ||| y) ≤ rsT m a x + rsT m 0 y
  | k, a, x, y, hk, ha, hx, hy => by
    have h0w : 0 < m.nw := by have := ok.nw; omega
    by_cases h0 : x = 0
    · subst h0
      rw [Nat.zero_or, rsT_zero]
      exact rsT_tri ok ha h0w hy
    have hxy := Nat.or_lt_two_pow hx hy
    have hA := rsT_bd ok ha hx
    have hB := rsT_bd ok h0w hy
    have hC := rsT_bd ok ha hxy
    by_cases hf : rsT m a x < 1048576
    · obtain ⟨n, n8, n1, n2, _, _, n5⟩ := rsT_next ok ha hx h0 hf
      have hpow := testBit_le n1
      have hpos := Nat.two_pow_pos n
      have b1 : (x ||| y).testBit n = true := by rw [Nat.testBit_or, n1]; rfl
      have h1 := rsT_le (m := m) (a := a) n8 b1
      have h8 := two8 ok hx
      have h2 : rsT m n ((x ||| y) - 2 ^ n) ≤ rsT m n ((x - 2 ^ n) ||| y) := by
        refine rsT_sub ok _ n _ _ (Nat.le_refl _) n2 (Nat.or_lt_two_pow (by omega) hy) ?_
        rw [sub_iff]
        intro i hi
        rw [off_bit (two8 ok hxy) b1, Nat.testBit_or] at hi
        rw [Nat.testBit_or, off_bit h8 n1]
        cases hxi : x.testBit i <;> cases hyi : y.testBit i <;> simp_all
      match k, hk with
      | 0, hk => omega
      | k + 1, hk =>
        have h3 := rsT_or ok k n (x - 2 ^ n) y (by omega) n2 (by omega) hy
        omega
    · omega
/-- A tour that exists is short. -/
theorem rsT_fin {m : Mp} (ok : OkM m) : ∀ (k a s : Nat), (plc s).length ≤ k → a < m.nw → s < 2 ^ m.nw → rsT m a s < 1048576 → rsT m a s ≤ 350 * ((plc s).length + 1)
  | k, a, s, hk, ha, hs, hf => by
    by_cases h0 : s = 0
    · subst h0
      rw [rsT_zero] at hf ⊢
      have := tmA_fin ok ha (by have := ok.nw; omega) hf
      omega
    · obtain ⟨n, n8, n1, n2, n3, n4, n5⟩ := rsT_next ok ha hs h0 hf
      have hl := plc_off ⟨s, two8 ok hs⟩ ⟨n, n8⟩ n1
      simp only at hl
      have hpow := testBit_le n1
      have hpos := Nat.two_pow_pos n
      have h1 := tmA_fin ok ha n2 n3
      match k, hk with
      | 0, hk => omega
      | k + 1, hk =>
        have h2 := rsT_fin ok k n (s - 2 ^ n) (by omega) n2 (by omega) n4
        omega
theorem lgM_rs (m : Mp) (s : Nat) : lgM m s = rsT m 0 s + hiS m (plc s) := rfl
theorem hiS_8 {m : Mp} (ok : OkM m) {s : Nat} (hs : s < 2 ^ m.nw) : 0 ≤ hiS m (plc s) ∧ hiS m (plc s) ≤ 400 := by
  have h := hiS_bd ok (plc s) (fun p hp => sub_sub hs (plc_mem.1 hp).2)
  have := plc_lt ⟨s, two8 ok hs⟩
  simp only at this
  omega
theorem lgM_fin {m : Mp} (ok : OkM m) {s : Nat} (hs : s < 2 ^ m.nw) : (lgM m s < 1048576 ∧ rsT m 0 s < 1048576 ∧ lgM m s ≤ 3550) ∨ (1048576 ≤ lgM m s ∧ rsT m 0 s = 1048576) := by
  have h1 := hiS_8 ok hs
  have h0w : 0 < m.nw := by have := ok.nw; omega
  have h2 := rsT_bd ok h0w hs
  rw [lgM_rs]
  by_cases hf : rsT m 0 s < 1048576
  · have h3 := rsT_fin ok _ 0 s (Nat.le_refl _) h0w hs hf
    have h4 := plc_lt ⟨s, two8 ok hs⟩
    simp only at h4
    left; omega
  · right; omega
/-- The sum of the work of a set. -/
def bitI (s i : Nat) : Int := if s.testBit i = true then 1 else 0
theorem hiS_N (m : Mp) (s : Nat) : ∀ k, hiS m (plcN k s) = (List.range k).foldl (fun b i => b + bitI s i * (m.wk i).2) 0
  | 0 => rfl
  | k + 1 => by
    rw [List.range_succ, List.foldl_append, ← hiS_N m s k, plcN_succ]
    unfold bitI
    by_cases h : s.testBit k = true
    · simp [h, hiS_snoc]
    · simp [h]
theorem hiS_8s (m : Mp) (s : Nat) : hiS m (plc s) = bitI s 0 * (m.wk 0).2 + bitI s 1 * (m.wk 1).2 + bitI s 2 * (m.wk 2).2 + bitI s 3 * (m.wk 3).2 + bitI s 4 * (m.wk 4).2 + bitI s 5 * (m.wk 5).2 + bitI s 6 * (m.wk 6).2 + bitI s 7 * (m.wk 7).2 := by
  show hiS m (plcN 8 s) = _
  rw [hiS_N, show List.range 8 = [0, 1, 2, 3, 4, 5, 6, 7] from rfl]
  simp only [List.foldl_cons, List.foldl_nil, Int.zero_add]
theorem bitI_term {m : Mp} (ok : OkM m) {s i : Nat} (hs : s < 2 ^ m.nw) : bitI s i * (m.wk i).2 = 0 ∨ s.testBit i = true ∧ i < m.nw ∧ bitI s i * (m.wk i).2 = (m.wk i).2 ∧ 0 ≤ (m.wk i).2 := by
  unfold bitI
  by_cases h : s.testBit i = true
  · have hi := sub_sub hs h
    have := ok.wk i hi
    rw [if_pos h]
    exact .inr ⟨h, hi, by omega, by omega⟩
  · rw [if_neg h]; left; omega
theorem hi_term {m : Mp} (ok : OkM m) {x y z : Nat} (i : Nat) (hx : x < 2 ^ m.nw) (hy : y < 2 ^ m.nw) (hz : z < 2 ^ m.nw) (h1 : ∀ i, x.testBit i = true → z.testBit i = true) (h2 : ∀ i, z.testBit i = true → x.testBit i = true ∨ y.testBit i = true) :
    bitI x i * (m.wk i).2 ≤ bitI z i * (m.wk i).2 ∧ bitI z i * (m.wk i).2 ≤ bitI x i * (m.wk i).2 + bitI y i * (m.wk i).2 := by
  have a1 := h1 i
  have a2 := h2 i
  unfold bitI
  have w := fun h : z.testBit i = true => ok.wk i (sub_sub hz h)
  have w2 := fun h : x.testBit i = true => ok.wk i (sub_sub hx h)
  have w3 := fun h : y.testBit i = true => ok.wk i (sub_sub hy h)
  cases hzi : z.testBit i <;> cases hxi : x.testBit i <;> cases hyi : y.testBit i <;> simp_all <;> omega
theorem hiS_or {m : Mp} (ok : OkM m) {x y z : Nat} (hx : x < 2 ^ m.nw) (hy : y < 2 ^ m.nw) (hz : z < 2 ^ m.nw) (h1 : ∀ i, x.testBit i = true → z.testBit i = true) (h2 : ∀ i, z.testBit i = true → x.testBit i = true ∨ y.testBit i = true) :
    hiS m (plc x) ≤ hiS m (plc z) ∧ hiS m (plc z) ≤ hiS m (plc x) + hiS m (plc y) := by
  have t := fun i => hi_term ok i hx hy hz h1 h2
  have t0 := t 0; have t1 := t 1; have t2 := t 2; have t3 := t 3; have t4 := t 4; have t5 := t 5; have t6 := t 6; have t7 := t 7
  rw [hiS_8s, hiS_8s, hiS_8s]
  omega
theorem or_lt {m : Mp} {x y : Nat} (hx : x < 2 ^ m.nw) (hy : y < 2 ^ m.nw) : x ||| y < 2 ^ m.nw := Nat.or_lt_two_pow hx hy
/-- More places: at least as long. -/
theorem lgM_sub {m : Mp} (ok : OkM m) {p s : Nat} (hs : s < 2 ^ m.nw) (h : p &&& s = p) : lgM m p ≤ lgM m s := by
  have h0w : 0 < m.nw := by have := ok.nw; omega
  have hp : p < 2 ^ m.nw := Nat.lt_of_le_of_lt (sub_le h) hs
  have h1 := rsT_sub ok _ 0 s p (Nat.le_refl _) h0w hs h
  have h2 := (hiS_or ok hp hs hs (sub_iff.1 h) (fun i hi => .inr hi)).1
  rw [lgM_rs, lgM_rs]
  omega
theorem lgM_or {m : Mp} (ok : OkM m) {x y : Nat} (hx : x < 2 ^ m.nw) (hy : y < 2 ^ m.nw) : lgM m (x ||| y) ≤ lgM m x + lgM m y := by
  have h0w : 0 < m.nw := by have := ok.nw; omega
  have h1 := rsT_or ok x 0 x y (Nat.le_refl _) h0w hx hy
  have h2 := (hiS_or ok hx hy (or_lt hx hy) (fun i hi => by rw [Nat.testBit_or, hi]; rfl) (fun i hi => by rw [Nat.testBit_or, Bool.or_eq_true] at hi; exact hi)).2
  rw [lgM_rs, lgM_rs, lgM_rs]
  omega
end Go.Proofs.Ytpnkgjkoophckaa
