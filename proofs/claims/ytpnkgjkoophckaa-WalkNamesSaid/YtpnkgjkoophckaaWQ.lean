/- Walk, plain: ways, their times, and the reference's search. -/
import Derived.Test.YtpnkgjkoophckaaWP
namespace Go.Proofs.Ytpnkgjkoophckaa

inductive Pth (m : Mp) : Nat → Nat → Int → Prop
  | nil (a : Nat) : Pth m a a 0
  | cons {a b c : Nat} {h k : Int} : Ed m a b h → Pth m b c k → Pth m a c (h + k)
theorem Pth.app {m : Mp} {a b : Nat} {k : Int} (p : Pth m a b k) : ∀ {c : Nat} {l : Int}, Pth m b c l → Pth m a c (k + l) := by
  induction p with
  | nil a => intro c l q; rw [Int.zero_add]; exact q
  | cons e _ ih => intro c l q; rw [Int.add_assoc]; exact .cons e (ih q)
theorem Pth.symm {m : Mp} {a b : Nat} {k : Int} (p : Pth m a b k) : Pth m b a k := by
  induction p with
  | nil a => exact .nil a
  | @cons a b c h k e _ ih =>
    have := ih.app (.cons e.symm (.nil a))
    rw [Int.add_zero, Int.add_comm] at this
    exact this
theorem Pth.lt {m : Mp} (ok : OkM m) {a b : Nat} {k : Int} (p : Pth m a b k) (hb : b < m.nw) : a < m.nw := by
  cases p with
  | nil => exact hb
  | cons e _ => exact (e.bd ok).1
theorem Dst.le {m : Mp} {goal : Nat} {D F : Nat → Int} (d : Dst m goal D F) {a : Nat} {k : Int} (p : Pth m a goal k) : D a ≤ k := by
  have : ∀ {a c : Nat} {k : Int}, Pth m a c k → c = goal → D a ≤ k := by
    intro a c k p
    induction p with
    | nil a => rintro rfl; rw [d.self]; exact Int.le_refl _
    | cons e _ ih => intro hc; have := ih hc; have := d.tri _ _ _ e.symm; omega
  exact this p rfl
theorem Dst.pth {m : Mp} (ok : OkM m) {goal : Nat} {D F : Nat → Int} (d : Dst m goal D F) : ∀ (N a : Nat), a < m.nw → (D a).toNat < N → D a < 1048576 → Pth m a goal (D a)
  | 0, a, _, h, _ => by omega
  | N + 1, a, ha, h, hf => by
    by_cases e : a = goal
    · subst e; rw [d.self]; exact .nil a
    · obtain ⟨f, hh, _, e1, e2⟩ := d.first a ha e hf
      have b := e1.bd ok
      have bf := d.bd f b.2.1
      rw [e2]
      exact .cons e1 (Dst.pth ok d N f b.2.1 (by omega) (by omega))
theorem Dst.uniq {m : Mp} (ok : OkM m) {goal : Nat} {D F D' F' : Nat → Int} (d : Dst m goal D F) (d' : Dst m goal D' F') {a : Nat} (ha : a < m.nw) : D a = D' a := by
  have b := d.bd a ha
  have b' := d'.bd a ha
  by_cases h : D a < 1048576
  · have h1 := d'.le (d.pth ok _ a ha (Nat.lt_succ_self _) h)
    have h2 := d.le (d'.pth ok _ a ha (Nat.lt_succ_self _) (by omega))
    omega
  · by_cases h' : D' a < 1048576
    · have h2 := d.le (d'.pth ok _ a ha (Nat.lt_succ_self _) h')
      omega
    · omega
theorem tmA_bd {m : Mp} (ok : OkM m) {a b : Nat} (ha : a < m.nw) (hb : b < m.nw) : 0 ≤ tmA m a b ∧ tmA m a b ≤ 1048576 := (dst_atlas ok hb).bd a ha
theorem tmA_self {m : Mp} (ok : OkM m) {a : Nat} (ha : a < m.nw) : tmA m a a = 0 := (dst_atlas ok ha).self
theorem tmA_pth {m : Mp} (ok : OkM m) {a b : Nat} (ha : a < m.nw) (hb : b < m.nw) (h : tmA m a b < 1048576) : Pth m a b (tmA m a b) := (dst_atlas ok hb).pth ok _ a ha (Nat.lt_succ_self _) h
theorem tmA_le {m : Mp} (ok : OkM m) {a b : Nat} {k : Int} (hb : b < m.nw) (p : Pth m a b k) : tmA m a b ≤ k := (dst_atlas ok hb).le p
theorem tmA_symm_le {m : Mp} (ok : OkM m) {a b : Nat} (ha : a < m.nw) (hb : b < m.nw) : tmA m a b ≤ tmA m b a := by
  have b1 := tmA_bd ok ha hb
  have b2 := tmA_bd ok hb ha
  by_cases h : tmA m b a < 1048576
  · exact tmA_le ok hb (tmA_pth ok hb ha h).symm
  · omega
theorem tmA_symm {m : Mp} (ok : OkM m) {a b : Nat} (ha : a < m.nw) (hb : b < m.nw) : tmA m a b = tmA m b a :=
  Int.le_antisymm (tmA_symm_le ok ha hb) (tmA_symm_le ok hb ha)
theorem tmA_tri {m : Mp} (ok : OkM m) {a b c : Nat} (ha : a < m.nw) (hb : b < m.nw) (hc : c < m.nw) : tmA m a c ≤ tmA m a b + tmA m b c := by
  have b1 := tmA_bd ok ha hb
  have b2 := tmA_bd ok hb hc
  have b3 := tmA_bd ok ha hc
  by_cases h1 : tmA m a b < 1048576
  · by_cases h2 : tmA m b c < 1048576
    · exact tmA_le ok hc ((tmA_pth ok ha hb h1).app (tmA_pth ok hb hc h2))
    · omega
  · omega
theorem tmA_pos {m : Mp} (ok : OkM m) {a b : Nat} (ha : a < m.nw) (hb : b < m.nw) (h : a ≠ b) : 1 ≤ tmA m a b := by
  have d := dst_atlas ok hb
  by_cases h1 : tmA m a b < 1048576
  · obtain ⟨f, hh, _, e1, e2⟩ := d.first a ha h h1
    have b1 := e1.bd ok
    have b2 := d.bd f b1.2.1
    omega
  · omega

/-- The reference's search: one road of one round. -/
def bf1 (m : Mp) (k : Nat) (t : Nat → Int) : Nat → Int :=
  upd (upd t (m.ra k).toNat (min (t (m.ra k).toNat) (t (m.rb k).toNat + (m.rt k).2))) (m.rb k).toNat
    (min (upd t (m.ra k).toNat (min (t (m.ra k).toNat) (t (m.rb k).toNat + (m.rt k).2)) (m.rb k).toNat) (upd t (m.ra k).toNat (min (t (m.ra k).toNat) (t (m.rb k).toNat + (m.rt k).2)) (m.ra k).toNat + (m.rt k).2))
def bfN (m : Mp) : Nat → (Nat → Int) → Nat → Int
  | 0, t => t
  | k + 1, t => bf1 m k (bfN m k t)
def bfR (m : Mp) (a : Nat) : Nat → Nat → Int
  | 0 => fun n => if n = a then 0 else 1048576
  | r + 1 => bfN m m.nr (bfR m a r)
def bfW (m : Mp) (a b : Nat) : Int := min (bfR m a m.nw b) 1048576
/-- What one road does. -/
structure Bf (m : Mp) (D t t' : Nat → Int) : Prop where
  lo : ∀ n, n < m.nw → D n ≤ t' n
  le : ∀ n, t' n ≤ t n
theorem bf1_ab {m : Mp} (ok : OkM m) {k : Nat} (hk : k < m.nr) (t : Nat → Int) : ∃ a b : Nat, m.ra k = a ∧ m.rb k = b ∧ a < m.nw ∧ b < m.nw ∧ a ≠ b ∧ bf1 m k t = upd (upd t a (min (t a) (t b + (m.rt k).2))) b (min (t b) (min (t a) (t b + (m.rt k).2) + (m.rt k).2)) := by
  have h1 := ok.ra k hk; have h2 := ok.rb k hk; have h3 := ok.ab k hk
  refine ⟨(m.ra k).toNat, (m.rb k).toNat, by omega, by omega, by omega, by omega, by omega, ?_⟩
  unfold bf1
  rw [upd_same, upd_ne (f := t) (show (m.rb k).toNat ≠ (m.ra k).toNat by omega)]
theorem bf1_bf {m : Mp} (ok : OkM m) {D t : Nat → Int} (tri : ∀ x y h, Ed m x y h → D y ≤ h + D x) {k : Nat} (hk : k < m.nr) (hlo : ∀ n, n < m.nw → D n ≤ t n) : Bf m D t (bf1 m k t) := by
  obtain ⟨a, b, ea, eb, ha, hb, hab, e⟩ := bf1_ab ok hk t
  have h4 := ok.rt k hk
  have e1 : Ed m a b (m.rt k).2 := ⟨k, hk, .inl ⟨ea, eb⟩, rfl⟩
  have t1 := tri _ _ _ e1
  have t2 := tri _ _ _ e1.symm
  have la := hlo a ha
  have lb := hlo b hb
  rw [e]
  refine ⟨fun n hn => ?_, fun n => ?_⟩
  · by_cases x : n = b
    · subst x; rw [upd_same]; omega
    · rw [upd_ne x]
      by_cases y : n = a
      · subst y; rw [upd_same]; omega
      · rw [upd_ne y]; exact hlo n hn
  · by_cases x : n = b
    · subst x; rw [upd_same]; omega
    · rw [upd_ne x]
      by_cases y : n = a
      · subst y; rw [upd_same]; omega
      · rw [upd_ne y]; exact Int.le_refl _
theorem bf1_ed {m : Mp} (ok : OkM m) {t : Nat → Int} {k : Nat} (hk : k < m.nr) {n f : Nat} (h : (m.ra k = n ∧ m.rb k = f) ∨ (m.ra k = f ∧ m.rb k = n)) : bf1 m k t n ≤ t f + (m.rt k).2 := by
  obtain ⟨a, b, ea, eb, ha, hb, hab, e⟩ := bf1_ab ok hk t
  have h4 := ok.rt k hk
  rw [e]
  rcases h with ⟨x, y⟩ | ⟨x, y⟩
  · obtain rfl : a = n := by omega
    obtain rfl : b = f := by omega
    rw [upd_ne hab, upd_same]; omega
  · obtain rfl : a = f := by omega
    obtain rfl : b = n := by omega
    rw [upd_same]; omega
theorem bfN_bf {m : Mp} (ok : OkM m) {D : Nat → Int} (tri : ∀ x y h, Ed m x y h → D y ≤ h + D x) {t : Nat → Int} (hlo : ∀ n, n < m.nw → D n ≤ t n) : ∀ j, j ≤ m.nr → Bf m D t (bfN m j t) ∧
      ∀ k, k < j → ∀ n f : Nat, f < m.nw → ((m.ra k = n ∧ m.rb k = f) ∨ (m.ra k = f ∧ m.rb k = n)) → bfN m j t n ≤ t f + (m.rt k).2
  | 0, _ => ⟨⟨hlo, fun n => Int.le_refl _⟩, fun k hk => by omega⟩
  | j + 1, hj => by
    obtain ⟨i1, i2⟩ := bfN_bf ok tri hlo j (by omega)
    have i3 := bf1_bf ok tri (k := j) (by omega) i1.lo
    simp only [bfN]
    refine ⟨⟨i3.lo, fun n => Int.le_trans (i3.le n) (i1.le n)⟩, fun k hk n f hf h => ?_⟩
    rcases Nat.lt_succ_iff_lt_or_eq.1 hk with h1 | rfl
    · exact Int.le_trans (i3.le n) (i2 k h1 n f hf h)
    · have := bf1_ed ok (t := bfN m k t) (by omega) h
      have := i1.le f
      omega
theorem bfR_all {m : Mp} (ok : OkM m) {a : Nat} {D F : Nat → Int} (ha : a < m.nw) (d : Dst m a D F) : ∀ r, (∀ n, n < m.nw → D n ≤ bfR m a r n) ∧ bfR m a r a ≤ 0 ∧
      ∀ n, n < m.nw → D n < 1048576 → cntN (fun q => decide (D q < D n)) m.nw < r → bfR m a r n ≤ D n
  | 0 => by
    refine ⟨fun n hn => ?_, by simp [bfR], fun n _ _ h => by omega⟩
    have := d.bd n hn
    have := d.self
    simp only [bfR]
    split
    · subst n; omega
    · omega
  | r + 1 => by
    obtain ⟨i1, i2, i3⟩ := bfR_all ok ha d r
    obtain ⟨b1, b2⟩ := bfN_bf ok d.tri i1 m.nr (Nat.le_refl _)
    simp only [bfR]
    refine ⟨b1.lo, Int.le_trans (b1.le a) i2, fun n hn hf hr => ?_⟩
    by_cases e : n = a
    · subst e; have := b1.le n; rw [d.self]; omega
    · obtain ⟨f, hh, _, e1, e2⟩ := d.first n hn e hf
      have bb := e1.bd ok
      have bf := d.bd f bb.2.1
      obtain ⟨k, hk, e3, rfl⟩ := e1
      have h1 := b2 k hk n f bb.2.1 e3
      have h2 := i3 f bb.2.1 (by omega) (by
        have := cntN_lt (S := fun q => decide (D q < D f)) (S' := fun q => decide (D q < D n)) (fun i hi => by simp only [decide_eq_true_eq] at *; omega) (p := f) bb.2.1 (by simp) (by simp; omega)
        omega)
      omega
theorem bfW_eq {m : Mp} (ok : OkM m) {a b : Nat} (ha : a < m.nw) (hb : b < m.nw) : bfW m a b = tmA m b a := by
  have d := dst_atlas ok ha
  obtain ⟨i1, _, i3⟩ := bfR_all ok ha d m.nw
  have bd := d.bd b hb
  have l1 := i1 b hb
  unfold bfW
  by_cases h : tmA m b a < 1048576
  · have h2 := i3 b hb h (by
      have := cntN_lt (S := fun q => decide (tmA m q a < tmA m b a)) (S' := fun _ => true) (fun _ _ => rfl) (p := b) hb (by simp) rfl
      rw [cntN_all (S := fun _ => true) (fun _ _ => rfl)] at this
      exact this)
    omega
  · omega
end Go.Proofs.Ytpnkgjkoophckaa
