/- Sizes of a truth: what bounds them; a shorter table; frames that keep rows of numbers. | A truth that can be: its sizes lie in what is reckoned. | Picked: the state of a truth that is being made. | A drawn region some of whose last operations wait for all that was taken: what the loads rest on need not hold behind these (ex). -/
import Derived.Test.YtjaoflfophcibaaGW
namespace Go.Proofs.Ytjaoflfophcibaa
open Go.RowKit Go.Shelf

def bdP : Nat → Int
  | 0 => 500
  | c + 1 => 2 * bdP c + 50
theorem bdP_500 : ∀ c, 500 ≤ bdP c
  | 0 => by decide
  | c + 1 => by have := bdP_500 c; unfold bdP; omega
theorem bdP_le {c : Nat} (h : c ≤ 7) : bdP c ≤ 1000000 := by
  have : ∀ k : Fin 8, bdP k.1 ≤ 1000000 := by decide
  exact this ⟨c, by omega⟩
theorem wrap64_in {n : Int} (h1 : -1000000000000 ≤ n) (h2 : n ≤ 1000000000000) : wrap64 n = n := by unfold wrap64; omega
/-- The bound of a part of a row. -/
def bb (B : Int) (k g : Nat) : Int := if k ≤ g then 0 else if k = g + 1 then B else 2 * B
theorem addP_bd {last : Nat} {A D : Nat → Int} {B : Int} (hB : 0 ≤ B) (hB2 : B ≤ 1000000) : ∀ k, k ≤ last + 2 → (∀ i, i < k → -B ≤ A i - D i ∧ A i - D i ≤ B) → ∀ g, g ≤ last → -(bb B k g) ≤ addP last A D k g ∧ addP last A D k g ≤ bb B k g
  | 0, _, _, g, _ => by
    have : bb B 0 g = 0 := by unfold bb; rw [if_pos (Nat.zero_le _)]
    rw [this]; exact ⟨Int.le_refl _, Int.le_refl _⟩
  | k + 1, hk, h, g, hg => by
    obtain ⟨i1, i2⟩ := addP_bd hB hB2 k (by omega) (fun i hi => h i (by omega)) g hg
    obtain ⟨j1, j2⟩ := h k (by omega)
    unfold addP
    by_cases e : g = min k last
    · rw [if_pos e]
      rw [wrap64_in (n := A k - D k) (by omega) (by omega)]
      have hb : (bb B k g = 0 ∧ bb B (k + 1) g = B) ∨ (bb B k g = B ∧ bb B (k + 1) g = 2 * B) := by
        unfold bb
        by_cases h2 : k ≤ last
        · left; rw [if_pos (by omega), if_neg (by omega), if_pos (by omega)]; exact ⟨rfl, rfl⟩
        · right; rw [if_neg (by omega), if_pos (by omega), if_neg (by omega), if_neg (by omega)]; exact ⟨rfl, rfl⟩
      rw [wrap64_in (by rcases hb with ⟨b1, b2⟩ | ⟨b1, b2⟩ <;> rw [b1] at i1 i2 <;> omega) (by rcases hb with ⟨b1, b2⟩ | ⟨b1, b2⟩ <;> rw [b1] at i1 i2 <;> omega)]
      rcases hb with ⟨b1, b2⟩ | ⟨b1, b2⟩ <;> rw [b1] at i1 i2 <;> rw [b2] <;> omega
    · rw [if_neg e]
      have hm : bb B k g ≤ bb B (k + 1) g := by
        unfold bb
        by_cases h1 : k ≤ g
        · rw [if_pos h1]; split
          · omega
          · split <;> omega
        · rw [if_neg h1, if_neg (show ¬ k + 1 ≤ g by omega), if_neg (show ¬ k + 1 = g + 1 by omega)]; split <;> omega
      omega
/-- The lists of a truth fit, as far as c censuses. -/
structure Fit (t : Tb) (x : Tr) (c : Nat) : Prop where
  f : ∀ g, g < t.ng → (t.ct 0 g).1 ≤ x.f g ∧ x.f g ≤ (t.ct 0 g).2
  b : ∀ q, q < c → (t.b q).1 ≤ x.b q ∧ x.b q ≤ (t.b q).2
  m : ∀ q, q < c → ∀ g, g < t.ng → (t.n g).1 ≤ x.m q g ∧ x.m q g ≤ (t.n g).2
def deadIn (ng : Nat) (x : Tr) (q k : Nat) : Prop := ∀ i, i < k → 0 ≤ x.d q i ∧ x.d q i ≤ max 0 (allS (x.b q) (siz ng x q) i)
/-- A table that is valid. -/
structure Okt (t : Tb) : Prop where
  nc1 : 1 ≤ t.nc
  nc4 : t.nc ≤ 4
  ng2 : 2 ≤ t.ng
  ng4 : t.ng ≤ 4
  nb : t.nb + 1 = t.nc
  nr : t.nr = t.ng + 1
  nn : t.nn = t.ng
  rl : ∀ c, c < t.nc → t.rl c = t.ng
  ct : ∀ c g, c < t.nc → g < t.ng → 0 ≤ (t.ct c g).1 ∧ (t.ct c g).1 ≤ (t.ct c g).2 ∧ (t.ct c g).2 ≤ 500
  b : ∀ c, c < t.nb → 0 ≤ (t.b c).1 ∧ (t.b c).1 ≤ (t.b c).2 ∧ (t.b c).2 ≤ 500
  r : ∀ c, c < t.nr → 0 ≤ (t.r c).1 ∧ (t.r c).1 ≤ (t.r c).2 ∧ (t.r c).2 ≤ 1000
  n : ∀ c, c < t.nn → -50 ≤ (t.n c).1 ∧ (t.n c).1 ≤ (t.n c).2 ∧ (t.n c).2 ≤ 50
/-- What of it sizes need. -/
structure Okw (t : Tb) (k : Nat) : Prop where
  k4 : k ≤ 4
  ng2 : 2 ≤ t.ng
  ng4 : t.ng ≤ 4
  ct : ∀ g, g < t.ng → 0 ≤ (t.ct 0 g).1 ∧ (t.ct 0 g).1 ≤ (t.ct 0 g).2 ∧ (t.ct 0 g).2 ≤ 500
  b : ∀ c, c < k → 0 ≤ (t.b c).1 ∧ (t.b c).1 ≤ (t.b c).2 ∧ (t.b c).2 ≤ 500
  r : ∀ c, c < t.ng + 1 → 0 ≤ (t.r c).1 ∧ (t.r c).1 ≤ (t.r c).2 ∧ (t.r c).2 ≤ 1000
  n : ∀ c, c < t.ng → -50 ≤ (t.n c).1 ∧ (t.n c).1 ≤ (t.n c).2 ∧ (t.n c).2 ≤ 50
theorem Okt.w {t : Tb} (h : Okt t) : Okw t t.nb := ⟨by have := h.nb; have := h.nc4; omega, h.ng2, h.ng4, fun g hg => h.ct 0 g h.nc1 hg, h.b, fun c hc => h.r c (by rw [h.nr]; exact hc), fun c hc => h.n c (by rw [h.nn]; exact hc)⟩
theorem siz_bd {t : Tb} {x : Tr} {nb : Nat} (ht : Okw t nb) : ∀ c, c ≤ nb → Fit t x c → (∀ q, q < c → deadIn t.ng x q (t.ng + 1)) → ∀ g, g < t.ng → -(bdP c) ≤ siz t.ng x c g ∧ siz t.ng x c g ≤ bdP c
  | 0, _, hf, _, g, hg => by
    have h1 := hf.f g hg
    have h2 := ht.ct g hg
    show -500 ≤ x.f g ∧ x.f g ≤ 500
    omega
  | c + 1, hc, hf, hd, g, hg => by
    have ih := siz_bd ht c (by omega) ⟨hf.f, fun q hq => hf.b q (by omega), fun q hq => hf.m q (by omega)⟩ (fun q hq => hd q (by omega))
    have hbp := bdP_le (c := c) (by have := ht.k4; omega)
    have hb1 := bdP_500 c
    have hA : ∀ i, i < t.ng + 1 → -(bdP c) ≤ allS (x.b c) (siz t.ng x c) i ∧ allS (x.b c) (siz t.ng x c) i ≤ bdP c := by
      intro i hi
      match i with
      | 0 =>
        show -(bdP c) ≤ x.b c ∧ x.b c ≤ bdP c
        have h1 := hf.b c (by omega)
        have h2 := ht.b c (by omega)
        omega
      | i + 1 => exact ih i (by omega)
    have hng := ht.ng2
    have h1 := addP_bd (last := t.ng - 1) (A := allS (x.b c) (siz t.ng x c)) (D := x.d c) (B := bdP c) (by omega) hbp (t.ng + 1) (by omega) (fun i hi => by
      have h1 := hA i hi
      have h2 := hd c (by omega) i hi
      omega) g (by omega)
    have hbb : bb (bdP c) (t.ng + 1) g ≤ 2 * bdP c := by
      unfold bb
      split
      · omega
      · split <;> omega
    have h2 := hf.m c (by omega) g hg
    have h3 := ht.n g hg
    show -(2 * bdP c + 50) ≤ wrap64 (addP (t.ng - 1) (allS (x.b c) (siz t.ng x c)) (x.d c) (t.ng + 1) g + x.m c g) ∧ wrap64 (addP (t.ng - 1) (allS (x.b c) (siz t.ng x c)) (x.d c) (t.ng + 1) g + x.m c g) ≤ 2 * bdP c + 50
    rw [wrap64_in (by omega) (by omega)]
    omega
theorem Okt.of_fault {t : Tb} (h : t.fault = 0) : Okt t := by
  obtain ⟨h1, h2, h3, h4, h5, h6, h7, h8, h9, h10, h11⟩ := fault_facts h
  have hin : ∀ {r : R2} {lo hi : Int}, insideR r lo hi = true → lo ≤ r.1 ∧ r.1 ≤ r.2 ∧ r.2 ≤ hi := by
    intro r lo hi h
    unfold insideR at h
    simp only [Bool.and_eq_true, decide_eq_true_eq] at h
    exact ⟨h.1.1, h.1.2, h.2⟩
  exact ⟨h4, h1, h3, h2, h5, h6, h7, fun c hc => (h8 c hc).1, fun c g hc hg => hin ((h8 c hc).2 g hg), fun c hc => hin (h9 c hc), fun c hc => hin (h10 c hc), fun c hc => hin (h11 c hc)⟩
/-- A table with its first censuses only. -/
def Tb.short (t : Tb) (c : Nat) : Tb := { t with nc := c + 2, nb := c + 1 }
theorem short_ng {t : Tb} (ht : Okt t) (c : Nat) : (t.short c).ng = t.ng := by
  have := ht.nc1
  unfold Tb.ng Tb.short
  simp only
  rw [if_neg (by omega), if_neg (by omega)]
theorem RsIn.take {w : World} {a : Option Addr} {n m cap cap' : Nat} {R : Nat → R2} (h : RsIn w (.slice a n cap) n R) (hm : m ≤ n) : RsIn w (.slice a m cap') m R := by
  rcases h with ⟨_, _, _, h⟩ | ⟨b', o', c', e, hb, hz⟩
  · exact .inl ⟨a, cap', by rw [show m = 0 by omega], by omega⟩
  · cases e; exact .inr ⟨b', o', cap', rfl, hb, fun j hj => hz j (by omega)⟩
theorem RowsIn.take {w : World} {a : Option Addr} {n m cap cap' : Nat} {rl : Nat → Nat} {ct : Nat → Nat → R2} (h : RowsIn w (.slice a n cap) n rl ct) (hm : m ≤ n) : RowsIn w (.slice a m cap') m rl ct := by
  rcases h with ⟨_, _, _, h⟩ | ⟨b', o', c', e, hb, hz⟩
  · exact .inl ⟨a, cap', by rw [show m = 0 by omega], by omega⟩
  · cases e; exact .inr ⟨b', o', cap', rfl, hb, fun j hj => hz j (by omega)⟩
/-- Worlds that agree on the rows of numbers. -/
def NI (W : World) (b : Nat) : Prop := ¬ ∃ cs, W.heap[b]? = some (.cells cs 3 (0, 0))
abbrev KI (W X : World) : Prop := Fr (NI W) W X
theorem KI.refl (W : World) : KI W W := Fr.refl _ _
theorem KI.trans {A B C : World} (h : KI A B) (k : KI B C) : KI A C :=
  ⟨k.os.trans h.os, k.tape.trans h.tape, k.output.trans h.output, Nat.le_trans h.size k.size, fun q hq he => by
    have h1 := h.block q hq he
    refine (k.block q (Nat.lt_of_lt_of_le hq h.size) (fun e => ?_)).trans h1
    apply he
    rintro ⟨cs, hc⟩
    exact e ⟨cs, h1.trans hc⟩⟩
theorem KI.below {A B : World} (h : Below A.heap.size A B) : KI A B := Fr.below h _
theorem KI.own {W X : World} {base n : Nat} {v : Value} {xs : List Value} (h : W.ownsRow base 3 1 v n xs) (hf : KI W X) : X.ownsRow base 3 1 v n xs := own_fr h hf (fun _ cur _ _ hc e => e ⟨cur, hc⟩)
/-- A step that changes blocks of another type. -/
theorem KI.fr {ex : Nat → Prop} {A B : World} (h : Fr ex A B) (hx : ∀ k cs, ex k → ¬ A.heap[k]? = some (.cells cs 3 (0, 0))) : KI A B := h.mono (fun k _ he => fun ⟨cs, hc⟩ => hx k cs he hc)
/-- A step that changes blocks that are new. -/
theorem KI.step {ex : Nat → Prop} {A B C : World} (h : KI A B) (k : Fr ex B C) (hx : ∀ q, ex q → A.heap.size ≤ q) : KI A C :=
  ⟨k.os.trans h.os, k.tape.trans h.tape, k.output.trans h.output, Nat.le_trans h.size k.size, fun q hq he => (k.block q (Nat.lt_of_lt_of_le hq h.size) (fun e => by have := hx q e; omega)).trans (h.block q hq he)⟩
end Go.Proofs.Ytjaoflfophcibaa

namespace Go.Proofs.Ytjaoflfophcibaa
open Go.RowKit Go.Shelf

theorem canD_all {r : Nat → R2} {A D : Nat → Int} : ∀ (k : Nat) (b : Bool), canD r A D k b = true → b = true ∧ ∀ i, i < k → 0 ≤ A i ∧ inB (D i) (deadW (r i) (A i)).1 (deadW (r i) (A i)).2 = true
  | 0, b, h => ⟨h, fun i hi => absurd hi (Nat.not_lt_zero _)⟩
  | k + 1, b, h => by
    unfold canD at h
    simp only [Bool.and_eq_true, decide_eq_true_eq] at h
    obtain ⟨h1, h2⟩ := canD_all k b h.1
    refine ⟨h1, fun i hi => ?_⟩
    by_cases e : i = k
    · subst e; exact h.2
    · exact h2 i (by omega)
theorem canR_all {S : Nat → Int} : ∀ (k : Nat) (b : Bool), canR S k b = true → b = true ∧ ∀ i, i < k → 0 ≤ S i
  | 0, b, h => ⟨h, fun i hi => absurd hi (Nat.not_lt_zero _)⟩
  | k + 1, b, h => by
    unfold canR at h
    simp only [Bool.and_eq_true, decide_eq_true_eq] at h
    obtain ⟨h1, h2⟩ := canR_all k b h.1
    refine ⟨h1, fun i hi => ?_⟩
    by_cases e : i = k
    · subst e; exact h.2
    · exact h2 i (by omega)
theorem canC_all {t : Tb} {x : Tr} : ∀ c, canC t x c = true → ∀ q, q < c → (∀ i, i < t.ng + 1 → 0 ≤ allS (x.b q) (siz t.ng x q) i ∧ inB (x.d q i) (deadW (t.r i) (allS (x.b q) (siz t.ng x q) i)).1 (deadW (t.r i) (allS (x.b q) (siz t.ng x q) i)).2 = true) ∧ ∀ g, g < t.ng → 0 ≤ siz t.ng x (q + 1) g
  | 0, _, q, hq => absurd hq (Nat.not_lt_zero _)
  | c + 1, h, q, hq => by
    unfold canC at h
    obtain ⟨h1, h2⟩ := canR_all _ _ h
    obtain ⟨h3, h4⟩ := canD_all _ _ h1
    by_cases e : q = c
    · subst e; exact ⟨h4, h2⟩
    · exact canC_all c h3 q (by omega)
theorem deadW_eq {r : R2} {n : Int} (h1 : 0 ≤ r.1) (h2 : r.1 ≤ r.2) (h3 : r.2 ≤ 1000) (hn : 0 ≤ n) (hn2 : n ≤ 1000000) : deadW r n = deadR r n := by
  obtain ⟨a1, a2⟩ := mul_bd (n := n) (a := r.1) (N := 1000000) (A := 1000) (by omega) hn2 h1 (by omega) (by omega)
  obtain ⟨a3, a4⟩ := mul_bd (n := n) (a := r.2) (N := 1000000) (A := 1000) (by omega) hn2 (by omega) h3 (by omega)
  have q1 : 0 ≤ n * r.1 := Int.mul_nonneg hn h1
  have q2 : 0 ≤ n * r.2 := Int.mul_nonneg hn (by omega)
  unfold deadW deadR
  rw [wrap64_in (n := n * r.1) (by omega) (by omega), wrap64_in (n := n * r.2) (by omega) (by omega), wrap64_in (n := n * r.2 + 999) (by omega) (by omega), Int.tdiv_eq_ediv_of_nonneg q1, Int.tdiv_eq_ediv_of_nonneg (by omega), wrap64_in (by omega) (by omega), wrap64_in (by omega) (by omega)]
theorem deadR_le {r : R2} {n : Int} (h1 : 0 ≤ r.1) (h2 : r.1 ≤ r.2) (h3 : r.2 ≤ 1000) (hn : 0 ≤ n) : 0 ≤ (deadR r n).1 ∧ (deadR r n).1 ≤ (deadR r n).2 ∧ (deadR r n).2 ≤ n := by
  have q1 : 0 ≤ n * r.1 := Int.mul_nonneg hn h1
  have q2 : n * r.1 ≤ n * r.2 := Int.mul_le_mul_of_nonneg_left h2 hn
  have q3 : n * r.2 ≤ n * 1000 := Int.mul_le_mul_of_nonneg_left h3 hn
  unfold deadR
  simp only
  omega
/-- What a truth that can be says of each census. -/
structure Lv (t : Tb) (x : Tr) (c : Nat) : Prop where
  sz : ∀ q, q ≤ c → ∀ g, g < t.ng → 0 ≤ siz t.ng x q g ∧ siz t.ng x q g ≤ bdP q
  al : ∀ q, q < c → ∀ i, i < t.ng + 1 → 0 ≤ allS (x.b q) (siz t.ng x q) i ∧ (deadR (t.r i) (allS (x.b q) (siz t.ng x q) i)).1 ≤ x.d q i ∧ x.d q i ≤ (deadR (t.r i) (allS (x.b q) (siz t.ng x q) i)).2
theorem Lv.of_can {t : Tb} {x : Tr} {nb : Nat} (ht : Okw t nb) : ∀ c, c ≤ nb → Fit t x c → canC t x c = true → Lv t x c
  | 0, _, hf, _ => ⟨fun q hq g hg => by
      obtain rfl : q = 0 := by omega
      have h1 := hf.f g hg
      have h2 := ht.ct g hg
      show 0 ≤ x.f g ∧ x.f g ≤ 500
      omega, fun q hq => absurd hq (Nat.not_lt_zero _)⟩
  | c + 1, hc, hf, h => by
    have hf' : Fit t x c := ⟨hf.f, fun q hq => hf.b q (by omega), fun q hq => hf.m q (by omega)⟩
    have h0 : canC t x c = true := by
      unfold canC at h
      exact (canD_all _ _ (canR_all _ _ h).1).1
    have ih := Lv.of_can ht c (by omega) hf' h0
    obtain ⟨h1, h2⟩ := canC_all (c + 1) h c (by omega)
    have hbp := bdP_le (c := c) (by have := ht.k4; omega)
    have h5 := bdP_500 c
    have hA : ∀ i, i < t.ng + 1 → allS (x.b c) (siz t.ng x c) i ≤ bdP c := by
      intro i hi
      match i with
      | 0 =>
        show x.b c ≤ bdP c
        have h1 := hf.b c (by omega)
        have h2 := ht.b c (by omega)
        omega
      | i + 1 => exact (ih.sz c (Nat.le_refl _) i (by omega)).2
    have hal : ∀ q, q < c + 1 → ∀ i, i < t.ng + 1 → 0 ≤ allS (x.b q) (siz t.ng x q) i ∧ (deadR (t.r i) (allS (x.b q) (siz t.ng x q) i)).1 ≤ x.d q i ∧ x.d q i ≤ (deadR (t.r i) (allS (x.b q) (siz t.ng x q) i)).2 := by
      intro q hq i hi
      by_cases e : q = c
      · subst e
        obtain ⟨h3, h4⟩ := h1 i hi
        obtain ⟨r1, r2, r3⟩ := ht.r i hi
        rw [deadW_eq r1 r2 r3 h3 (by have := hA i hi; omega)] at h4
        simp only [inB, Bool.and_eq_true, decide_eq_true_eq] at h4
        exact ⟨h3, h4⟩
      · exact ih.al q (by omega) i hi
    refine ⟨fun q hq g hg => ?_, hal⟩
    by_cases e : q ≤ c
    · exact ih.sz q e g hg
    · obtain rfl : q = c + 1 := by omega
      refine ⟨h2 g hg, (siz_bd ht (c + 1) hc hf (fun q hq i hi => ?_) g hg).2⟩
      obtain ⟨h3, h4, h5⟩ := hal q hq i hi
      obtain ⟨r1, r2, r3⟩ := ht.r i hi
      have := deadR_le r1 r2 r3 h3
      omega
theorem addP_low {last : Nat} {A D : Nat → Int} {g : Nat} (hg : g < last) (hb : -1000000 ≤ A g - D g ∧ A g - D g ≤ 1000000) : ∀ k, addP last A D k g = if k ≤ g then 0 else A g - D g
  | 0 => by rw [if_pos (Nat.zero_le _)]; rfl
  | k + 1 => by
    have ih := addP_low hg hb k
    unfold addP
    rw [ih]
    by_cases e : k = g
    · subst e
      rw [if_pos (by omega), if_pos (Nat.le_refl _), if_neg (by omega), wrap64_in (n := A k - D k) (by omega) (by omega), wrap64_in (by omega) (by omega)]
      omega
    · rw [if_neg (by omega)]
      by_cases h2 : k ≤ g
      · rw [if_pos h2, if_pos (by omega)]
      · rw [if_neg h2, if_neg (by omega)]
theorem addP_zero {last : Nat} {A D : Nat → Int} : ∀ k, k ≤ last → addP last A D k last = 0
  | 0, _ => rfl
  | k + 1, h => by
    unfold addP
    rw [if_neg (by omega)]
    exact addP_zero k (by omega)
theorem addP_top {last : Nat} {A D : Nat → Int} (hb : -1000000 ≤ A last - D last ∧ A last - D last ≤ 1000000) (hb2 : -1000000 ≤ A (last + 1) - D (last + 1) ∧ A (last + 1) - D (last + 1) ≤ 1000000) : addP last A D (last + 2) last = (A last - D last) + (A (last + 1) - D (last + 1)) := by
  have h1 : addP last A D (last + 1) last = A last - D last := by
    show (if last = min last last then wrap64 (addP last A D last last + wrap64 (A last - D last)) else addP last A D last last) = _
    rw [if_pos (by omega), addP_zero _ (Nat.le_refl _), wrap64_in (n := A last - D last) (by omega) (by omega), wrap64_in (by omega) (by omega)]
    omega
  show (if last = min (last + 1) last then wrap64 (addP last A D (last + 1) last + wrap64 (A (last + 1) - D (last + 1))) else addP last A D (last + 1) last) = _
  rw [if_pos (by omega), h1, wrap64_in (n := A (last + 1) - D (last + 1)) (by omega) (by omega), wrap64_in (by omega) (by omega)]
def inR (n : Int) (r : R2) : Prop := r.1 ≤ n ∧ n ≤ r.2
theorem living_in {r s : R2} {n d : Int} (r2 : r.1 ≤ r.2) (r3 : r.2 ≤ 1000) (hn : inR n s) (hd : (deadR r n).1 ≤ d ∧ d ≤ (deadR r n).2) : inR (n - d) (livingR r s) := by
  obtain ⟨h1, h2⟩ := hn
  have e1 : (s.2 - n) * r.1 ≤ (s.2 - n) * 1000 := Int.mul_le_mul_of_nonneg_left (by omega) (by omega)
  have e2 : (n - s.1) * r.2 ≤ (n - s.1) * 1000 := Int.mul_le_mul_of_nonneg_left (by omega) (by omega)
  have e3 : (s.2 - n) * r.1 = s.2 * r.1 - n * r.1 := Int.sub_mul _ _ _
  have e4 : (n - s.1) * r.2 = n * r.2 - s.1 * r.2 := Int.sub_mul _ _ _
  unfold inR livingR fewestR mostR
  unfold deadR at hd ⊢
  simp only at hd ⊢
  generalize n * r.1 = a1 at *
  generalize n * r.2 = a2 at *
  generalize s.1 * r.2 = a3 at *
  generalize s.2 * r.1 = a4 at *
  omega
theorem siz_succ {t : Tb} {x : Tr} {c nb : Nat} (ht : Okw t nb) (hc : c < nb) (hf : Fit t x (c + 1)) (hl : Lv t x (c + 1)) {g : Nat} (hg : g < t.ng) :
    siz t.ng x (c + 1) g = (if g = t.last then (allS (x.b c) (siz t.ng x c) g - x.d c g) + (allS (x.b c) (siz t.ng x c) (g + 1) - x.d c (g + 1)) else allS (x.b c) (siz t.ng x c) g - x.d c g) + x.m c g := by
  have hbp := bdP_le (c := c) (by have := ht.k4; omega)
  have h5 := bdP_500 c
  have hA : ∀ i, i < t.ng + 1 → allS (x.b c) (siz t.ng x c) i ≤ 1000000 := by
    intro i hi
    match i with
    | 0 =>
      show x.b c ≤ 1000000
      have h1 := hf.b c (by omega)
      have h2 := ht.b c hc
      omega
    | i + 1 => have : siz t.ng x c i ≤ _ := (hl.sz c (by omega) i (by omega)).2; show siz t.ng x c i ≤ 1000000; omega
  have hD : ∀ i, i < t.ng + 1 → -1000000 ≤ allS (x.b c) (siz t.ng x c) i - x.d c i ∧ allS (x.b c) (siz t.ng x c) i - x.d c i ≤ 1000000 := by
    intro i hi
    obtain ⟨h1, h2, h3⟩ := hl.al c (by omega) i hi
    obtain ⟨r1, r2, r3⟩ := ht.r i hi
    have := deadR_le r1 r2 r3 h1
    have := hA i hi
    omega
  have hm := hf.m c (by omega) g hg
  have hm2 := ht.n g hg
  have hng := ht.ng2
  have e2 : t.ng + 1 = (t.ng - 1) + 2 := by omega
  show wrap64 (addP (t.ng - 1) (allS (x.b c) (siz t.ng x c)) (x.d c) (t.ng + 1) g + x.m c g) = _
  unfold Tb.last
  by_cases e : g = t.ng - 1
  · rw [if_pos e, e2]
    subst e
    rw [addP_top (hD _ (by omega)) (hD _ (by omega))]
    have := hD (t.ng - 1) (by omega)
    have := hD (t.ng - 1 + 1) (by omega)
    rw [wrap64_in (by omega) (by omega)]
  · rw [if_neg e, addP_low (by omega) (hD g (by omega)), if_neg (by omega)]
    have := hD g (by omega)
    rw [wrap64_in (by omega) (by omega)]
theorem emptyR_false {r : R2} {n : Int} (h : inR n r) : emptyR r = false := by
  unfold emptyR; exact decide_eq_false (by have := h.1; have := h.2; omega)
theorem meetR_in {a b : R2} {n : Int} (h : inR n a) (k : inR n b) : inR n (meetR a b) := by
  unfold inR meetR at *
  simp only
  omega
/-- The sizes lie in what is reckoned, where they agree with the counts that are used. -/
theorem before_in {t : Tb} {x : Tr} {nb : Nat} {out : Nat → Nat → Bool} (ht : Okw t nb) (hf : Fit t x nb) (hl : Lv t x nb) :
    ∀ c, c ≤ nb → (∀ q g, q < c → g < t.ng → inR (siz t.ng x q g) (t.own out q g)) → ∀ g, g < t.ng → inR (siz t.ng x c g) (t.before out c g)
  | 0, _, _, g, hg => by
    have h1 := hf.f g hg
    have h2 := ht.ct g hg
    exact ⟨show (0 : Int) ≤ x.f g by omega, show x.f g ≤ 500 by omega⟩
  | c + 1, hc, ha, g, hg => by
    have ih := before_in ht hf hl c (by omega) (fun q g hq => ha q g (by omega))
    have hup : ∀ g, g < t.ng → inR (siz t.ng x c g) (t.up out c g) := fun g hg => meetR_in (ih g hg) (ha c g (by omega) hg)
    have hf' : Fit t x (c + 1) := ⟨hf.f, fun q hq => hf.b q (by omega), fun q hq => hf.m q (by omega)⟩
    have hl' : Lv t x (c + 1) := ⟨fun q hq => hl.sz q (by omega), fun q hq => hl.al q (by omega)⟩
    have hs := siz_succ ht (by omega) hf' hl' hg
    have hs0 := hl.sz (c + 1) hc g hg
    have hbp := bdP_le (c := c + 1) (by have := ht.k4; omega)
    have hm := hf.m c (by omega) g hg
    have hal := hl.al c (by omega)
    show inR (siz t.ng x (c + 1) g) (t.arr c g (t.up out c))
    have hsrc : inR (allS (x.b c) (siz t.ng x c) g - x.d c g) (if g = 0 then livingR (t.r 0) (t.b c) else livingR (t.r g) (t.up out c (g - 1))) := by
      obtain ⟨h1, h2⟩ := hal g (by omega)
      obtain ⟨_, r2, r3⟩ := ht.r g (by omega)
      cases g with
      | zero => rw [if_pos rfl]; exact living_in r2 r3 (hf.b c (by omega)) h2
      | succ g => rw [if_neg (by omega)]; exact living_in r2 r3 (hup g (by omega)) h2
    have hlast : g = t.last → inR (allS (x.b c) (siz t.ng x c) (g + 1) - x.d c (g + 1)) (livingR (t.r (g + 1)) (t.up out c g)) := fun e => by
      obtain ⟨h1, h2⟩ := hal (g + 1) (by omega)
      obtain ⟨_, r2, r3⟩ := ht.r (g + 1) (by omega)
      exact living_in r2 r3 (hup g hg) h2
    unfold Tb.arr
    simp only
    have h1 : (decide (0 < g) && emptyR (t.up out c (g - 1))) = false := by
      rw [emptyR_false (hup (g - 1) (by omega))]; simp
    have h2 : (decide (g = t.last) && emptyR (t.up out c g)) = false := by
      rw [emptyR_false (hup g hg)]; simp
    rw [h1, h2]
    simp only [Bool.or_self, Bool.false_eq_true, if_false]
    refine meetR_in ?_ ⟨by show (0 : Int) ≤ _; omega, by show _ ≤ (1048576 : Int); omega⟩
    have hng := ht.ng2
    rw [hs]
    unfold Tb.last at hlast ⊢
    unfold inR plusR at *
    by_cases e0 : g = 0
    · subst e0
      rw [if_pos rfl] at hsrc ⊢
      rw [if_neg (show ¬ 0 < 0 by omega), if_neg (show ¬ 0 = t.ng - 1 by omega), if_neg (show ¬ 0 = t.ng - 1 by omega)]
      simp only
      omega
    · rw [if_neg e0] at hsrc ⊢
      rw [if_pos (show 0 < g by omega)]
      by_cases e1 : g = t.ng - 1
      · have h3 := hlast e1
        rw [if_pos e1, if_pos e1]
        simp only
        omega
      · rw [if_neg e1, if_neg e1]
        simp only
        omega
end Go.Proofs.Ytjaoflfophcibaa

namespace Go.Proofs.Ytjaoflfophcibaa
open Go.RowKit Go.Shelf

def upd {α : Type} (f : Nat → Nat → α) (k j : Nat) (v : α) : Nat → Nat → α := fun k' j' => if k' = k ∧ j' = j then v else f k' j'
theorem upd_eq {α : Type} (f : Nat → Nat → α) (k j : Nat) (v : α) : upd f k j v k j = v := if_pos ⟨rfl, rfl⟩
theorem upd_ne {α : Type} (f : Nat → Nat → α) {k j k' j' : Nat} (v : α) (h : ¬ (k' = k ∧ j' = j)) : upd f k j v k' j' = f k' j' := if_neg h
def VV (nd nm k j : Nat) : Prop := (k = 0 ∧ j = 0) ∨ (k = 1 ∧ j = 0) ∨ (k = 2 ∧ j < nd) ∨ (k = 3 ∧ j < nm)
/-- Rows of numbers of the call's own, no two in one block. -/
structure IR (base : Nat) (W : World) (nd nm : Nat) (rows : Nat → Nat → Value) (len : Nat → Nat → Nat) (val : Nat → Nat → Nat → Int) : Prop where
  own : ∀ k j, VV nd nm k j → W.ownsRow base 3 1 (rows k j) (len k j) (iL (val k j) (len k j))
  dis : ∀ k j k' j', VV nd nm k j → VV nd nm k' j' → (k ≠ k' ∨ j ≠ j') → ∀ q, (rows k j).ownBlock = some q → ¬ (rows k' j').ownBlock = some q
section
variable {base nd nm : Nat} {W X Y : World} {rows : Nat → Nat → Value} {len : Nat → Nat → Nat} {val : Nat → Nat → Nat → Int}
theorem IR.fr {ex : Nat → Prop} (h : IR base W nd nm rows len val) (hf : Fr ex W X) (hx : ∀ b cs, W.heap[b]? = some (.cells cs 3 (0, 0)) → ¬ ex b) : IR base X nd nm rows len val :=
  ⟨fun k j hv => own_fr (h.own k j hv) hf (fun g cur _ _ hc => hx g cur hc), h.dis⟩
theorem IR.below (h : IR base W nd nm rows len val) (hB : Below W.heap.size W X) : IR base X nd nm rows len val := h.fr (Fr.below hB (fun _ => False)) (fun _ _ _ h => h)
theorem IR.grow {k j : Nat} {u : Value} {v : Int} (h : IR base X nd nm rows len val) (hv : VV nd nm k j) (hg : X.grownBy Y (rows k j).ownBlock)
    (ho : Y.ownsRow base 3 1 u (len k j + 1) (iL (val k j) (len k j) ++ [.int .i64 v])) (hl : u.ownBlock = (rows k j).ownBlock ∨ u.ownBlock = some X.heap.size) :
    IR base Y nd nm (upd rows k j u) (upd len k j (len k j + 1)) (upd val k j (fun q => if q = len k j then v else val k j q)) := by
  refine ⟨fun k' j' hv' => ?_, fun k1 j1 k2 j2 h1 h2 hne q e1 e2 => ?_⟩
  · by_cases e : k' = k ∧ j' = j
    · obtain ⟨rfl, rfl⟩ := e
      rw [upd_eq, upd_eq, upd_eq, iL_succ, iL_congr (z' := val k' j') (fun q hq => if_neg (by omega)), if_pos rfl]
      exact ho
    · rw [upd_ne _ _ e, upd_ne _ _ e, upd_ne _ _ e]
      exact own_fr (h.own k' j' hv') (Fr.grown hg) (fun g cur e1 _ _ e2 => h.dis k' j' k j hv' hv (by omega) g e1 e2)
  · have hfr : ∀ k' j', VV nd nm k' j' → ¬ (k' = k ∧ j' = j) → ∀ q, u.ownBlock = some q → ¬ (rows k' j').ownBlock = some q := by
      intro k' j' hv' hne' q hu hr
      rcases hl with hl | hl
      · exact h.dis k j k' j' hv hv' (by omega) q (hl.symm.trans hu) hr
      · have h1 : X.heap.size = q := Option.some.inj (hl.symm.trans hu)
        have h2 := own_lt (h.own k' j' hv') hr
        omega
    by_cases a : k1 = k ∧ j1 = j
    · obtain ⟨rfl, rfl⟩ := a
      have b : ¬ (k2 = k1 ∧ j2 = j1) := by omega
      rw [upd_eq] at e1
      rw [upd_ne _ _ b] at e2
      exact hfr k2 j2 h2 b q e1 e2
    · rw [upd_ne _ _ a] at e1
      by_cases b : k2 = k ∧ j2 = j
      · obtain ⟨rfl, rfl⟩ := b
        rw [upd_eq] at e2
        exact hfr k1 j1 h1 a q e2 e1
      · rw [upd_ne _ _ b] at e2
        exact h.dis k1 j1 k2 j2 h1 h2 hne q e1 e2
theorem IR.store {k j i g n cap : Nat} {v : Int} (h : IR base X nd nm rows len val) (hv : VV nd nm k j) (hr : rows k j = .slice (some ⟨g, 0, none⟩) n cap) (hi : i < len k j) :
    IR base (X.setCell ⟨g, i, none⟩ (.int .i64 v)) nd nm rows len (upd val k j (fun q => if q = i then v else val k j q)) := by
  have hb : (rows k j).ownBlock = some g := by rw [hr]; rfl
  refine ⟨fun k' j' hv' => ?_, h.dis⟩
  by_cases e : k' = k ∧ j' = j
  · obtain ⟨rfl, rfl⟩ := e
    rw [upd_eq, ← iL_set _ _ hi]
    have h1 := h.own k' j' hv
    have hn : n = len k' j' := by
      have h2 := h1
      rw [hr] at h2
      rcases h2.2 with ⟨e, _⟩ | ⟨g', c', cur, e, _⟩
      · cases e
      · cases e; rfl
    rw [hr, hn] at h1 ⊢
    exact (h1.stored i (.int .i64 v)).1
  · rw [upd_ne _ _ e]
    exact own_fr (h.own k' j' hv') (Fr.set X g i _) (fun q cur e1 _ _ e2 => h.dis k' j' k j hv' hv (by omega) q e1 (by rw [hb, e2]))
theorem IR.add2 {u : Value} {n : Nat} {z : Nat → Int} (h : IR base W nd nm rows len val) (hbase : base ≤ W.heap.size) (hB : Below W.heap.size W X) (ho : X.ownsRow W.heap.size 3 1 u n (iL z n)) :
    IR base X (nd + 1) nm (upd rows 2 nd u) (upd len 2 nd n) (upd val 2 nd z) := by
  have hV : ∀ k j, VV (nd + 1) nm k j → (k = 2 ∧ j = nd) ∨ (VV nd nm k j ∧ ¬ (k = 2 ∧ j = nd)) := by
    intro k j hv; unfold VV at hv ⊢; omega
  have hlt : ∀ k j, VV nd nm k j → ∀ q, u.ownBlock = some q → ¬ (rows k j).ownBlock = some q := by
    intro k j hv q e1 e2
    have h1 := (ho.lt q e1).1
    have h2 := own_lt (h.own k j hv) e2
    omega
  refine ⟨fun k j hv => ?_, fun k1 j1 k2 j2 h1 h2 hne q e1 e2 => ?_⟩
  · rcases hV k j hv with ⟨rfl, rfl⟩ | ⟨hv, e⟩
    · rw [upd_eq, upd_eq, upd_eq]; exact own_mono ho hbase
    · rw [upd_ne _ _ e, upd_ne _ _ e, upd_ne _ _ e]; exact own_below (h.own k j hv) hB
  · rcases hV k1 j1 h1 with ⟨rfl, rfl⟩ | ⟨h1, a⟩
    · rcases hV k2 j2 h2 with ⟨rfl, rfl⟩ | ⟨h2, b⟩
      · omega
      · rw [upd_eq] at e1; rw [upd_ne _ _ b] at e2; exact hlt k2 j2 h2 q e1 e2
    · rw [upd_ne _ _ a] at e1
      rcases hV k2 j2 h2 with ⟨rfl, rfl⟩ | ⟨h2, b⟩
      · rw [upd_eq] at e2; exact hlt k1 j1 h1 q e2 e1
      · rw [upd_ne _ _ b] at e2; exact h.dis k1 j1 k2 j2 h1 h2 hne q e1 e2
theorem IR.nil3 (h : IR base W nd nm rows len val) : IR base W nd (nm + 1) (upd rows 3 nm (.slice none 0 0)) (upd len 3 nm 0) val := by
  have hV : ∀ k j, VV nd (nm + 1) k j → (k = 3 ∧ j = nm) ∨ (VV nd nm k j ∧ ¬ (k = 3 ∧ j = nm)) := by
    intro k j hv; unfold VV at hv ⊢; omega
  refine ⟨fun k j hv => ?_, fun k1 j1 k2 j2 h1 h2 hne q e1 e2 => ?_⟩
  · rcases hV k j hv with ⟨rfl, rfl⟩ | ⟨hv, e⟩
    · rw [upd_eq, upd_eq]; exact World.ownsRow_nil _ _ _ _
    · rw [upd_ne _ _ e, upd_ne _ _ e]; exact h.own k j hv
  · rcases hV k1 j1 h1 with ⟨rfl, rfl⟩ | ⟨h1, a⟩
    · rw [upd_eq] at e1; cases e1
    · rw [upd_ne _ _ a] at e1
      rcases hV k2 j2 h2 with ⟨rfl, rfl⟩ | ⟨h2, b⟩
      · rw [upd_eq] at e2; cases e2
      · rw [upd_ne _ _ b] at e2; exact h.dis k1 j1 k2 j2 h1 h2 hne q e1 e2
end
/-- The zero truth. -/
def zT : Array Value := #[.slice none 0 0, .slice none 0 0, .slice none 0 0, .slice none 0 0]
/-- The state: the blocks of x, of the result and of the table; the rows of numbers; the rows that hold the rows. -/
structure PS (w W : World) (Tc hdr : Array Value) (dv : Value) (nd : Nat) (dl : List Value) (mv : Value) (nm : Nat) (ml : List Value) (id im : Nat) (rows : Nat → Nat → Value) (len : Nat → Nat → Nat) (val : Nat → Nat → Nat → Int) : Prop where
  bf : BF w W [(w.heap.size + 2, hdr, 75), (w.heap.size + 1, zT, 75), (w.heap.size, Tc, 25)]
  ir : IR w.heap.size W id im rows len val
  d : W.ownsRow w.heap.size 72 1 dv nd dl
  m : W.ownsRow w.heap.size 72 1 mv nm ml
  dm : ∀ q, dv.ownBlock = some q → ¬ mv.ownBlock = some q
section
variable {w W X Y : World} {Tc hdr : Array Value} {dv mv : Value} {nd nm id im : Nat} {dl ml : List Value} {rows : Nat → Nat → Value} {len : Nat → Nat → Nat} {val : Nat → Nat → Nat → Int}
theorem PS.below (h : PS w W Tc hdr dv nd dl mv nm ml id im rows len val) (hB : Below W.heap.size W X) : PS w X Tc hdr dv nd dl mv nm ml id im rows len val :=
  ⟨h.bf.below hB, h.ir.below hB, own_below h.d hB, own_below h.m hB, h.dm⟩
theorem PS.bfro {ex : Nat → Prop} (h : PS w W Tc hdr dv nd dl mv nm ml id im rows len val) (hf : Fr ex W X) (hlow : ∀ q, ex q → w.heap.size ≤ q) (hx : ∀ b cs T, (T = 75 ∨ T = 25) → W.heap[b]? = some (.cells cs T (0, 0)) → ¬ ex b) :
    BF w X [(w.heap.size + 2, hdr, 75), (w.heap.size + 1, zT, 75), (w.heap.size, Tc, 25)] :=
  h.bf.fro hf (fun q hq e => by have := hlow q e; omega) (List.forall_mem_cons.2 ⟨hx _ _ _ (.inl rfl) (h.bf.bk _ _ _ (.head _)).2, List.forall_mem_cons.2 ⟨hx _ _ _ (.inl rfl) (h.bf.bk _ _ _ (.tail _ (.head _))).2, List.forall_mem_cons.2 ⟨hx _ _ _ (.inr rfl) (h.bf.bk _ _ _ (.tail _ (.tail _ (.head _)))).2, List.forall_mem_nil _⟩⟩⟩)
theorem PS.set {i : Nat} {v : Value} {hdr' : Array Value} (h : PS w W Tc hdr dv nd dl mv nm ml id im rows len val) (hi : i < hdr.size) (hc : hdr.setIfInBounds i v = hdr') :
    PS w (W.setCell ⟨w.heap.size + 2, i, none⟩ v) Tc hdr' dv nd dl mv nm ml id im rows len val := by
  have hb := (h.bf.bk _ _ _ (.head _)).2
  have hf := Fr.set W (w.heap.size + 2) i v
  refine ⟨BF.set1 h.bf (.head _) v hi hc (List.forall_mem_cons.2 ⟨⟨show w.heap.size + 1 ≠ w.heap.size + 2 by omega, .tail _ (.head _)⟩, List.forall_mem_cons.2 ⟨⟨show w.heap.size ≠ w.heap.size + 2 by omega, .tail _ (.tail _ (.head _))⟩, List.forall_mem_nil _⟩⟩), ?_, ?_, ?_, h.dm⟩
  · exact h.ir.fr hf (fun b cs hc e => by subst e; rw [hb] at hc; cases hc)
  · exact own_fr h.d hf (fun g cur _ _ hc e => by subst e; rw [hb] at hc; cases hc)
  · exact own_fr h.m hf (fun g cur _ _ hc e => by subst e; rw [hb] at hc; cases hc)
theorem PS.grow {k j : Nat} {u : Value} {v : Int} (h : PS w X Tc hdr dv nd dl mv nm ml id im rows len val) (hv : VV id im k j) (hg : X.grownBy Y (rows k j).ownBlock)
    (ho : Y.ownsRow w.heap.size 3 1 u (len k j + 1) (iL (val k j) (len k j) ++ [.int .i64 v])) (hl : u.ownBlock = (rows k j).ownBlock ∨ u.ownBlock = some X.heap.size) :
    PS w Y Tc hdr dv nd dl mv nm ml id im (upd rows k j u) (upd len k j (len k j + 1)) (upd val k j (fun q => if q = len k j then v else val k j q)) := by
  have hr := h.ir.own k j hv
  have ht : ∀ b cs T, T ≠ 3 → X.heap[b]? = some (.cells cs T (0, 0)) → ¬ (rows k j).ownBlock = some b := fun b cs T hT hb => own_type_ne hr hb hT
  exact ⟨h.bfro (Fr.grown hg) (fun q e => (hr.lt q e).1) (fun b cs T hT hb => ht b cs T (by rcases hT with rfl | rfl <;> decide) hb), h.ir.grow hv hg ho hl, own_fr h.d (Fr.grown hg) (fun g cur _ _ hc => ht g _ _ (by decide) hc), own_fr h.m (Fr.grown hg) (fun g cur _ _ hc => ht g _ _ (by decide) hc), h.dm⟩
theorem PS.growD {u rv : Value} (h : PS w X Tc hdr dv nd dl mv nm ml id im rows len val) (hg : X.grownBy Y dv.ownBlock) (ho : Y.ownsRow w.heap.size 72 1 u (nd + 1) (dl ++ [rv])) (hl : u.ownBlock = dv.ownBlock ∨ u.ownBlock = some X.heap.size) :
    PS w Y Tc hdr u (nd + 1) (dl ++ [rv]) mv nm ml id im rows len val := by
  have ht : ∀ b cs T, T ≠ 72 → X.heap[b]? = some (.cells cs T (0, 0)) → ¬ dv.ownBlock = some b := fun b cs T hT hb => own_type_ne h.d hb hT
  refine ⟨h.bfro (Fr.grown hg) (fun q e => (h.d.lt q e).1) (fun b cs T hT hb => ht b cs T (by rcases hT with rfl | rfl <;> decide) hb), h.ir.fr (Fr.grown hg) (fun b cs hb => ht b cs _ (by decide) hb), ho, own_fr h.m (Fr.grown hg) (fun g cur e _ _ e2 => h.dm g e2 e), fun q e1 e2 => ?_⟩
  rcases hl with hl | hl
  · exact h.dm q (hl.symm.trans e1) e2
  · have h1 : X.heap.size = q := Option.some.inj (hl.symm.trans e1)
    have h2 := own_lt h.m e2
    omega
theorem PS.growM {u rv : Value} (h : PS w X Tc hdr dv nd dl mv nm ml id im rows len val) (hg : X.grownBy Y mv.ownBlock) (ho : Y.ownsRow w.heap.size 72 1 u (nm + 1) (ml ++ [rv])) (hl : u.ownBlock = mv.ownBlock ∨ u.ownBlock = some X.heap.size) :
    PS w Y Tc hdr dv nd dl u (nm + 1) (ml ++ [rv]) id im rows len val := by
  have ht : ∀ b cs T, T ≠ 72 → X.heap[b]? = some (.cells cs T (0, 0)) → ¬ mv.ownBlock = some b := fun b cs T hT hb => own_type_ne h.m hb hT
  refine ⟨h.bfro (Fr.grown hg) (fun q e => (h.m.lt q e).1) (fun b cs T hT hb => ht b cs T (by rcases hT with rfl | rfl <;> decide) hb), h.ir.fr (Fr.grown hg) (fun b cs hb => ht b cs _ (by decide) hb), own_fr h.d (Fr.grown hg) (fun g cur e _ _ e2 => h.dm g e e2), ho, fun q e1 e2 => ?_⟩
  rcases hl with hl | hl
  · exact h.dm q e1 (hl.symm.trans e2)
  · have h1 : X.heap.size = q := Option.some.inj (hl.symm.trans e2)
    have h2 := own_lt h.d e1
    omega
theorem PS.storeM {mb cap c : Nat} {rv : Value} (h : PS w X Tc hdr dv nd dl (.slice (some ⟨mb, 0, none⟩) nm cap) nm ml id im rows len val) :
    PS w (X.setCell ⟨mb, c, none⟩ rv) Tc hdr dv nd dl (.slice (some ⟨mb, 0, none⟩) nm cap) nm (ml.set c rv) id im rows len val := by
  have ht : ∀ b cs T, T ≠ 72 → X.heap[b]? = some (.cells cs T (0, 0)) → ¬ b = mb := fun b cs T hT hb e => own_type_ne h.m hb hT (by subst e; rfl)
  have hf := Fr.set X mb c rv
  exact ⟨h.bfro hf (fun q e => by subst e; exact (h.m.lt _ rfl).1) (fun b cs T hT hb => ht b cs T (by rcases hT with rfl | rfl <;> decide) hb), h.ir.fr hf (fun b cs hb => ht b cs _ (by decide) hb), own_fr h.d hf (fun g cur e _ _ e2 => h.dm g e (by subst e2; rfl)), (h.m.stored c rv).1, h.dm⟩
theorem PS.storeD {k j i g n cap : Nat} {v : Int} (h : PS w X Tc hdr dv nd dl mv nm ml id im rows len val) (hv : VV id im k j) (hr : rows k j = .slice (some ⟨g, 0, none⟩) n cap) (hi : i < len k j) :
    PS w (X.setCell ⟨g, i, none⟩ (.int .i64 v)) Tc hdr dv nd dl mv nm ml id im rows len (upd val k j (fun q => if q = i then v else val k j q)) := by
  have ho := h.ir.own k j hv
  have hb : (rows k j).ownBlock = some g := by rw [hr]; rfl
  have ht : ∀ b cs T, T ≠ 3 → X.heap[b]? = some (.cells cs T (0, 0)) → ¬ b = g := fun b cs T hT hc e => own_type_ne ho hc hT (by rw [hb, e])
  have hf := Fr.set X g i (.int .i64 v)
  exact ⟨h.bfro hf (fun q e => by subst e; exact (ho.lt _ hb).1) (fun b cs T hT hb => ht b cs T (by rcases hT with rfl | rfl <;> decide) hb), h.ir.store hv hr hi, own_fr h.d hf (fun g cur _ _ hc => ht g _ _ (by decide) hc), own_fr h.m hf (fun g cur _ _ hc => ht g _ _ (by decide) hc), h.dm⟩
theorem PS.add2 {u : Value} {n : Nat} {z : Nat → Int} (h : PS w W Tc hdr dv nd dl mv nm ml id im rows len val) (hB : Below W.heap.size W X) (ho : X.ownsRow W.heap.size 3 1 u n (iL z n)) :
    PS w X Tc hdr dv nd dl mv nm ml (id + 1) im (upd rows 2 id u) (upd len 2 id n) (upd val 2 id z) := by
  have h1 := h.below hB
  exact ⟨h1.bf, h.ir.add2 h.bf.fr.size hB ho, h1.d, h1.m, h.dm⟩
theorem PS.nil3 (h : PS w W Tc hdr dv nd dl mv nm ml id im rows len val) : PS w W Tc hdr dv nd dl mv nm ml id (im + 1) (upd rows 3 im (.slice none 0 0)) (upd len 3 im 0) val := ⟨h.bf, h.ir.nil3, h.d, h.m, h.dm⟩
end
/-- The truth that the rows are. -/
def trOf (nd nm : Nat) (len : Nat → Nat → Nat) (val : Nat → Nat → Nat → Int) : Tr := ⟨len 0 0, val 0 0, len 1 0, val 1 0, nd, len 2, val 2, nm, len 3, val 3⟩
theorem IntsAt.slc {W : World} {v : Value} {n : Nat} {z : Nat → Int} (h : IntsAt W v n z) : ∃ a c, v = .slice a n c := h.len
/-- What a truth that is being made has so far: c censuses. -/
structure Gt (t : Tb) (x : Tr) (c : Nat) : Prop where
  fit : Fit t x c
  dead : ∀ q, q < c → deadIn t.ng x q (t.ng + 1)
  nf : x.nf = t.ng
  dl : ∀ q, q < c → x.dl q = t.ng + 1
  ml : ∀ q, q < c → x.ml q = t.ng
theorem siz_congr {ng : Nat} {x x' : Tr} (hf : x'.f = x.f) : ∀ c, (∀ q, q < c → x'.b q = x.b q ∧ x'.d q = x.d q ∧ x'.m q = x.m q) → siz ng x' c = siz ng x c
  | 0, _ => by funext g; show x'.f g = x.f g; rw [hf]
  | c + 1, h => by
    funext g
    obtain ⟨h1, h2, h3⟩ := h c (by omega)
    have ih := siz_congr (ng := ng) hf c (fun q hq => h q (by omega))
    show wrap64 (addP (ng - 1) (allS (x'.b c) (siz ng x' c)) (x'.d c) (ng + 1) g + x'.m c g) = wrap64 (addP (ng - 1) (allS (x.b c) (siz ng x c)) (x.d c) (ng + 1) g + x.m c g)
    rw [h1, h2, h3, ih]
theorem Gt.congr {t : Tb} {x x' : Tr} {c : Nat} (h : Gt t x c) (hf : x'.f = x.f) (hn : x'.nf = x.nf) (hq : ∀ q, q < c → x'.b q = x.b q ∧ x'.d q = x.d q ∧ x'.m q = x.m q ∧ x'.dl q = x.dl q ∧ x'.ml q = x.ml q) : Gt t x' c := by
  refine ⟨⟨fun g hg => by rw [hf]; exact h.fit.f g hg, fun q hq' => by rw [(hq q hq').1]; exact h.fit.b q hq', fun q hq' g hg => by rw [(hq q hq').2.2.1]; exact h.fit.m q hq' g hg⟩, fun q hq' i hi => ?_, hn.trans h.nf, fun q hq' => (hq q hq').2.2.2.1.trans (h.dl q hq'), fun q hq' => (hq q hq').2.2.2.2.trans (h.ml q hq')⟩
  have h1 := h.dead q hq' i hi
  rw [(hq q hq').1, (hq q hq').2.1, siz_congr hf q (fun r hr => ⟨(hq r (by omega)).1, (hq r (by omega)).2.1, (hq r (by omega)).2.2.1⟩)]
  exact h1
theorem Gt.succ {t : Tb} {x : Tr} {c : Nat} (h : Gt t x c) (hb : (t.b c).1 ≤ x.b c ∧ x.b c ≤ (t.b c).2) (hm : ∀ g, g < t.ng → (t.n g).1 ≤ x.m c g ∧ x.m c g ≤ (t.n g).2) (hd : deadIn t.ng x c (t.ng + 1)) (hdl : x.dl c = t.ng + 1) (hml : x.ml c = t.ng) : Gt t x (c + 1) := by
  have hs : ∀ {P : Nat → Prop}, (∀ q, q < c → P q) → P c → ∀ q, q < c + 1 → P q := fun h1 h2 q hq => by
    by_cases e : q = c
    · subst e; exact h2
    · exact h1 q (by omega)
  exact ⟨⟨h.fit.f, hs h.fit.b hb, hs h.fit.m hm⟩, hs h.dead hd, h.nf, hs h.dl hdl, hs h.ml hml⟩
end Go.Proofs.Ytjaoflfophcibaa

namespace Go.Proofs.Ytjaoflfophcibaa

section
variable {P : Program} {ops : Array Oper} {Q : Exit → Act → World → Prop} {md : Region.Mode} {S : World → Prop} {ex : List Nat}

/-- Number j waits for number i. -/
def waitsFor (md : Region.Mode) (ops : Array Oper) (i j : Nat) : Bool :=
  match ops[j]? with
  | none => false
  | some o => o.after.any fun e => Region.binds md e && e.on == i
theorem waitsFor_spec {i j : Nat} {o : Oper} (hj : ops[j]? = some o) (h : waitsFor md ops i j = true) : ∃ e ∈ o.after, Region.binds md e = true ∧ e.on = i := by
  unfold waitsFor at h
  rw [hj] at h
  simp only [Array.any_eq_true, Bool.and_eq_true, beq_iff_eq] at h
  obtain ⟨q, hq, h⟩ := h
  exact ⟨o.after[q], Array.getElem_mem hq, h.1, h.2⟩
def exOk (md : Region.Mode) (ops : Array Oper) (ex : List Nat) (i : Nat) : Bool := ex.all fun j => j == i || waitsFor md ops i j
/-- Whatever comes up; S behind each operation but those of ex. -/
def wpAnyE (P : Program) (md : Region.Mode) (ops : Array Oper) (Q : Exit → Act → World → Prop) (S : World → Prop) (ex : List Nat) : Nat → Array Bool → Act → World → Prop
  | 0, l, a, w => Region.ready md ops l = [] ∧ Q .normal a w
  | f + 1, l, a, w =>
    (Region.ready md ops l = [] → Q .normal a w) ∧
    ∀ i ∈ Region.ready md ops l, wpOp P ops Q i (fun a' w' => (ex.contains i = true ∨ S w') ∧ wpAnyE P md ops Q S ex f (l.setIfInBounds i true) a' w') a w
theorem wpAny_of_E : ∀ (f : Nat) (l : Array Bool) (a : Act) (w : World), wpAnyE P md ops Q S ex f l a w → wpAny P md ops Q f l a w
  | 0, _, _, _, h => h
  | f + 1, _, _, _, h => ⟨h.1, fun i hi => wpOp_mono (fun a' w' h' => wpAny_of_E f _ a' w' h'.2) (h.2 i hi)⟩
/-- An operation is taken ahead of the others. -/
theorem wpAnyE_ahead {i : Nat} {oi : Oper} {v : Value} (hi : ops[i]? = some oi) (hsel : Region.noSelect ops = true) (hex : exOk md ops ex i = true) (hQ : ∀ c a w, Q (.panic c) (a.put oi.dst v) w → Q (.panic c) a w) :
    ∀ (f : Nat) (l : Array Bool) (a : Act) (w : World),
      (∀ j oj, ops[j]? = some oj → j ≠ i → l.getD j true = false → (∀ e ∈ oj.after, Region.binds md e = true → e.on ≠ i) → oi.apart ops oj = true) →
      i ∈ Region.ready md ops l → YieldsIf P ops S oi v a → S w → wpAnyE P md ops Q S ex f (l.setIfInBounds i true) (a.put oi.dst v) w → wpAnyE P md ops Q S ex (f + 1) l a w := by
  have hs := Region.noSelect_spec hsel
  have hil : i < ops.size := (Array.getElem?_eq_some_iff.1 hi).1
  intro f
  induction f with
  | zero =>
    intro l a w _ hr hy hS H
    refine ⟨fun h => absurd hr (by rw [h]; exact List.not_mem_nil), fun j hj => ?_⟩
    rcases Nat.decEq j i with hne | he
    · have h0 := ready_mono hj hne
      rw [H.1] at h0; exact absurd h0 List.not_mem_nil
    · subst he; exact hy.wpOp hi hS ⟨.inr hS, H⟩
  | succ f ih =>
    intro l a w hfree hr hy hS H
    refine ⟨fun h => absurd hr (by rw [h]; exact List.not_mem_nil), fun j hj => ?_⟩
    rcases Nat.decEq j i with hne | he
    · obtain ⟨hju, oj, hoj, hall⟩ := mem_ready.1 hj
      have hiu := (mem_ready.1 hr).1
      have hlist : ¬ l.getD i false = true := fun h => by
        rcases Nat.lt_or_ge i l.size with h' | h'
        · simp only [Array.getD, h', dif_pos] at hiu h; rw [hiu] at h; cases h
        · simp [Array.getD, Nat.not_lt.2 h'] at h
      have hno : ∀ e ∈ oj.after, Region.binds md e = true → e.on ≠ i := fun e he hb heq => hlist (heq ▸ hall e he hb)
      have hnl : ¬ ex.contains j = true := fun h => by
        unfold exOk at hex
        rw [List.all_eq_true] at hex
        have h1 := hex j (by simpa using h)
        simp only [Bool.or_eq_true, beq_iff_eq] at h1
        rcases h1 with h1 | h1
        · exact hne h1
        · obtain ⟨e, he, hb, heq⟩ := waitsFor_spec hoj h1
          exact hno e he hb heq
      have h2 := wpOp_putIf hoj (hfree j oj hoj hne hju hno) (fun cs b => hs i oi cs b hi) (fun cs b => hs j oj cs b hoj) hQ hy (H.2 j (ready_mono hj hne))
      refine wpOp_mono (fun a' w' h3 => ?_) h2
      obtain ⟨hy', hw', hz⟩ := h3
      have hS' : S w' := hw'.resolve_left hnl
      refine ⟨.inr hS', ih (l.setIfInBounds j true) a' w' (fun k ok hk hki hun hn => hfree k ok hk hki ?_ hn) (ready_mono hr (fun q => hne q.symm)) hy' hS' ?_⟩
      · rcases Nat.decEq j k with hjk | hjk
        · rwa [getD_set_ne true hjk] at hun
        · subst hjk; exact hju
      · rw [Array.setIfInBounds_comm _ _ hne]; exact hz
    · subst he; exact hy.wpOp hi hS ⟨.inr hS, H⟩
theorem wpAnyE_take {i : Nat} {oi : Oper} {v : Value} {f : Nat} {l : Array Bool} {a : Act} {w : World} (hi : ops[i]? = some oi)
    (hs : Region.noSelect ops = true) (hex : exOk md ops ex i = true) (hf : Region.free md ops l i = true) (hr : (Region.ready md ops l).contains i = true)
    (hQ : ∀ c a w, Q (.panic c) (a.put oi.dst v) w → Q (.panic c) a w) (hy : YieldsIf P ops S oi v a) (hS : S w)
    (h : wpAnyE P md ops Q S ex f (l.setIfInBounds i true) (a.put oi.dst v) w) : wpAnyE P md ops Q S ex (f + 1) l a w :=
  wpAnyE_ahead hi hs hex hQ f l a w (Region.free_spec hi hf) (by simpa using hr) hy hS h
theorem tE (i : Nat) {oi : Oper} {v : Value} {f : Nat} {l : Array Bool} {a : Act} {w : World} (hi : ops[i]? = some oi) (hb : (tB md ops l i && exOk md ops ex i) = true) (hg : Region.wanted oi (yielded ops a.tmps) = true)
    (hQ : ∀ c a w, Q (.panic c) (a.put oi.dst v) w → Q (.panic c) a w) (hS : S w) (hy : ∀ w, S w → (execOp a.eval oi).run P w = .ok (.value v) w)
    (h : wpAnyE P md ops Q S ex f (l.setIfInBounds i true) (a.put oi.dst v) w) : wpAnyE P md ops Q S ex (f + 1) l a w := by
  unfold tB at hb
  simp only [Bool.and_eq_true] at hb
  exact wpAnyE_take hi hb.1.1.1 hb.2 hb.1.1.2 hb.1.2 hQ (.inl ⟨hg, hy⟩) hS h
theorem tkE {i : Nat} {is : List Nat} {oi : Oper} {v : Value} {f : Nat} {l : Array Bool} {a : Act} {w : World} (hi : ops[i]? = some oi) (hb : (tB md ops l i && exOk md ops ex i) = true) (hg : Region.wanted oi (yielded ops a.tmps) = true)
    (hQ : ∀ c a w, Q (.panic c) (a.put oi.dst v) w → Q (.panic c) a w) (hS : S w) (hy : ∀ w, S w → (execOp a.eval oi).run P w = .ok (.value v) w)
    (h : Tk is (wpAnyE P md ops Q S ex f (l.setIfInBounds i true) (a.put oi.dst v) w)) : Tk (i :: is) (wpAnyE P md ops Q S ex (f + 1) l a w) := ⟨tE i hi hb hg hQ hS hy h.out⟩
/-- Each of these comes up next. -/
def NextE (P : Program) (md : Region.Mode) (ops : Array Oper) (Q : Exit → Act → World → Prop) (S : World → Prop) (ex : List Nat) (f : Nat) (l : Array Bool) (a : Act) (w : World) (rs : List Nat) : Prop :=
  ∀ i ∈ rs, wpOp P ops Q i (fun a' w' => (ex.contains i = true ∨ S w') ∧ wpAnyE P md ops Q S ex f (l.setIfInBounds i true) a' w') a w
theorem NextE.nil {f : Nat} {l : Array Bool} {a : Act} {w : World} : NextE P md ops Q S ex f l a w [] := fun _ h => absurd h List.not_mem_nil
theorem NextE.cons {f : Nat} {l : Array Bool} {a : Act} {w : World} {i : Nat} {o : Oper} {rs : List Nat} (ho : ops[i]? = some o)
    (h : ∀ K' : Act → World → Prop, Shut (∀ a w, S w → (S w → wpAnyE P md ops Q S ex f (l.setIfInBounds i true) a w) → K' a w) → if Region.wanted o (yielded ops a.tmps) = true then Oper.wp P o a w K' Q else K' (a.put o.dst undef) w)
    (hs : NextE P md ops Q S ex f l a w rs) : NextE P md ops Q S ex f l a w (i :: rs) := fun j hj => by
  rcases List.mem_cons.1 hj with rfl | hj
  · exact wpOp_step ho (fun K' hK => h K' (fun a w hS hW => hK a w ⟨.inr hS, hW hS⟩))
  · exact hs j hj
/-- One of ex comes up. -/
theorem NextE.skip {f : Nat} {l : Array Bool} {a : Act} {w : World} {i : Nat} {o : Oper} {rs : List Nat} (ho : ops[i]? = some o) (hl : ex.contains i = true)
    (h : ∀ K' : Act → World → Prop, Shut (∀ a w, wpAnyE P md ops Q S ex f (l.setIfInBounds i true) a w → K' a w) → if Region.wanted o (yielded ops a.tmps) = true then Oper.wp P o a w K' Q else K' (a.put o.dst undef) w)
    (hs : NextE P md ops Q S ex f l a w rs) : NextE P md ops Q S ex f l a w (i :: rs) := fun j hj => by
  rcases List.mem_cons.1 hj with rfl | hj
  · exact wpOp_step ho (fun K' hK => h K' (fun a w hW => hK a w ⟨.inl hl, hW⟩))
  · exact hs j hj
theorem wpAnyE_next {rs : List Nat} {f : Nat} {l : Array Bool} {a : Act} {w : World} (hr : Region.ready md ops l = rs) (hne : rs ≠ []) (h : NextE P md ops Q S ex f l a w rs) : wpAnyE P md ops Q S ex (f + 1) l a w :=
  ⟨fun h0 => absurd (hr ▸ h0) hne, by rw [hr]; exact h⟩
theorem wpAnyE_done {l : Array Bool} {a : Act} {w : World} (hr : Region.ready md ops l = []) (h : Q .normal a w) : ∀ f, wpAnyE P md ops Q S ex f l a w
  | 0 => ⟨hr, h⟩
  | _ + 1 => ⟨fun _ => h, by rw [hr]; exact fun _ h => absurd h List.not_mem_nil⟩
/-- The beginning. -/
theorem wp_region_E (ex : List Nat) {id : Nat} {a : Act} {w : World} (hm : P.follows .mixedOrders = true) (hS : S w.drew) (h : S w.drew → wpAnyE P .any ops Q S ex ops.size (Array.replicate ops.size false) a w.drew) : (Code.region id ops true).wp P Q a w :=
  wp_region_any hm (wpAny_of_E _ _ _ _ (h hS))
end
end Go.Proofs.Ytjaoflfophcibaa
