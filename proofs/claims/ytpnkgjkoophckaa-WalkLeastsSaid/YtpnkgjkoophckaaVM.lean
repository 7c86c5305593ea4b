/- Walk, plain: ways and tours as lists of places. -/
import Derived.Test.YtpnkgjkoophckaaVH
namespace Go.Proofs.Ytpnkgjkoophckaa

/-- From a place along a list to another place: so long. -/
inductive Pl (m : Mp) : Nat → List Nat → Nat → Int → Prop
  | nil (a : Nat) : Pl m a [] a 0
  | cons {a f b : Nat} {h K : Int} {l : List Nat} : Ed m a f h → Pl m f l b K → Pl m a (f :: l) b (h + K)
theorem Pl.append {m : Mp} {a b c : Nat} {K1 K2 : Int} {l1 l2 : List Nat} (p : Pl m a l1 b K1) (q : Pl m b l2 c K2) : Pl m a (l1 ++ l2) c (K1 + K2) := by
  induction p with
  | nil a => rw [Int.zero_add]; exact q
  | cons e _ ih => rw [Int.add_assoc]; exact .cons e (ih q)
theorem wayL_pl {m : Mp} (ok : OkM m) {b : Nat} (hb : b < m.nw) : ∀ (N a : Nat), a < m.nw → (tmA m a b).toNat < N → tmA m a b < 1048576 → ∃ l, wayL m a b = a :: l ∧ Pl m a l b (tmA m a b)
  | 0, _, _, h, _ => by omega
  | N + 1, a, ha, hN, hf => by
    by_cases e : a = b
    · subst e
      rw [wayL_self ok ha, tmA_self ok ha]
      exact ⟨[], rfl, .nil a⟩
    · obtain ⟨f, h, h1, h2, h3, h4, h5, h6⟩ := wayL_step ok ha hb e hf
      have hfd := tmA_bd ok h2 hb
      obtain ⟨l, e1, p⟩ := wayL_pl ok hb N f h2 (by omega) (by omega)
      rw [h6, e1, h4]
      exact ⟨f :: l, rfl, .cons h3 p⟩
theorem road_symm (m : Mp) (a b : Int) : m.road a b = m.road b a := by
  have h : (fun k => joinsB (m.ra k) (m.rb k) a b) = fun k => joinsB (m.ra k) (m.rb k) b a := by
    funext k
    unfold joinsB
    rw [Bool.or_comm]
  unfold Mp.road
  rw [h]
theorem Ed.road {m : Mp} (ok : OkM m) {x y : Nat} {h : Int} (e : Ed m x y h) : ∃ r : Nat, m.road x y = r ∧ r < m.nr ∧ h = (m.rt r).2 := by
  obtain ⟨k, hk, h1, h2⟩ := e
  refine ⟨k, ?_, hk, h2⟩
  have := ok.rd k hk
  rcases h1 with ⟨e1, e2⟩ | ⟨e1, e2⟩
  · rw [e1, e2] at this; exact this
  · rw [e1, e2] at this; rw [road_symm]; exact this
theorem along_shift {m : Mp} {z tr : Nat → Int} : ∀ n, alongZ m z tr (n + 1) = tr (m.road (z 0) (z 1)).toNat + alongZ m (fun k => z (k + 1)) tr n
  | 0 => by simp [alongZ]
  | n + 1 => by
    have h : alongZ m z tr (n + 1 + 1) = alongZ m z tr (n + 1) + tr (m.road (z (n + 1)) (z (n + 1 + 1))).toNat := rfl
    have h2 : alongZ m (fun k => z (k + 1)) tr (n + 1) = alongZ m (fun k => z (k + 1)) tr n + tr (m.road (z (n + 1)) (z (n + 1 + 1))).toNat := rfl
    rw [h, along_shift n, h2]
    omega
theorem zL_cons (a : Nat) (l : List Nat) (k : Nat) : zL (a :: l) (k + 1) = zL l k := by
  unfold zL; simp
theorem zL_zero (a : Nat) (l : List Nat) : zL (a :: l) 0 = a := by unfold zL; simp
/-- What a way is, as the reference sees it. -/
theorem Pl.spec {m : Mp} (ok : OkM m) {a b : Nat} {K : Int} {l : List Nat} (p : Pl m a l b K) : zL (a :: l) l.length = b ∧ (∀ k, k < l.length → ∃ r : Nat, m.road (zL (a :: l) k) (zL (a :: l) (k + 1)) = r ∧ r < m.nr) ∧ alongZ m (zL (a :: l)) (fun i => (m.rt i).2) l.length = K := by
  induction p with
  | nil a => exact ⟨zL_zero a [], fun k hk => absurd hk (Nat.not_lt_zero k), rfl⟩
  | @cons a f b h K l e _ ih =>
    obtain ⟨i1, i2, i3⟩ := ih
    obtain ⟨r, r1, r2, r3⟩ := e.road ok
    refine ⟨?_, ?_, ?_⟩
    · rw [List.length_cons, zL_cons]; exact i1
    · intro k hk
      cases k with
      | zero => rw [zL_zero, zL_cons, zL_zero]; exact ⟨r, r1, r2⟩
      | succ k => rw [zL_cons, zL_cons]; exact i2 k (by simp only [List.length_cons] at hk; omega)
    · rw [List.length_cons, along_shift, zL_zero, zL_cons, zL_zero, r1, Int.toNat_natCast]
      have : (fun k => zL (a :: f :: l) (k + 1)) = zL (f :: l) := by funext k; rw [zL_cons]
      rw [this, i3, r3]
theorem Pl.isPath {m : Mp} (ok : OkM m) {a b : Nat} {K : Int} {l : List Nat} (p : Pl m a l b K) (ha : a < m.nw) : isPathB m (zL (a :: l)) (l.length + 1) a b = true := by
  obtain ⟨i1, i2, _⟩ := p.spec ok
  have hin : inB (a : Int) 0 ((m.nw : Int) - 1) = true := by simp only [inB, Bool.and_eq_true, decide_eq_true_eq]; omega
  unfold isPathB pathB
  rw [decide_eq_true (show 1 ≤ l.length + 1 by omega), zL_zero, decide_eq_true rfl, Nat.add_sub_cancel, i1, decide_eq_true rfl, hin, allB_true (fun q hq => by obtain ⟨r, e, _⟩ := i2 q hq; rw [e]; exact decide_eq_true (by omega))]
  rfl
end Go.Proofs.Ytpnkgjkoophckaa
