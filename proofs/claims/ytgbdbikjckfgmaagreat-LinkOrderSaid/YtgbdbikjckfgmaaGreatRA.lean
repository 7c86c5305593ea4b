/- Link, plain: the file with its lists rotated. -/
import Derived.Test.YtgbdbikjckfgmaaGreatOO
namespace Go.Proofs.YtgbdbikjckfgmaaGreat
open Go.RowKit Go.Shelf

def rotP (n a j : Nat) : Nat := if j < n then (if j < n - a then a + j else j - (n - a)) else j
def rotE (E : Nat → En) (n a : Nat) : Nat → En := catE (fun j => E (a + j)) E (n - a)
theorem rotE_at (E : Nat → En) {n a j : Nat} (hj : j < n) : rotE E n a j = E (rotP n a j) := by
  unfold rotE rotP catE
  rw [if_pos hj]
  split <;> rfl
theorem rotP_lt {n a j : Nat} (ha : a < n) : rotP n a j < n ↔ j < n := by
  unfold rotP
  split
  · split <;> omega
  · omega
theorem rotP_mod {n a j : Nat} (ha : a < n) (hj : j < n) : (j + a) % n = rotP n a j := by
  unfold rotP
  rw [if_pos hj]
  split
  · rw [Nat.mod_eq_of_lt (by omega)]; omega
  · rw [Nat.mod_eq_sub_mod (by omega), Nat.mod_eq_of_lt (by omega)]; omega
theorem rotP_undo {n a : Nat} (ha : a < n) : Undo (rotP n a) (rotP n (n - a)) := by
  constructor <;> intro x <;> unfold rotP <;> repeat' split
  all_goals omega
def Fl.rot (f : Fl) (a b : Nat) : Fl := ⟨f.no, rotE f.O f.no a, f.nw, rotE f.N f.nw b, f.nm, f.mf, f.mt⟩
variable {f : Fl} {a b : Nat}
theorem OkF.rot (h : OkF f) (ha : a < f.no) (hb : b < f.nw) : OkF (f.rot a b) :=
  OkF.mk2 h.no h.nw h.nm (fun j hj => by
    have hj : j < f.no := hj
    show (rotE f.O f.no a j).nn ≤ 4 ∧ (rotE f.O f.no a j).p.fault = 0 ∧ (rotE f.O f.no a j).ok = true
    rw [rotE_at _ hj]
    exact h.o ((rotP_lt ha).2 hj)) (fun j hj => by
    have hj : j < f.nw := hj
    show (rotE f.N f.nw b j).nn ≤ 4 ∧ (rotE f.N f.nw b j).p.fault = 0 ∧ (rotE f.N f.nw b j).ok = true
    rw [rotE_at _ hj]
    exact h.n ((rotP_lt hb).2 hj)) h.m
theorem thinE_rot {n a : Nat} {E : Nat → En} (ha : a < n) (h : thinE n E = true) : thinE n (rotE E n a) = true := by
  unfold thinE at h ⊢
  rw [Bool.and_eq_true] at h ⊢
  refine ⟨h.1, allB_true fun j hj => ?_⟩
  rw [rotE_at _ hj]
  exact allB_all h.2 _ ((rotP_lt ha).2 hj)
theorem OkF.rot_g (_h : OkF f) (ha : a < f.no) (hb : b < f.nw) : (f.rot a b).g = permG f.g (rotP f.no a) (rotP f.nw b) := by
  funext j k
  show (decide (j < f.no) && decide (k < f.nw) && f.pairB (rotE f.O f.no a j) (rotE f.N f.nw b k)) = (decide (rotP f.no a j < f.no) && decide (rotP f.nw b k < f.nw) && f.pairB (f.O (rotP f.no a j)) (f.N (rotP f.nw b k)))
  by_cases hj : j < f.no
  · by_cases hk : k < f.nw
    · rw [rotE_at _ hj, rotE_at _ hk, decide_eq_true hj, decide_eq_true hk, decide_eq_true ((rotP_lt ha).2 hj), decide_eq_true ((rotP_lt hb).2 hk)]
    · rw [decide_eq_false hk, decide_eq_false (fun e => hk ((rotP_lt hb).1 e))]; simp
  · rw [decide_eq_false hj, decide_eq_false (fun e => hj ((rotP_lt ha).1 e))]; simp
theorem perm_one {g : Nat → Nat → Bool} {p p2 q q2 : Nat → Nat} (hp : Undo p p2) (hq : Undo q q2) (i k : Nat) : offG (permG g p q) (oneS i k) = permG (offG g (oneS (p i) (q k))) p q := by
  have inj : ∀ {p p2 : Nat → Nat}, Undo p p2 → ∀ x y, decide (x = y) = decide (p x = p y) := fun {p p2} h x y => by
    rw [decide_eq_decide]; exact ⟨fun e => by rw [e], fun e => by rw [← h.2 x, e, h.2]⟩
  funext x y
  show (g (p x) (q y) && !(decide (x = i) && decide (y = k))) = (g (p x) (q y) && !(decide (p x = p i) && decide (q y = q k)))
  rw [← inj hp, ← inj hq]
theorem perm_two {g : Nat → Nat → Bool} {p p2 q q2 : Nat → Nat} (hp : Undo p p2) (hq : Undo q q2) (i k : Nat) : offG (permG g p q) (twoS i k) = permG (offG g (twoS (p i) (q k))) p q := by
  have inj : ∀ {p p2 : Nat → Nat}, Undo p p2 → ∀ x y, decide (x = y) = decide (p x = p y) := fun {p p2} h x y => by
    rw [decide_eq_decide]; exact ⟨fun e => by rw [e], fun e => by rw [← h.2 x, e, h.2]⟩
  funext x y
  show (g (p x) (q y) && !(decide (x = i) || decide (y = k))) = (g (p x) (q y) && !(decide (p x = p i) || decide (q y = q k)))
  rw [← inj hp, ← inj hq]
theorem perm_8 {g : Nat → Nat → Bool} {no nw : Nat} (hno : no ≤ 8) (hnw : nw ≤ 8) (ha : a < no) (hb : b < nw) (hg : ∀ i k, g i k = true → i < no ∧ k < nw) : G8 (permG g (rotP no a) (rotP nw b)) := fun i k e => by
  have h := hg _ _ e
  have h1 := (rotP_lt ha).1 h.1
  have h2 := (rotP_lt hb).1 h.2
  omega
theorem OkF.rot_most (h : OkF f) (ha : a < f.no) (hb : b < f.nw) : (f.rot a b).most = f.most := by
  have h1 := (h.rot ha hb).mx0
  rw [h.rot_g ha hb] at h1
  exact (mx_perm (rotP_undo ha) (rotP_undo hb) h.g8 (perm_8 h.no h.nw ha hb fun i k e => Fl.g_in e) h.mx0 h1).symm
theorem OkF.rot_qS (h : OkF f) (ha : a < f.no) (hb : b < f.nw) (i k : Nat) : (f.rot a b).qS i k = f.qS (rotP f.no a i) (rotP f.nw b k) := by
  have h1 := (h.rot ha hb).mx [((i : Int), (k : Int))]
  rw [SK_one, h.rot_g ha hb, perm_one (rotP_undo ha) (rotP_undo hb)] at h1
  have h2 := h.mx [(((rotP f.no a i : Nat) : Int), ((rotP f.nw b k : Nat) : Int))]
  rw [SK_one] at h2
  have e := mx_perm (rotP_undo ha) (rotP_undo hb) (offG_8 h.g8) (perm_8 h.no h.nw ha hb fun i k e => Fl.g_in (offG_sub i k e)) h2 h1
  unfold Fl.qS Fl.sure
  rw [h.rot_g ha hb, h.rot_most ha hb, ← e]; rfl
theorem OkF.rot_qP (h : OkF f) (ha : a < f.no) (hb : b < f.nw) (i k : Nat) : (f.rot a b).qP i k = f.qP (rotP f.no a i) (rotP f.nw b k) := by
  have h1 := (h.rot ha hb).mx [((i : Int), -1), (-1, (k : Int))]
  rw [SK_two, h.rot_g ha hb, perm_two (rotP_undo ha) (rotP_undo hb)] at h1
  have h2 := h.mx [(((rotP f.no a i : Nat) : Int), -1), (-1, ((rotP f.nw b k : Nat) : Int))]
  rw [SK_two] at h2
  have e := mx_perm (rotP_undo ha) (rotP_undo hb) (offG_8 h.g8) (perm_8 h.no h.nw ha hb fun i k e => Fl.g_in (offG_sub i k e)) h2 h1
  unfold Fl.qP Fl.poss Fl.cost
  rw [h.rot_g ha hb, h.rot_most ha hb, ← e]; rfl
/-- A pair of the rotated file is one of the file. -/
theorem rot_mem {q q' : Nat → Nat → Bool} {no nw : Nat} (ha : a < no) (hb : b < nw) (h : ∀ i k, q' i k = q (rotP no a i) (rotP nw b k)) {i k : Nat} (hx : ((i : Int), (k : Int)) ∈ dL q' nw no) : ((((i + a) % no : Nat) : Int), (((k + b) % nw : Nat) : Int)) ∈ dL q nw no := by
  obtain ⟨i', k', e, hi, hk, hq⟩ := dL_mem.1 hx
  injection e with e1 e2
  obtain rfl := Int.ofNat.inj e1
  obtain rfl := Int.ofNat.inj e2
  rw [rotP_mod ha hi, rotP_mod hb hk]
  exact dL_mem.2 ⟨_, _, rfl, (rotP_lt ha).2 hi, (rotP_lt hb).2 hk, by rw [← h]; exact hq⟩
theorem rot_len {q q' : Nat → Nat → Bool} {no nw : Nat} (ha : a < no) (hb : b < nw) (h : ∀ i k, q' i k = q (rotP no a i) (rotP nw b k)) : (dL q' nw no).length = (dL q nw no).length := by
  have up := rotP_undo ha
  have uq := rotP_undo hb
  apply Nat.le_antisymm
  · refine inj_le (fun x : Int × Int => (((rotP no a x.1.toNat : Nat) : Int), ((rotP nw b x.2.toNat : Nat) : Int))) _ _ (dL_nodup q' nw no) (fun x hx => ?_) fun x y hx hy e => ?_
    · obtain ⟨i, k, rfl, hi, hk, hq⟩ := dL_mem.1 hx
      exact dL_mem.2 ⟨_, _, rfl, (rotP_lt ha).2 hi, (rotP_lt hb).2 hk, by rw [← h]; exact hq⟩
    · obtain ⟨i, k, rfl, hi, hk, hq⟩ := dL_mem.1 hx
      obtain ⟨i', k', rfl, hi', hk', hq'⟩ := dL_mem.1 hy
      injection e with e1 e2
      have e1 := Int.ofNat.inj e1
      have e2 := Int.ofNat.inj e2
      simp only [Int.toNat_natCast] at e1 e2
      have h1 : i = i' := by rw [← up.2 i, e1, up.2]
      have h2 : k = k' := by rw [← uq.2 k, e2, uq.2]
      rw [h1, h2]
  · refine inj_le (fun x : Int × Int => (((rotP no (no - a) x.1.toNat : Nat) : Int), ((rotP nw (nw - b) x.2.toNat : Nat) : Int))) _ _ (dL_nodup q nw no) (fun x hx => ?_) fun x y hx hy e => ?_
    · obtain ⟨i, k, rfl, hi, hk, hq⟩ := dL_mem.1 hx
      refine dL_mem.2 ⟨_, _, rfl, ?_, ?_, by rw [h]; simp only [Int.toNat_natCast]; rw [up.1, uq.1]; exact hq⟩
      · exact (rotP_lt ha).1 (by simp only [Int.toNat_natCast]; rw [up.1]; exact hi)
      · exact (rotP_lt hb).1 (by simp only [Int.toNat_natCast]; rw [uq.1]; exact hk)
    · obtain ⟨i, k, rfl, hi, hk, hq⟩ := dL_mem.1 hx
      obtain ⟨i', k', rfl, hi', hk', hq'⟩ := dL_mem.1 hy
      injection e with e1 e2
      have e1 := Int.ofNat.inj e1
      have e2 := Int.ofNat.inj e2
      simp only [Int.toNat_natCast] at e1 e2
      have h1 : i = i' := by rw [← up.1 i, e1, up.1]
      have h2 : k = k' := by rw [← uq.1 k, e2, uq.1]
      rw [h1, h2]
theorem Fl.rot_thin (h : f.thin = true) (ha : a < f.no) (hb : b < f.nw) : (f.rot a b).thin = true := by
  unfold Fl.thin at h ⊢
  rw [Bool.and_eq_true, Bool.and_eq_true] at h ⊢
  exact ⟨⟨thinE_rot ha h.1.1, thinE_rot hb h.1.2⟩, h.2⟩
end Go.Proofs.YtgbdbikjckfgmaaGreat
