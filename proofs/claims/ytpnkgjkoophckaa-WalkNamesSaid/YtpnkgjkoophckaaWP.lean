/- Walk, plain: the search for quickest ways, and what its result is. -/
import Derived.Test.YtpnkgjkoophckaaWA
namespace Go.Proofs.Ytpnkgjkoophckaa

def Mp.road (m : Mp) (a b : Int) : Int := match (List.range m.nr).find? (fun k => joinsB (m.ra k) (m.rb k) a b) with | some k => k | none => -1
def Mp.roadOk (m : Mp) (i : Nat) : Bool := inB (m.ra i) 0 (m.nw - 1) && inB (m.rb i) 0 (m.nw - 1) && decide (m.ra i ≠ m.rb i) && insideR (m.rt i) 1 50 && decide (m.road (m.ra i) (m.rb i) = i)
def Mp.okAll (m : Mp) : Bool := decide (1 ≤ m.nw) && allB (fun i => insideR (m.wk i) 0 50) m.nw && allB m.roadOk m.nr
def Mp.fault (m : Mp) : Int := if 8 < m.nw ∨ 20 < m.nr then 3 else if m.okAll = true then 0 else 1
/-- A valid map. -/
structure OkM (m : Mp) : Prop where
  nw : 1 ≤ m.nw ∧ m.nw ≤ 8
  nr : m.nr ≤ 20
  wk : ∀ i, i < m.nw → 0 ≤ (m.wk i).1 ∧ (m.wk i).1 ≤ (m.wk i).2 ∧ (m.wk i).2 ≤ 50
  ra : ∀ k, k < m.nr → 0 ≤ m.ra k ∧ m.ra k < m.nw
  rb : ∀ k, k < m.nr → 0 ≤ m.rb k ∧ m.rb k < m.nw
  ab : ∀ k, k < m.nr → m.ra k ≠ m.rb k
  rt : ∀ k, k < m.nr → 1 ≤ (m.rt k).1 ∧ (m.rt k).1 ≤ (m.rt k).2 ∧ (m.rt k).2 ≤ 50
  rd : ∀ k, k < m.nr → m.road (m.ra k) (m.rb k) = k
theorem allB_iff {p : Nat → Bool} {n : Nat} : allB p n = true ↔ ∀ q, q < n → p q = true := by
  simp only [allB, List.all_eq_true, List.mem_range]
theorem okM_of {m : Mp} (h : m.fault = 0) : OkM m := by
  unfold Mp.fault at h
  split at h
  · omega
  split at h
  · rename_i h1 h2
    simp only [Mp.okAll, Bool.and_eq_true, decide_eq_true_eq, allB_iff, Mp.roadOk, insideR, inB] at h2
    obtain ⟨⟨h3, h4⟩, h5⟩ := h2
    refine ⟨by omega, by omega, fun i hi => ?_, fun k hk => ?_, fun k hk => ?_, fun k hk => ?_, fun k hk => ?_, fun k hk => ?_⟩
    · have := h4 i hi; omega
    · have := h5 k hk; omega
    · have := h5 k hk; omega
    · exact (h5 k hk).1.1.2
    · have := h5 k hk; omega
    · exact (h5 k hk).2
  · omega
/-- Two places are joined by a road. -/
def Ed (m : Mp) (x y : Nat) (h : Int) : Prop := ∃ k, k < m.nr ∧ ((m.ra k = x ∧ m.rb k = y) ∨ (m.ra k = y ∧ m.rb k = x)) ∧ h = (m.rt k).2
theorem Ed.symm {m : Mp} {x y : Nat} {h : Int} (e : Ed m x y h) : Ed m y x h := by
  obtain ⟨k, hk, e, hh⟩ := e; exact ⟨k, hk, e.symm, hh⟩
theorem Ed.bd {m : Mp} (ok : OkM m) {x y : Nat} {h : Int} (e : Ed m x y h) : x < m.nw ∧ y < m.nw ∧ x ≠ y ∧ 1 ≤ h ∧ h ≤ 50 := by
  obtain ⟨k, hk, e, rfl⟩ := e
  have h1 := ok.ra k hk; have h2 := ok.rb k hk; have h3 := ok.ab k hk; have h4 := ok.rt k hk
  omega

def otherR (m : Mp) (k : Nat) (n : Int) : Int := if n = m.ra k then m.rb k else if n = m.rb k then m.ra k else -1
/-- The nearest place that is not settled. -/
def nearN (T : Nat → Int) (S : Nat → Bool) : Nat → Int
  | 0 => -1
  | n + 1 => if S n = false ∧ (nearN T S n < 0 ∨ T n < T (nearN T S n).toNat) then n else nearN T S n
def upd {α : Type} (f : Nat → α) (i : Nat) (v : α) : Nat → α := fun n => if n = i then v else f n
theorem upd_same {α : Type} {f : Nat → α} {i : Nat} {v : α} : upd f i v i = v := by simp [upd]
theorem upd_ne {α : Type} {f : Nat → α} {i j : Nat} {v : α} (h : j ≠ i) : upd f i v j = f j := by simp [upd, h]
abbrev TF := (Nat → Int) × (Nat → Int)
def relax1 (m : Mp) (near k : Nat) (s : TF) : TF := if 0 ≤ otherR m k near ∧ s.1 near + (m.rt k).2 < s.1 (otherR m k near).toNat then (upd s.1 (otherR m k near).toNat (s.1 near + (m.rt k).2), upd s.2 (otherR m k near).toNat near) else s
def relaxN (m : Mp) (near : Nat) : Nat → TF → TF
  | 0, s => s
  | k + 1, s => relax1 m near k (relaxN m near k s)
structure Sr where
  t : TF
  S : Nat → Bool
def Sr.near (m : Mp) (s : Sr) : Nat := (nearN s.t.1 s.S m.nw).toNat
def Sr.round (m : Mp) (s : Sr) : Sr := ⟨relaxN m (s.near m) m.nr s.t, upd s.S (s.near m) true⟩
def startS (goal : Nat) : Sr := ⟨(fun n => if n = goal then 0 else 1048576, fun n => if n = goal then goal else 0), fun _ => false⟩
def rounds (m : Mp) (goal : Nat) : Nat → Sr
  | 0 => startS goal
  | r + 1 => (rounds m goal r).round m
def tmA (m : Mp) (n goal : Nat) : Int := (rounds m goal m.nw).t.1 n
def fsA (m : Mp) (n goal : Nat) : Int := (rounds m goal m.nw).t.2 n

def cntN (S : Nat → Bool) : Nat → Nat
  | 0 => 0
  | n + 1 => cntN S n + if S n = true then 1 else 0
theorem cntN_le (S : Nat → Bool) : ∀ n, cntN S n ≤ n
  | 0 => Nat.le_refl _
  | n + 1 => by have := cntN_le S n; simp only [cntN]; split <;> omega
theorem cntN_all {S : Nat → Bool} : ∀ {n}, (∀ i, i < n → S i = true) → cntN S n = n
  | 0, _ => rfl
  | n + 1, h => by
    have ih := cntN_all (n := n) (fun i hi => h i (by omega))
    simp only [cntN, h n (by omega), if_true, ih]
theorem all_cntN {S : Nat → Bool} : ∀ {n}, cntN S n = n → ∀ i, i < n → S i = true
  | 0, _, i, hi => by omega
  | n + 1, h, i, hi => by
    have := cntN_le S n
    simp only [cntN] at h
    split at h
    · rename_i hs
      rcases Nat.lt_succ_iff_lt_or_eq.1 hi with h1 | rfl
      · exact all_cntN (by omega) i h1
      · exact hs
    · omega
theorem cntN_upd {S : Nat → Bool} {i : Nat} (hi : S i = false) : ∀ {n}, cntN (upd S i true) n = cntN S n + if i < n then 1 else 0
  | 0 => by simp [cntN]
  | n + 1 => by
    simp only [cntN, cntN_upd hi (n := n)]
    by_cases h : n = i
    · subst h; rw [upd_same, hi]; simp
    · rw [upd_ne h]
      have e : (i < n + 1) = (i < n) := propext (by omega)
      simp only [e]
      omega
theorem cntN_zero : ∀ n, cntN (fun _ => false) n = 0
  | 0 => rfl
  | n + 1 => by simp [cntN, cntN_zero n]
theorem cntN_mono {S S' : Nat → Bool} (h : ∀ i, S i = true → S' i = true) : ∀ n, cntN S n ≤ cntN S' n
  | 0 => Nat.le_refl _
  | n + 1 => by
    have := cntN_mono h n
    simp only [cntN]
    by_cases hs : S n = true
    · rw [if_pos hs, if_pos (h n hs)]; omega
    · rw [if_neg hs]; split <;> omega
theorem cntN_lt {S S' : Nat → Bool} (h : ∀ i, S i = true → S' i = true) {p n : Nat} (hp : p < n) (h1 : S p = false) (h2 : S' p = true) : cntN S n < cntN S' n := by
  have := cntN_upd (S := S) (i := p) h1 (n := n)
  rw [if_pos hp] at this
  have h3 := cntN_mono (S := upd S p true) (S' := S') (fun i hi => by
    by_cases e : i = p
    · subst e; exact h2
    · rw [upd_ne e] at hi; exact h i hi) n
  omega

theorem nearN_or (T : Nat → Int) (S : Nat → Bool) : ∀ n, (nearN T S n = -1 ∧ ∀ i, i < n → S i = true) ∨ ∃ i, i < n ∧ nearN T S n = (i : Nat) ∧ S i = false ∧ ∀ j, j < n → S j = false → T i ≤ T j
  | 0 => .inl ⟨rfl, fun i hi => by omega⟩
  | n + 1 => by
    simp only [nearN]
    rcases nearN_or T S n with ⟨h1, h2⟩ | ⟨i, hi, h1, h2, h3⟩
    · cases hs : S n
      · rw [if_pos ⟨rfl, .inl (by omega)⟩]
        refine .inr ⟨n, by omega, rfl, hs, fun j hj hj2 => ?_⟩
        rcases Nat.lt_succ_iff_lt_or_eq.1 hj with h | rfl
        · rw [h2 j h] at hj2; cases hj2
        · exact Int.le_refl _
      · rw [if_neg (by simp)]
        refine .inl ⟨h1, fun j hj => ?_⟩
        rcases Nat.lt_succ_iff_lt_or_eq.1 hj with h | rfl
        · exact h2 j h
        · exact hs
    · rw [h1]
      split
      · rename_i hc
        obtain ⟨hs, hc⟩ := hc
        simp only [Int.toNat_natCast] at hc
        refine .inr ⟨n, by omega, rfl, hs, fun j hj hj2 => ?_⟩
        rcases Nat.lt_succ_iff_lt_or_eq.1 hj with h | rfl
        · have := h3 j h hj2; omega
        · exact Int.le_refl _
      · rename_i hc
        refine .inr ⟨i, by omega, rfl, h2, fun j hj hj2 => ?_⟩
        rcases Nat.lt_succ_iff_lt_or_eq.1 hj with h | rfl
        · exact h3 j h hj2
        · simp only [Int.toNat_natCast] at hc
          have : ¬ T j < T i := fun h => hc ⟨hj2, .inr h⟩
          omega
theorem otherR_iff {m : Mp} (ok : OkM m) {k near : Nat} (hk : k < m.nr) : (otherR m k near = -1 ∧ ¬ (m.ra k = near ∨ m.rb k = near)) ∨ ∃ o : Nat, otherR m k near = o ∧ o < m.nw ∧ o ≠ near ∧ ((m.ra k = near ∧ m.rb k = o) ∨ (m.ra k = o ∧ m.rb k = near)) := by
  have h1 := ok.ra k hk; have h2 := ok.rb k hk; have h3 := ok.ab k hk
  unfold otherR
  split
  · exact .inr ⟨(m.rb k).toNat, by omega, by omega, by omega, by omega⟩
  split
  · exact .inr ⟨(m.ra k).toNat, by omega, by omega, by omega, by omega⟩
  · exact .inl ⟨rfl, by omega⟩
/-- What holds while the roads of a place are looked at. -/
structure Rlx (m : Mp) (near : Nat) (T0 F0 : Nat → Int) (j : Nat) (s : TF) : Prop where
  keep : s.1 near = T0 near
  le : ∀ n, n < m.nw → s.1 n ≤ T0 n
  ge : ∀ n, n < m.nw → s.1 n = T0 n ∧ s.2 n = F0 n ∨ n ≠ near ∧ s.2 n = near ∧ T0 near < s.1 n ∧ s.1 n < T0 n ∧ ∃ h, Ed m n near h ∧ s.1 n = h + T0 near
  tri : ∀ k, k < j → ∀ o : Nat, ((m.ra k = near ∧ m.rb k = o) ∨ (m.ra k = o ∧ m.rb k = near)) → s.1 o ≤ (m.rt k).2 + T0 near
theorem rlx_all {m : Mp} (ok : OkM m) {near : Nat} (T0 F0 : Nat → Int) : ∀ j, j ≤ m.nr → Rlx m near T0 F0 j (relaxN m near j (T0, F0))
  | 0, _ => ⟨rfl, fun n _ => Int.le_refl _, fun n _ => .inl ⟨rfl, rfl⟩, fun k hk => by omega⟩
  | j + 1, hj => by
    have ih := rlx_all ok (near := near) T0 F0 j (by omega)
    simp only [relaxN]
    generalize relaxN m near j (T0, F0) = s at *
    have hrt := ok.rt j (by omega)
    unfold relax1
    rcases otherR_iff ok (k := j) (near := near) (by omega) with ⟨e, hno⟩ | ⟨o, e, ho, hne, ho2⟩
    · rw [e, if_neg (by omega)]
      refine ⟨ih.keep, ih.le, ih.ge, fun k hk o ho => ?_⟩
      rcases Nat.lt_succ_iff_lt_or_eq.1 hk with h | rfl
      · exact ih.tri k h o ho
      · exfalso; apply hno; omega
    · rw [e]
      simp only [Int.toNat_natCast]
      by_cases hc : s.1 near + (m.rt j).2 < s.1 o
      · rw [if_pos ⟨by omega, hc⟩]
        have hn := ih.keep
        refine ⟨?_, fun n hn => ?_, fun n hn => ?_, fun k hk o' ho' => ?_⟩
        · simp only; rw [upd_ne (Ne.symm hne)]; exact ih.keep
        · simp only
          by_cases e2 : n = o
          · subst e2; rw [upd_same]; have := ih.le n hn; omega
          · rw [upd_ne e2]; exact ih.le n hn
        · simp only
          by_cases e2 : n = o
          · subst e2
            rw [upd_same, upd_same]
            have := ih.le n hn
            exact .inr ⟨hne, rfl, by omega, by omega, (m.rt j).2, ⟨j, by omega, by omega, rfl⟩, by omega⟩
          · rw [upd_ne e2, upd_ne e2]; exact ih.ge n hn
        · simp only
          by_cases e2 : o' = o
          · subst e2
            rw [upd_same]
            rcases Nat.lt_succ_iff_lt_or_eq.1 hk with h | rfl
            · have := ih.tri k h o' ho'; omega
            · omega
          · rw [upd_ne e2]
            rcases Nat.lt_succ_iff_lt_or_eq.1 hk with h | rfl
            · exact ih.tri k h o' ho'
            · exfalso; omega
      · rw [if_neg (fun h => hc h.2)]
        refine ⟨ih.keep, ih.le, ih.ge, fun k hk o' ho' => ?_⟩
        rcases Nat.lt_succ_iff_lt_or_eq.1 hk with h | rfl
        · exact ih.tri k h o' ho'
        · have hn := ih.keep
          obtain rfl : o' = o := by omega
          omega
/-- What holds after some rounds of the search. -/
structure Srch (m : Mp) (goal r : Nat) (T F : Nat → Int) (S : Nat → Bool) : Prop where
  cnt : cntN S m.nw = r
  bd : ∀ n, n < m.nw → 0 ≤ T n ∧ T n ≤ 1048576
  self : T goal = 0
  frm : ∀ s u, s < m.nw → u < m.nw → S s = true → S u = false → T s ≤ T u
  tri : ∀ s o h, S s = true → Ed m s o h → T o ≤ h + T s
  first : ∀ n, n < m.nw → n ≠ goal → T n < 1048576 → ∃ f : Nat, ∃ h, F n = f ∧ S f = true ∧ Ed m n f h ∧ T n = h + T f
theorem srch_near {m : Mp} {goal r : Nat} {T F : Nat → Int} {S : Nat → Bool} (h : Srch m goal r T F S) (hr : r < m.nw) : ∃ i, i < m.nw ∧ nearN T S m.nw = (i : Nat) ∧ S i = false ∧ ∀ j, j < m.nw → S j = false → T i ≤ T j := by
  rcases nearN_or T S m.nw with ⟨_, h2⟩ | h2
  · have := cntN_all h2; have := h.cnt; omega
  · exact h2
theorem srch_start {m : Mp} {goal : Nat} : Srch m goal 0 (startS goal).t.1 (startS goal).t.2 (startS goal).S := by
  refine ⟨cntN_zero _, fun n hn => ?_, by simp [startS], fun s u _ _ h => by simp [startS] at h, fun s o h hs => by simp [startS] at hs, fun n hn hg ht => ?_⟩
  · simp only [startS]; split <;> omega
  · simp only [startS, if_neg hg] at ht; omega
theorem srch_round {m : Mp} (ok : OkM m) {goal r : Nat} {s : Sr} (h : Srch m goal r s.t.1 s.t.2 s.S) (hg : goal < m.nw) (hr : r < m.nw) : Srch m goal (r + 1) (s.round m).t.1 (s.round m).t.2 (s.round m).S := by
  obtain ⟨i, hi, e, hs, hmin⟩ := srch_near h hr
  have en : s.near m = i := by simp [Sr.near, e]
  have R := rlx_all ok (near := i) s.t.1 s.t.2 m.nr (Nat.le_refl _)
  have eT : (s.round m).t = relaxN m i m.nr (s.t.1, s.t.2) := by simp [Sr.round, en]
  have eS : (s.round m).S = upd s.S i true := by simp [Sr.round, en]
  rw [eT, eS]
  generalize relaxN m i m.nr (s.t.1, s.t.2) = t' at *
  clear eT eS en e
  have settled : ∀ q, q < m.nw → s.S q = true → t'.1 q = s.t.1 q ∧ t'.2 q = s.t.2 q := fun q hq hqs => by
    rcases R.ge q hq with h1 | ⟨_, _, h2, h3, _⟩
    · exact h1
    · have := h.frm q i hq hi hqs hs; omega
  have low : ∀ q, q < m.nw → s.S q = false → s.t.1 i ≤ t'.1 q := fun q hq hqs => by
    have := hmin q hq hqs
    rcases R.ge q hq with ⟨h1, _⟩ | ⟨_, _, h2, _⟩
    · omega
    · omega
  have upS : ∀ q, upd s.S i true q = true → q = i ∨ s.S q = true := fun q hq => by
    by_cases e : q = i
    · exact .inl e
    · rw [upd_ne e] at hq; exact .inr hq
  refine ⟨?_, fun n hn => ?_, ?_, fun x u hx hu hxs hus => ?_, fun x o hh hxs hed => ?_, fun n hn hng hn2 => ?_⟩
  · rw [cntN_upd hs, if_pos hi, h.cnt]
  · have b1 := h.bd n hn
    have b2 := h.bd i hi
    rcases R.ge n hn with ⟨h1, _⟩ | ⟨_, _, h2, h3, _⟩ <;> omega
  · have b0 := h.self
    have b2 := h.bd i hi
    rcases R.ge goal hg with ⟨h1, _⟩ | ⟨_, _, h2, h3, _⟩ <;> omega
  · have hui : u ≠ i := fun e => by subst e; rw [upd_same] at hus; cases hus
    rw [upd_ne hui] at hus
    have hl := low u hu hus
    rcases upS x hxs with rfl | hx2
    · rw [R.keep]; exact hl
    · rw [(settled x hx hx2).1]
      have := h.frm x i hx hi hx2 hs
      omega
  · obtain ⟨bx, bo, _, _, _⟩ := hed.bd ok
    rcases upS x hxs with rfl | hx2
    · obtain ⟨k, hk, e, rfl⟩ := hed
      rw [R.keep]
      exact R.tri k hk o (by omega)
    · rw [(settled x bx hx2).1]
      have := h.tri x o hh hx2 hed
      have := R.le o bo
      omega
  · rcases R.ge n hn with ⟨h1, h2⟩ | ⟨_, h1, _, _, hh, hed, h2⟩
    · obtain ⟨f, hh, e1, e2, e3, e4⟩ := h.first n hn hng (by omega)
      refine ⟨f, hh, by rw [h2, e1], ?_, e3, ?_⟩
      · by_cases e : f = i
        · subst e; exact upd_same
        · rw [upd_ne e]; exact e2
      · rw [h1, (settled f (e3.bd ok).2.1 e2).1]; exact e4
    · exact ⟨i, hh, h1, upd_same, hed, by rw [R.keep]; exact h2⟩
theorem srch_all {m : Mp} (ok : OkM m) {goal : Nat} (hg : goal < m.nw) : ∀ r, r ≤ m.nw → Srch m goal r (rounds m goal r).t.1 (rounds m goal r).t.2 (rounds m goal r).S
  | 0, _ => srch_start
  | r + 1, hr => srch_round ok (srch_all ok hg r (by omega)) hg (by omega)
/-- Times to a goal, and first steps: as they are for the quickest ways. -/
structure Dst (m : Mp) (goal : Nat) (D F : Nat → Int) : Prop where
  bd : ∀ n, n < m.nw → 0 ≤ D n ∧ D n ≤ 1048576
  self : D goal = 0
  tri : ∀ x y h, Ed m x y h → D y ≤ h + D x
  first : ∀ n, n < m.nw → n ≠ goal → D n < 1048576 → ∃ f : Nat, ∃ h, F n = f ∧ Ed m n f h ∧ D n = h + D f
theorem dst_atlas {m : Mp} (ok : OkM m) {goal : Nat} (hg : goal < m.nw) : Dst m goal (fun n => tmA m n goal) (fun n => fsA m n goal) := by
  have h := srch_all ok hg m.nw (Nat.le_refl _)
  have hS := all_cntN h.cnt
  refine ⟨h.bd, h.self, fun x y hh e => h.tri x y hh (hS x (e.bd ok).1) e, fun n hn hng hn2 => ?_⟩
  obtain ⟨f, hh, e1, e2, e3, e4⟩ := h.first n hn hng hn2
  exact ⟨f, hh, e1, e3, e4⟩
end Go.Proofs.Ytpnkgjkoophckaa
