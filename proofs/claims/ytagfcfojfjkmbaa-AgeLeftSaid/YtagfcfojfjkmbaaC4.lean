/- On: the ages that a person can have on a day. -/
import Derived.Test.YtagfcfojfjkmbaaB6
namespace Go.Proofs.Ytagfcfojfjkmbaa
open Go.RowKit Go.Shelf

theorem meetL_sub (k : Nat) : ∀ (a b : RL), a.length + b.length ≤ k → ∀ r ∈ meetL a b, r.1 ≤ r.2 ∧ ∃ x ∈ a, x.1 ≤ r.1 ∧ r.2 ≤ x.2 := by
  induction k with
  | zero => intro a b hl; have : a = [] := by cases a <;> simp_all
            subst this; rw [meetL_nil_left]; simp
  | succ k ih =>
    intro a b hl
    cases a with
    | nil => rw [meetL_nil_left]; simp
    | cons x a =>
      cases b with
      | nil => rw [meetL_nil_right]; simp
      | cons y b =>
        rw [meetL_cons]
        simp only [List.length_cons] at hl
        have h1 := ih a (y :: b) (by simp; omega)
        have h2 := ih (x :: a) b (by simp; omega)
        intro r hr
        rcases List.mem_append.1 hr with h | h
        · split at h
          · simp only [List.mem_singleton] at h; subst h; simp only
            exact ⟨by assumption, x, by simp, by omega, by omega⟩
          · simp at h
        · split at h
          · obtain ⟨i1, y', hy, i2⟩ := h1 r h; exact ⟨i1, y', by simp [hy], i2⟩
          · exact h2 r h
theorem daysL_in (p : Pers) (out : Int → Bool) (h : p.lo ≤ p.hi) (k : Nat) : ∀ r ∈ daysL p out k, p.lo ≤ r.1 ∧ r.1 ≤ r.2 ∧ r.2 ≤ p.hi := by
  induction k with
  | zero => intro r hr; simp [daysL] at hr; subst hr; simp only; omega
  | succ k ih =>
    rw [daysL]; split
    · exact ih
    · intro r hr
      obtain ⟨i1, x, hx, i2, i3⟩ := meetL_sub _ _ _ (Nat.le_refl _) r hr
      have := ih x hx; omega
theorem born_in (p : Pers) : ∀ r ∈ p.born, -50000 ≤ r.1 ∧ r.1 ≤ r.2 ∧ r.2 ≤ 50000 := by
  unfold Pers.born
  split
  · rename_i h
    obtain ⟨_, _, _, l1, l2, l3, l4, l5, _⟩ := Pers.ok_facts h
    intro r hr
    have := daysL_in p _ l5 _ r hr; omega
  · simp

/-- With one more range of days of birth, earlier than those before. -/
def onF (day : Int) (l : RL) (x : BR) : RL := if x.1.1 ≤ day then ext l ((day - mn x.1.2 day) / 365) ((day - x.1.1) / 365) else l
def onL (day : Int) (xs : List BR) : RL := xs.foldl (onF day) []
theorem onL_snoc (day : Int) (xs : List BR) (x : BR) : onL day (xs ++ [x]) = onF day (onL day xs) x := by simp [onL]
theorem onL_facts (day : Int) (h1 : -50000 ≤ day) (h2 : day ≤ 50000) (n : Nat) : ∀ xs : List BR, xs.length = n → (onL day xs).length ≤ n ∧ ∀ r ∈ onL day xs, -900000000 ≤ r.1 ∧ r.1 ≤ 900000000 ∧ -900000000 ≤ r.2 ∧ r.2 ≤ 900000000 := by
  induction n with
  | zero => intro xs hx; have : xs = [] := List.eq_nil_of_length_eq_zero hx
            subst this; simp [onL]
  | succ n ih =>
    intro xs hx
    rcases List.eq_nil_or_concat xs with rfl | ⟨l0, x, rfl⟩
    · simp at hx
    · rw [List.concat_eq_append] at *
      obtain ⟨i1, i2⟩ := ih l0 (by simpa using hx)
      rw [onL_snoc]; unfold onF
      have hb := x.2
      split
      · refine ⟨by have := ext_length (onL day l0) ((day - mn x.1.2 day) / 365) ((day - x.1.1) / 365); omega, ext_bdS _ _ _ _ i2 ?_ ?_ ?_ ?_⟩ <;> (try unfold mn) <;> omega
      · exact ⟨by omega, i2⟩

def snds (pre : List (Nat × BR)) : List BR := pre.map (·.2)
theorem snds_snoc (pre : List (Nat × BR)) (x : Nat × BR) : snds (pre ++ [x]) = snds pre ++ [x.2] := by simp [snds]
theorem snds_length (pre : List (Nat × BR)) : (snds pre).length = pre.length := by simp [snds]
/-- In the rounds: the slice in box Bl holds L. -/
def OI (Bl : Nat) (Wb : World) (L : RL) (W : World) : Prop :=
  ∃ lv, W.heap[Bl]? = some (.cells #[lv] 38 (0, 0)) ∧ RS W Wb.heap.size lv L ∧ Fr (fun q => q = Bl) Wb W
theorem OI.own (Bl : Nat) (Wb : World) : OwnFrom Wb.heap.size (OI Bl Wb) := by
  rintro s W W' row ⟨lv, h1, h2, h3⟩ hg hr
  have hne : ∀ q c t fr, W.heap[q]? = some (.cells c t fr) → ¬ row = some q := fun q c t fr hq e => by
    obtain ⟨_, o, ho, hc⟩ := hr q e; rw [hq] at ho; cases ho; cases hc
  have hg' := Fr.grown hg
  refine ⟨lv, (hg'.block _ (Array.getElem?_eq_some_iff.1 h1).1 (hne _ _ _ _ h1)).trans h1, h2.fr hg' (fun g cur _ _ hc => hne _ _ _ _ hc), ?_⟩
  refine ⟨hg'.os.trans h3.os, hg'.tape.trans h3.tape, hg'.output.trans h3.output, Nat.le_trans h3.size hg'.size, fun q hq he => ?_⟩
  exact (hg'.block q (Nat.lt_of_lt_of_le hq h3.size) (fun e => by have := (hr q e).1; omega)).trans (h3.block q hq he)
theorem OI.step {Bl : Nat} {Wb W X W2 : World} {L L' : RL} {lv v' : Value} (hBl : Bl < Wb.heap.size)
    (h1 : W.heap[Bl]? = some (.cells #[lv] 38 (0, 0))) (h2 : RS W Wb.heap.size lv L) (h3 : Fr (fun q => q = Bl) Wb W) (hX : Below W.heap.size W X)
    (g1 : RS W2 Wb.heap.size v' L') (g2 : X.grownBy W2 lv.ownBlock) (g3 : v'.ownBlock = lv.ownBlock ∨ ∀ k, v'.ownBlock = some k → X.heap.size ≤ k) :
    KeepsOthers W (W2.setCell ⟨Bl, 0, none⟩ v') ∧ Kp Bl W (W2.setCell ⟨Bl, 0, none⟩ v') ∧ OI Bl Wb L' (W2.setCell ⟨Bl, 0, none⟩ v') := by
  have hl : ∀ q, lv.ownBlock = some q → Wb.heap.size ≤ q ∧ ∃ cur, W.heap[q]? = some (.cells cur 41 (0, 0)) := fun q hq => by
    rcases h2.2 with ⟨rfl, _⟩ | ⟨g, cap, cur, rfl, hg, hc, _⟩
    · cases hq
    · cases hq; exact ⟨hg, cur, hc⟩
  have hsB := (Array.getElem?_eq_some_iff.1 h1).1
  have hXs := hX.size
  have k1 : W2.heap[Bl]? = some (.cells #[lv] 38 (0, 0)) := (g2.block _ (by omega) (fun e => by have := (hl _ e.symm).1; omega)).trans ((hX.block _ hsB).trans h1)
  have f1 := (Fr.below hX (fun k => lv.ownBlock = some k)).trans (Fr.grown g2)
  have f2 := Fr.set W2 Bl 0 v'
  have k2 := set_one (u := v') k1
  have f : Fr (fun q => q = Bl ∨ lv.ownBlock = some q) W (W2.setCell ⟨Bl, 0, none⟩ v') := (f1.mono (fun _ _ h => .inr h)).trans (f2.mono (fun _ _ h => .inl h))
  refine ⟨⟨f.size, fun k o hk ho => ?_⟩, ⟨f.os, f.tape, f.output, f.size, fun k c t fr hk hne hno => ?_, ?_⟩, v', k2, ?_, ?_⟩
  · refine (f.block k (Array.getElem?_eq_some_iff.1 hk).1 ?_).trans hk
    rintro (rfl | h)
    · rw [h1] at hk; cases hk; cases ho
    · obtain ⟨_, cur, hc⟩ := hl _ h; rw [hc] at hk; cases hk; cases ho
  · refine (f.block k (Array.getElem?_eq_some_iff.1 hk).1 ?_).trans hk
    rintro (rfl | h)
    · exact hne rfl
    · exact hno (by rw [ownB_of h1]; exact h)
  · rw [ownB_of k2, ownB_of h1]; exact g3.imp id (fun h k hk => Nat.le_trans hXs (h k hk))
  · refine g1.fr f2 ?_
    rintro g cur hg hb _ rfl
    omega
  · refine ⟨f.os.trans h3.os, f.tape.trans h3.tape, f.output.trans h3.output, Nat.le_trans h3.size f.size, fun q hq he => ?_⟩
    refine (f.block q (Nat.lt_of_lt_of_le hq h3.size) ?_).trans (h3.block q hq he)
    rintro (h | h)
    · exact he h
    · have := (hl _ h).1; omega

theorem back_of_rs2 {Bl base : Nat} {w : World} {v : Value} {l : RL} (h : RS w base v l) (hB : Bl < w.heap.size) (ho : ownB w Bl = none) (hg : ∀ g, v.ownBlock = some g → g ≠ Bl)
    (hbd : ∀ r ∈ l, -1000000 ≤ r.1 ∧ r.1 ≤ 1000000 ∧ -1000000 ≤ r.2 ∧ r.2 ≤ 1000000) : BackAt Bl (w.alloc (.cells #[v] 38)) w.heap.size l.length (brAt l) := by
  have hnew : Mine Bl (w.alloc (.cells #[v] 38)) w.heap.size #[v] 38 := Mine.new (by omega) (fun k hk => by rw [ho] at hk; cases hk) _ _
  rcases h.2 with ⟨rfl, h0⟩ | ⟨g, cap, cur, rfl, _, hgc, _, _, hcs, hcur⟩
  · exact .inl ⟨hnew, h0⟩
  · refine .inr ⟨g, cap, cur, hnew, ⟨?_, hg g rfl, ?_⟩, fun j hj => ?_⟩
    · rw [(below_alloc w _).block _ (Array.getElem?_eq_some_iff.1 hgc).1]; exact hgc
    · rw [ownB_same ((below_alloc w _).block _ (by omega)), ho]; intro e; cases e
    · have hf := flat_get l j hj
      rw [← hcur, List.getElem?_take, List.getElem?_take, if_pos (by omega), if_pos (by omega)] at hf
      rw [brAt_val hbd j hj]
      simpa using hf

/-- The error of On, and the ages. -/
def Pers.onE (p : Pers) (day : Int) : Int := if p.fault = 0 then (if inB day (-50000) 50000 = false then 2 else match p.born with | [] => 9 | r :: _ => if day < r.1 then 7 else 0) else p.fault
def Pers.on (p : Pers) (day : Int) : RL := if p.onE day = 0 then onL day (yearsL p.born) else []

set_option maxRecDepth 100000 in
set_option maxHeartbeats 2000000 in
theorem on_bad (v : Value) (p : Pers) (day : Int) (w : World) (h : PersAt w v p) (hn : p.nr ≤ 100000) (hc : p.nc ≤ 100000) (hE : p.onE day ≠ 0) :
    Calls Try.prog 26 #[v, .int .i64 day] w (GivesE w w.heap.size [] (p.onE day)) := by
  obtain ⟨rv, cv, rfl⟩ := h.agg
  have HP := Lib.hid h; clear h
  have hcase : (p.fault ≠ 0 ∧ p.onE day = p.fault) ∨ (p.fault = 0 ∧ inB day (-50000) 50000 = false ∧ p.onE day = 2) ∨ (p.fault = 0 ∧ inB day (-50000) 50000 = true ∧ p.born = [] ∧ p.onE day = 9) ∨ (p.fault = 0 ∧ inB day (-50000) 50000 = true ∧ ∃ r l, p.born = r :: l ∧ day < r.1 ∧ p.onE day = 7) := by
    unfold Pers.onE at hE ⊢
    by_cases h : p.fault = 0
    · rw [if_pos h] at hE ⊢
      cases hd : inB day (-50000) 50000
      · simp [h]
      · cases hb : p.born with
        | nil => simp [h]
        | cons r l =>
          by_cases hr : day < r.1
          · exact .inr (.inr (.inr ⟨h, rfl, r, l, rfl, hr, by simp [hr]⟩))
          · simp [hd, hb, hr] at hE
    · exact .inl ⟨h, by rw [if_neg h]⟩
  clear hE
  have hlen := born_length p
  rcases hcase with ⟨h1, h2⟩ | ⟨h1, h2, h3⟩ | ⟨h1, h2, h3, h4⟩ | ⟨h1, h2, r, l, h3, h4, h5⟩
  · have hq : (p.fault != 0) = true := by simp [h1]
    rw [h2]; clear h1 h2
    go_enter Try.func26, Try.ntmps26
    go_wp2_with (go_at_call 65; refine (births_any _ p _ (HP.out.below ((below_alloc _ _).trans ((below_alloc _ _).mono (by simp)))) hn hc).mono ?_; rintro e w1 ⟨v1, rfl, hr1, hb1⟩)
    go_ret2
    exact ⟨_, rfl, RS.nil _ _, ((below_alloc w _).trans ((below_alloc _ _).mono (by simp))).trans (hb1.mono (by simp; omega))⟩
  · have hq : (p.fault != 0) = false := by simp [h1]
    rw [h3]; clear h1 h3
    go_enter Try.func26, Try.ntmps26
    go_wp2_with (first | (go_at_call 65; refine (births_any _ p _ (HP.out.below ((below_alloc _ _).trans ((below_alloc _ _).mono (by simp)))) hn hc).mono ?_; rintro e w1 ⟨v1, rfl, hr1, hb1⟩; obtain ⟨hc1, hf1⟩ := bcell hb1) | (go_at_call 66; refine (isDay_any _ _).mono ?_; rintro e w' ⟨rfl, rfl⟩))
    go_ret2
    exact ⟨_, rfl, RS.nil _ _, ((below_alloc w _).trans ((below_alloc _ _).mono (by simp))).trans (hb1.mono (by simp; omega))⟩
  · have hq : (p.fault != 0) = false := by simp [h1]
    rw [h4]; clear h1 h4
    have H3 := Lib.hid h3; clear h3
    go_enter Try.func26, Try.ntmps26
    go_wp2_with (first | (go_at_call 65; refine (births_any _ p _ (HP.out.below ((below_alloc _ _).trans ((below_alloc _ _).mono (by simp)))) hn hc).mono ?_; rintro e w1 ⟨v1, rfl, hr1, hb1⟩; obtain ⟨hc1, hf1⟩ := bcell hb1; rw [H3.out] at hr1; obtain ⟨a1, k1, rfl⟩ := hr1.slice; clear hr1) | (go_at_call 66; refine (isDay_any _ _).mono ?_; rintro e w' ⟨rfl, rfl⟩))
    go_ret2
    exact ⟨_, rfl, RS.nil _ _, ((below_alloc w _).trans ((below_alloc _ _).mono (by simp))).trans (hb1.mono (by simp; omega))⟩
  · have hq : (p.fault != 0) = false := by simp [h1]
    rw [h5]; clear h1 h5
    have H3 := Lib.hid h3
    have hll : l.length ≤ 1000 := by rw [h3] at hlen; simp at hlen; omega
    clear h3 hlen
    have hnz : (((l.length : Int) + 1) == 0) = false := by simp; omega
    go_enter Try.func26, Try.ntmps26
    go_wp2_with (first | (go_at_call 65; refine (births_any _ p _ (HP.out.below ((below_alloc _ _).trans ((below_alloc _ _).mono (by simp)))) hn hc).mono ?_; rintro e w1 ⟨v1, rfl, hr1, hb1⟩; obtain ⟨hc1, hf1⟩ := bcell hb1; have hs1 := hb1.size; rw [H3.out] at hr1; obtain ⟨b1, o1, k1, rfl, hk1, hbb, x1, x2, _⟩ := hr1.rg.cons; clear hr1) | (go_at_call 66; refine (isDay_any _ _).mono ?_; rintro e w' ⟨rfl, rfl⟩))
    go_quiet (fail)
    go_wp2
    go_ret2
    exact ⟨_, rfl, RS.nil _ _, (((below_alloc w _).trans ((below_alloc _ _).mono (by simp))).trans (hb1.mono (by simp; omega))).trans (below_drewS _ _ _)⟩
end Go.Proofs.Ytagfcfojfjkmbaa
