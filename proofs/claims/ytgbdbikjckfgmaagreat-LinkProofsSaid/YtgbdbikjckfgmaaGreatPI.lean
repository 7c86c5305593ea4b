/- Link: two own rows; the lists of sure and of possible pairs. -/
import Derived.Test.YtgbdbikjckfgmaaGreatN2
namespace Go.Proofs.YtgbdbikjckfgmaaGreat
open Go.RowKit Go.Shelf

theorem cntL_le (l : Nat → Int) (n : Nat) : cntL n l ≤ n := Nat.le_trans (List.length_filter_le _ _) (by simp)
theorem OkF.most8 {f : Fl} (h : OkF f) : f.most ≤ 8 := by
  obtain ⟨l, _, e⟩ := h.mx0.1
  have := cntL_le l 8
  unfold Fl.most; omega
/-- Two own rows of one type. -/
structure Two (base : Nat) (X : World) (T : TypeId) (sz : Nat) (v1 : Value) (n1 : Nat) (x1 : List Value) (v2 : Value) (n2 : Nat) (x2 : List Value) : Prop where
  o1 : X.ownsRow base T sz v1 n1 x1
  o2 : X.ownsRow base T sz v2 n2 x2
  dis : ∀ k, v1.ownBlock = some k → v2.ownBlock ≠ some k
section
variable {base : Nat} {X Y : World} {T : TypeId} {sz n1 n2 : Nat} {v1 v2 : Value} {x1 x2 : List Value}
theorem Two.nil : Two base X T sz (.slice none 0 0) 0 [] (.slice none 0 0) 0 [] := ⟨World.ownsRow_nil _ _ _ _, World.ownsRow_nil _ _ _ _, fun k e => by cases e⟩
theorem Two.below (h : Two base X T sz v1 n1 x1 v2 n2 x2) (hb : Below X.heap.size X Y) : Two base Y T sz v1 n1 x1 v2 n2 x2 := ⟨own_below h.o1 hb, own_below h.o2 hb, h.dis⟩
theorem Two.app1 {v : Value} {n : Nat} {xs : List Value} (h : Two base X T sz v1 n1 x1 v2 n2 x2) (ho : Y.ownsRow base T sz v n xs) (hg : X.grownBy Y v1.ownBlock) (hl : v.ownBlock = v1.ownBlock ∨ v.ownBlock = some X.heap.size) : Two base Y T sz v n xs v2 n2 x2 :=
  ⟨ho, own_fr h.o2 (Fr.grown hg) (fun k _ e1 _ _ e2 => h.dis k e2 e1), fun k e1 e2 => by
    rcases hl with e | e
    · exact h.dis k (e ▸ e1) e2
    · rw [e] at e1
      have := own_lt h.o2 e2
      have := Option.some.inj e1
      omega⟩
theorem Two.swap (h : Two base X T sz v1 n1 x1 v2 n2 x2) : Two base X T sz v2 n2 x2 v1 n1 x1 := ⟨h.o2, h.o1, fun k e1 e2 => h.dis k e2 e1⟩
end
theorem filter_le {q1 q2 : Nat → Bool} : ∀ {l : List Nat}, (∀ k, k ∈ l → q1 k = true → q2 k = true) → (l.filter q1).length ≤ (l.filter q2).length ∧ ((l.filter q1).length = (l.filter q2).length → ∀ k, k ∈ l → q1 k = q2 k)
  | [], _ => ⟨Nat.le_refl _, fun _ k hk => absurd hk List.not_mem_nil⟩
  | x :: l, h => by
    obtain ⟨h1, h2⟩ := filter_le (l := l) fun k hk => h k (List.mem_cons_of_mem _ hk)
    have hx := h x List.mem_cons_self
    rw [List.filter_cons, List.filter_cons]
    cases e1 : q1 x <;> cases e2 : q2 x
    · refine ⟨by simpa using h1, fun e k hk => ?_⟩
      rcases List.mem_cons.1 hk with rfl | hk
      · rw [e1, e2]
      · exact h2 (by simpa using e) k hk
    · refine ⟨by simp; omega, fun e => ?_⟩
      simp at e; omega
    · rw [hx e1] at e2; cases e2
    · refine ⟨by simpa using h1, fun e k hk => ?_⟩
      rcases List.mem_cons.1 hk with rfl | hk
      · rw [e1, e2]
      · exact h2 (by simpa using e) k hk
theorem dL_le {q1 q2 : Nat → Nat → Bool} {nw : Nat} (h : ∀ i k, q1 i k = true → q2 i k = true) : ∀ n, (dL q1 nw n).length ≤ (dL q2 nw n).length ∧ ((dL q1 nw n).length = (dL q2 nw n).length → ∀ i k, i < n → k < nw → q1 i k = q2 i k)
  | 0 => ⟨Nat.le_refl _, fun _ i k hi => absurd hi (Nat.not_lt_zero i)⟩
  | n + 1 => by
    obtain ⟨h1, h2⟩ := dL_le (nw := nw) h n
    obtain ⟨h3, h4⟩ := filter_le (q1 := q1 n) (q2 := q2 n) (l := List.range nw) fun k _ => h n k
    have e1 : (dR q1 n nw).length = ((List.range nw).filter (q1 n)).length := by unfold dR; rw [List.length_map]
    have e2 : (dR q2 n nw).length = ((List.range nw).filter (q2 n)).length := by unfold dR; rw [List.length_map]
    rw [dL_succ, dL_succ, List.length_append, List.length_append, e1, e2]
    refine ⟨by omega, fun e i k hi hk => ?_⟩
    rcases Nat.lt_succ_iff_lt_or_eq.1 hi with hi | rfl
    · exact h2 (by omega) i k hi hk
    · exact h4 (by omega) k (List.mem_range.2 hk)
def Fl.qS (f : Fl) (i k : Nat) : Bool := f.g i k && f.sure i k
def Fl.qP (f : Fl) (i k : Nat) : Bool := f.g i k && f.poss i k
theorem OkF.qSP {f : Fl} (h : OkF f) (i k : Nat) (e : f.qS i k = true) : f.qP i k = true := by
  unfold Fl.qS at e; unfold Fl.qP
  rw [Bool.and_eq_true] at e ⊢
  exact ⟨e.1, h.sure_poss e.2⟩
theorem OkF.only_iff {f : Fl} (h : OkF f) : f.only = true ↔ (dL f.qS f.nw f.no).length = (dL f.qP f.nw f.no).length := by
  constructor
  · intro ho
    rw [dL_congr (q := f.qS) (q' := f.qP)]
    intro i k hi hk
    cases hq : f.qP i k
    · cases hs : f.qS i k
      · rfl
      · rw [h.qSP i k hs] at hq; cases hq
    · unfold Fl.qP at hq
      rw [Bool.and_eq_true] at hq
      have e := h.only_poss ho hq.1 hq.2
      unfold Fl.only at ho
      have h2 := allB_all ho i hi
      rw [e, Bool.or_eq_true, Int.toNat_natCast] at h2
      rcases h2 with h2 | h2
      · exact absurd (of_decide_eq_true h2) (by omega)
      · unfold Fl.qS; rw [hq.1, h2]; rfl
  · intro e
    have h2 := (dL_le (nw := f.nw) h.qSP f.no).2 e
    unfold Fl.only
    refine allB_true fun i hi => ?_
    rcases h.lst_or i with e1 | ⟨k, e1⟩
    · rw [e1]; rfl
    · have hg := h.lst_g e1
      have hp := h.lst_poss e1
      have h3 := h2 i k hi (Fl.g_in hg).2
      unfold Fl.qS Fl.qP at h3
      rw [hg, hp] at h3
      rw [e1, Int.toNat_natCast, (by simpa using h3 : f.sure i k = true), Bool.or_true]
theorem chL_S (f : Fl) : chL f f.sure f.no = dL f.qS f.nw f.no := (dL_ch f f.sure f.no).symm
theorem chL_P (f : Fl) : chL f f.poss f.no = dL f.qP f.nw f.no := (dL_ch f f.poss f.no).symm
end Go.Proofs.YtgbdbikjckfgmaaGreat
