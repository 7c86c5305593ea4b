/- Link, plain: the file with its lists exchanged; lists of pairs the other way round. -/
import Derived.Test.YtgbdbikjckfgmaaGreatOJ
namespace Go.Proofs.YtgbdbikjckfgmaaGreat
open Go.RowKit Go.Shelf

theorem OkF.fault {f : Fl} (h : OkF f) : f.fault = 0 := by
  have b : f.big = false := by
    have h1 := h.no; have h2 := h.nw; have h3 := h.nm
    unfold Fl.big
    rw [decide_eq_false (by omega : ¬ 8 < f.no), decide_eq_false (by omega : ¬ 8 < f.nw), decide_eq_false (by omega : ¬ 16 < f.nm), allB_true (p := fun j => (f.E j).lim) fun j hj => decide_eq_true (h.e j hj).1]; rfl
  have p : f.pf = 0 := firstE_zero fun j hj => (h.e j hj).2.1
  have q : f.fine = true := by
    unfold Fl.fine
    rw [allB_true (p := fun j => (f.E j).ok) fun j hj => (h.e j hj).2.2, allB_true h.m]; rfl
  unfold Fl.fault; rw [b, p, q]; rfl
theorem OkF.mk2 {f : Fl} (h1 : f.no ≤ 8) (h2 : f.nw ≤ 8) (h3 : f.nm ≤ 16) (ho : ∀ j, j < f.no → (f.O j).nn ≤ 4 ∧ (f.O j).p.fault = 0 ∧ (f.O j).ok = true) (hn : ∀ j, j < f.nw → (f.N j).nn ≤ 4 ∧ (f.N j).p.fault = 0 ∧ (f.N j).ok = true) (hm : ∀ j, j < f.nm → f.mok j = true) : OkF f := by
  refine ⟨h1, h2, h3, fun j hj => ?_, hm⟩
  unfold Fl.E
  by_cases c : j < f.no
  · rw [if_pos c]; exact ho j c
  · rw [if_neg c]; exact hn _ (by omega)
def Fl.turn (f : Fl) : Fl := ⟨f.nw, f.N, f.no, f.O, f.nm, f.mt, f.mf⟩
theorem OkF.turn {f : Fl} (h : OkF f) : OkF f.turn := OkF.mk2 h.nw h.no h.nm (fun _ hj => h.n hj) (fun _ hj => h.o hj) fun j hj => by
  have := h.m j hj
  unfold Fl.mok at this ⊢
  rw [Bool.and_comm]; exact this
theorem Fl.turn_thin {f : Fl} (h : f.thin = true) : f.turn.thin = true := by
  unfold Fl.thin at h ⊢
  rw [Bool.and_eq_true, Bool.and_eq_true] at h ⊢
  exact ⟨⟨h.1.2, h.1.1⟩, h.2⟩
theorem sexB_comm (a b : En) : sexB a b = sexB b a := by
  unfold sexB
  rw [Bool.eq_iff_iff]
  simp only [Bool.or_eq_true, beq_iff_eq]
  constructor <;> (intro h; omega)
theorem nameB_comm (a b : En) : nameB a b = nameB b a := by
  have key : ∀ a b : En, nameB a b = true → nameB b a = true := fun a b h => by
    cases hc : nameB b a
    · exfalso
      unfold nameB at h hc
      rw [Bool.not_eq_true'] at h
      rw [Bool.not_eq_false'] at hc
      have : allB (fun i => allB (fun k => !(b.z k == a.z i)) b.nn) a.nn = true := allB_true fun i hi => allB_true fun k hk => by
        have h2 := allB_all (allB_all hc k hk) i hi
        rw [Bool.not_eq_true'] at h2 ⊢
        rw [← h2, Bool.eq_iff_iff]; simp only [beq_iff_eq]; exact eq_comm
      rw [this] at h; cases h
    · rfl
  rw [Bool.eq_iff_iff]; exact ⟨key a b, key b a⟩
theorem movB_turn (f : Fl) (x y : Int) : f.turn.movB x y = f.movB y x := by
  unfold Fl.movB
  congr 2
  funext k
  show (!(f.mt k == x && f.mf k == y)) = _
  rw [Bool.and_comm]
theorem meetL_comm {a b : RL} (ha : Nrm a) (hb : Nrm b) : meetL a b = meetL b a :=
  Nrm.ext (meetL_nrm ha hb) (meetL_nrm hb ha) fun n => by rw [meetL_has ha hb, meetL_has hb ha, Bool.and_comm]
theorem OkF.turn_g {f : Fl} (h : OkF f) : f.turn.g = turnG f.g := by
  funext k i
  show (decide (k < f.nw) && decide (i < f.no) && f.turn.pairB (f.N k) (f.O i)) = (decide (i < f.no) && decide (k < f.nw) && f.pairB (f.O i) (f.N k))
  by_cases hk : k < f.nw <;> by_cases hi : i < f.no
  · rw [decide_eq_true hk, decide_eq_true hi, Bool.true_and, Bool.true_and]
    have e : ageB (f.N k) (f.O i) = ageB (f.O i) (f.N k) := by
      unfold ageB
      rw [meetL_comm (born_has (h.n hk).2.1).1 (born_has (h.o hi).2.1).1]
    have e2 : f.turn.plB (f.N k) (f.O i) = f.plB (f.O i) (f.N k) := by
      unfold Fl.plB
      rw [movB_turn]
      congr 1
      rw [Bool.eq_iff_iff]; simp only [beq_iff_eq]; exact eq_comm
    show (sexB _ _ && nameB _ _ && f.turn.plB _ _ && ageB _ _) = (sexB _ _ && nameB _ _ && f.plB _ _ && ageB _ _)
    rw [e, e2, sexB_comm, nameB_comm]
  · rw [decide_eq_false hi]; simp
  · rw [decide_eq_false hk]; simp
  · rw [decide_eq_false hk, decide_eq_false hi]; rfl
theorem turn_one (g : Nat → Nat → Bool) (i k : Nat) : turnG (offG g (oneS i k)) = offG (turnG g) (oneS k i) := by
  funext a b
  show (g b a && !(decide (b = i) && decide (a = k))) = (g b a && !(decide (a = k) && decide (b = i)))
  rw [Bool.and_comm (decide (b = i))]
theorem turn_two (g : Nat → Nat → Bool) (i k : Nat) : turnG (offG g (twoS i k)) = offG (turnG g) (twoS k i) := by
  funext a b
  show (g b a && !(decide (b = i) || decide (a = k))) = (g b a && !(decide (a = k) || decide (b = i)))
  rw [Bool.or_comm (decide (b = i))]
theorem OkF.turn_most {f : Fl} (h : OkF f) : f.turn.most = f.most := by
  have h1 := h.turn.mx0
  rw [h.turn_g] at h1
  exact h1.uniq (mx_turn h.g8 h.mx0)
theorem OkF.turn_qS {f : Fl} (h : OkF f) (i k : Nat) : f.turn.qS k i = f.qS i k := by
  have h1 := h.turn.mx [((k : Int), (i : Int))]
  rw [SK_one, h.turn_g, ← turn_one] at h1
  have h2 := h.mx [((i : Int), (k : Int))]
  rw [SK_one] at h2
  have e := h1.uniq (mx_turn (offG_8 h.g8) h2)
  unfold Fl.qS Fl.sure
  rw [h.turn_g, h.turn_most, e]; rfl
theorem OkF.turn_qP {f : Fl} (h : OkF f) (i k : Nat) : f.turn.qP k i = f.qP i k := by
  have h1 := h.turn.mx [((k : Int), -1), (-1, (i : Int))]
  rw [SK_two, h.turn_g, ← turn_two] at h1
  have h2 := h.mx [((i : Int), -1), (-1, (k : Int))]
  rw [SK_two] at h2
  have e := h1.uniq (mx_turn (offG_8 h.g8) h2)
  unfold Fl.qP Fl.poss Fl.cost
  rw [h.turn_g, h.turn_most, e]; rfl
theorem dR_nodup (q : Nat → Nat → Bool) (i n : Nat) : (dR q i n).Nodup := by
  unfold dR
  refine List.Pairwise.map _ (R := fun a b => a ≠ b) (fun a b h e => h ?_) (List.nodup_range.filter _)
  injection e with _ e2
  exact Int.ofNat.inj e2
theorem dL_nodup (q : Nat → Nat → Bool) (nw : Nat) : ∀ n, (dL q nw n).Nodup
  | 0 => List.nodup_nil
  | n + 1 => by
    rw [dL_succ]
    refine List.nodup_append.2 ⟨dL_nodup q nw n, dR_nodup q n nw, fun a ha b hb e => ?_⟩
    subst e
    obtain ⟨i, k, e1, hi, _⟩ := dL_mem.1 ha
    obtain ⟨k', e2, _⟩ := dR_mem.1 hb
    rw [e1] at e2
    injection e2 with e3 _
    omega
theorem swap_len {q q' : Nat → Nat → Bool} {no nw : Nat} (h : ∀ i k, q' k i = q i k) : (dL q nw no).length = (dL q' no nw).length := by
  have key : ∀ {q q' : Nat → Nat → Bool} {no nw : Nat}, (∀ i k, q' k i = q i k) → (dL q nw no).length ≤ (dL q' no nw).length := fun {q q' no nw} h =>
    inj_le (fun x : Int × Int => (x.2, x.1)) _ _ (dL_nodup q nw no) (fun x hx => by
      obtain ⟨i, k, rfl, hi, hk, hq⟩ := dL_mem.1 hx
      exact dL_mem.2 ⟨k, i, rfl, hk, hi, by rw [h]; exact hq⟩) fun a b _ _ e => by
        injection e with e1 e2
        exact Prod.ext e2 e1
  exact Nat.le_antisymm (key h) (key fun i k => (h k i).symm)
theorem swap_mem {q q' : Nat → Nat → Bool} {no nw : Nat} (h : ∀ i k, q' k i = q i k) {x : Int × Int} (hx : x ∈ dL q nw no) : (x.2, x.1) ∈ dL q' no nw := by
  obtain ⟨i, k, rfl, hi, hk, hq⟩ := dL_mem.1 hx
  exact dL_mem.2 ⟨k, i, rfl, hk, hi, by rw [h]; exact hq⟩
end Go.Proofs.YtgbdbikjckfgmaaGreat
