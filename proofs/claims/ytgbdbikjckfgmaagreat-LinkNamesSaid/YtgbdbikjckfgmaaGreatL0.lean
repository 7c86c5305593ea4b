/- Link, plain: matchings; the search for a larger one. By hand. | Link, plain: the matching that is found is a largest one; a cover that is as small. By hand. | Link, plain: no matching is larger; a cover of the same size. By hand. | Link, plain: a cover as small as the matching is large. By hand. | Link, plain: the reference's size of a largest matching, set by set. By hand. | Link, plain: the reference's size is that of a largest matching. By hand. | Link, plain: the size of a largest matching, in one notion. By hand. | Link, plain: sure and possible pairs, costs. By hand. | Link, plain: costs are 0 or 1; entries that are always linked. By hand. | Link, plain: the two lists exchanged. By hand. | Link, plain: another order of the entries. By hand. -/
namespace Go.Proofs.YtgbdbikjckfgmaaGreat

def putL {α : Type} (f : Nat → α) (i : Nat) (v : α) : Nat → α := fun n => if n = i then v else f n
theorem putL_same {α : Type} {f : Nat → α} {i : Nat} {v : α} : putL f i v i = v := if_pos rfl
theorem putL_ne {α : Type} {f : Nat → α} {i j : Nat} {v : α} (h : j ≠ i) : putL f i v j = f j := if_neg h
/-- Links: for each new entry its old one, or -1. -/
structure Mt (g : Nat → Nat → Bool) (l : Nat → Int) : Prop where
  ok : ∀ k, l k ≠ -1 → 0 ≤ l k ∧ g (l k).toNat k = true
  inj : ∀ k k', l k = l k' → l k ≠ -1 → k = k'
abbrev St2 := (Nat → Int) × (Nat → Bool)
/-- One old entry tries some new ones. -/
def tryL (g : Nat → Nat → Bool) (rec : (Nat → Int) → (Nat → Bool) → Nat → Bool × St2) (x : Nat) : List Nat → (Nat → Int) → (Nat → Bool) → Bool × St2
  | [], l, s => (false, l, s)
  | k :: ks, l, s =>
    if s k = true ∨ g x k = false then tryL g rec x ks l s
    else if l k = -1 then (true, putL l k (x : Int), putL s k true)
    else if (rec l (putL s k true) (l k).toNat).1 = true then (true, putL (rec l (putL s k true) (l k).toNat).2.1 k (x : Int), (rec l (putL s k true) (l k).toNat).2.2)
    else tryL g rec x ks (rec l (putL s k true) (l k).toNat).2.1 (rec l (putL s k true) (l k).toNat).2.2
def freeL (g : Nat → Nat → Bool) (P : Nat → List Nat) : Nat → (Nat → Int) → (Nat → Bool) → Nat → Bool × St2
  | 0, l, s, _ => (false, l, s)
  | f + 1, l, s, x => tryL g (freeL g P f) x (P x) l s
/-- What a search that fails leaves: it has seen all that can be reached. -/
structure Lost (g : Nat → Nat → Bool) (ks : List Nat) (l : Nat → Int) (s : Nat → Bool) (x : Nat) (r : Bool × St2) : Prop where
  ll : r.2.1 = l
  sub : ∀ k, s k = true → r.2.2 k = true
  nb : ∀ k, k ∈ ks → g x k = true → r.2.2 k = true
  cl : ∀ k, r.2.2 k = true → s k = false → l k ≠ -1 ∧ ∀ k2, g (l k).toNat k2 = true → r.2.2 k2 = true
/-- What a search that ends well leaves. -/
structure Won (g : Nat → Nat → Bool) (l : Nat → Int) (s : Nat → Bool) (x : Nat) (r : Bool × St2) : Prop where
  pl : ∃ p, s p = false ∧ r.2.1 p = x
  keep : ∀ k, s k = true → r.2.1 k = l k
  ok : ∀ k, r.2.1 k ≠ -1 → 0 ≤ r.2.1 k ∧ g (r.2.1 k).toNat k = true
  inj : ∀ k k', r.2.1 k = r.2.1 k' → r.2.1 k ≠ -1 → ¬ (s k = true ∧ r.2.1 k = x) → ¬ (s k' = true ∧ r.2.1 k' = x) → k = k'
  val : ∀ k, r.2.1 k ≠ -1 → r.2.1 k = x ∨ ∃ j, l j = r.2.1 k
  old : ∀ k, l k ≠ -1 → ∃ k', r.2.1 k' = l k ∧ ¬ (s k' = true ∧ r.2.1 k' = x)
  one : ∃ p, l p = -1 ∧ r.2.1 p ≠ -1 ∧ ∀ k, k ≠ p → (r.2.1 k = -1 ↔ l k = -1)
/-- Where x is linked already has been seen. -/
def Place (l : Nat → Int) (s : Nat → Bool) (x : Nat) : Prop := ∀ k, l k = x → s k = true
theorem Won.wide {g : Nat → Nat → Bool} {l : Nat → Int} {s s2 : Nat → Bool} {x : Nat} {r : Bool × St2} (h : Won g l s2 x r) (hs : ∀ k, s k = true → s2 k = true) (hp : Place l s x) : Won g l s x r := by
  have key : ∀ k, ¬ (s k = true ∧ r.2.1 k = x) → ¬ (s2 k = true ∧ r.2.1 k = x) := fun k h1 h2 => h1 ⟨hp k ((h.keep k h2.1).symm.trans h2.2), h2.2⟩
  refine ⟨?_, fun k hk => h.keep k (hs k hk), h.ok, fun k k' e1 e2 e3 e4 => h.inj k k' e1 e2 (key k e3) (key k' e4), h.val, fun k hk => ?_, h.one⟩
  · obtain ⟨p, h1, h2⟩ := h.pl
    refine ⟨p, ?_, h2⟩
    cases e : s p
    · rfl
    · rw [hs p e] at h1; cases h1
  · obtain ⟨k', h1, h2⟩ := h.old k hk
    exact ⟨k', h1, fun h3 => h2 ⟨hs k' h3.1, h3.2⟩⟩
/-- A free new entry is found. -/
theorem won_free {g : Nat → Nat → Bool} {l : Nat → Int} {s : Nat → Bool} {x k : Nat} (hl : Mt g l) (hp : Place l s x) (hs : s k = false) (hg : g x k = true) (h0 : l k = -1) : Won g l s x (true, putL l k (x : Int), putL s k true) := by
  have e : ∀ j, j ≠ k → putL l k (x : Int) j = l j := fun j hj => putL_ne hj
  have ek : putL l k (x : Int) k = x := putL_same
  refine ⟨⟨k, hs, ek⟩, fun j hj => e j (fun h => by subst h; rw [hs] at hj; cases hj), fun j hj => ?_, fun a b hab ha h1 h2 => ?_, fun j hj => ?_, fun j hj => ?_, ⟨k, h0, ?_, fun j hj => ?_⟩⟩
  · by_cases h : j = k
    · subst h
      show 0 ≤ putL l j (x : Int) j ∧ g (putL l j (x : Int) j).toNat j = true
      rw [ek]
      exact ⟨by omega, by simpa using hg⟩
    · simp only [e j h] at hj ⊢
      exact hl.ok j hj
  · simp only at hab ha h1 h2
    by_cases hak : a = k
    · by_cases hbk : b = k
      · omega
      · rw [hak, ek, e b hbk] at hab
        exact absurd ⟨hp b hab.symm, by rw [e b hbk]; exact hab.symm⟩ h2
    · by_cases hbk : b = k
      · rw [hbk, ek, e a hak] at hab
        exact absurd ⟨hp a hab, by rw [e a hak]; exact hab⟩ h1
      · rw [e a hak, e b hbk] at hab
        rw [e a hak] at ha
        exact hl.inj a b hab ha
  · by_cases h : j = k
    · exact .inl (by rw [h]; exact ek)
    · exact .inr ⟨j, (e j h).symm⟩
  · by_cases hx : l j = x
    · exact ⟨k, ek.trans hx.symm, fun h => by rw [hs] at h; cases h.1⟩
    · have hjk : j ≠ k := fun h => hj (by rw [h]; exact h0)
      exact ⟨j, e j hjk, fun h => hx ((e j hjk).symm.trans h.2)⟩
  · show putL l k (x : Int) k ≠ -1
    rw [ek]; omega
  · show putL l k (x : Int) j = -1 ↔ _
    rw [e j hj]
/-- The old entry of a new one has found another one. -/
theorem won_move {g : Nat → Nat → Bool} {l : Nat → Int} {s : Nat → Bool} {x k : Nat} {r : Bool × St2} (hl : Mt g l) (hp : Place l s x) (hs : s k = false) (hg : g x k = true) (h0 : l k ≠ -1) (h : Won g l (putL s k true) (l k).toNat r) : Won g l s x (true, putL r.2.1 k (x : Int), r.2.2) := by
  have hy : (((l k).toNat : Nat) : Int) = l k := by have := (hl.ok k h0).1; omega
  have e : ∀ j, j ≠ k → putL r.2.1 k (x : Int) j = r.2.1 j := fun j hj => putL_ne hj
  have ek : putL r.2.1 k (x : Int) k = x := putL_same
  have hk := h.keep k putL_same
  have hne : l k ≠ x := fun h2 => by have := hp k h2; rw [hs] at this; cases this
  have sk : ∀ j, j ≠ k → (putL s k true) j = s j := fun j hj => putL_ne hj
  -- where the moved entry stands in the new links, but for k
  have ex : ∀ j, j ≠ k → ¬ ((putL s k true) j = true ∧ r.2.1 j = (((l k).toNat : Nat) : Int)) := fun j hj h2 => by
    have h3 := h.keep j h2.1
    rw [h2.2, hy] at h3
    exact hj (hl.inj k j h3 h0).symm
  have noX : ∀ j, j ≠ k → r.2.1 j = x → s j = true := fun j hj hx => by
    have h1 : r.2.1 j ≠ -1 := by rw [hx]; omega
    rcases h.val j h1 with h2 | ⟨i, hi⟩
    · rw [hx, hy] at h2; exact absurd h2.symm hne
    · have hix : l i = x := hi.trans hx
      have hsi := hp i hix
      have hik : i ≠ k := fun h2 => hne (by rw [← h2]; exact hix)
      have h3 := h.keep i (by rw [sk i hik]; exact hsi)
      have := h.inj j i (by rw [hx, h3, hix]) h1 (ex j hj) (ex i hik)
      rw [this]; exact hsi
  refine ⟨⟨k, hs, ek⟩, fun j hj => ?_, fun j hj => ?_, fun a b hab ha h1 h2 => ?_, fun j hj => ?_, fun j hj => ?_, ?_⟩
  · have hjk : j ≠ k := fun h2 => by rw [h2, hs] at hj; cases hj
    show putL r.2.1 k (x : Int) j = l j
    rw [e j hjk]
    exact h.keep j (by rw [sk j hjk]; exact hj)
  · by_cases hjk : j = k
    · subst hjk
      show 0 ≤ putL r.2.1 j (x : Int) j ∧ g (putL r.2.1 j (x : Int) j).toNat j = true
      rw [ek]
      exact ⟨by omega, by simpa using hg⟩
    · simp only [e j hjk] at hj ⊢
      exact h.ok j hj
  · simp only at hab ha h1 h2
    by_cases hak : a = k
    · by_cases hbk : b = k
      · omega
      · rw [hak, ek, e b hbk] at hab
        exact absurd ⟨noX b hbk hab.symm, by rw [e b hbk]; exact hab.symm⟩ h2
    · by_cases hbk : b = k
      · rw [hbk, ek, e a hak] at hab
        exact absurd ⟨noX a hak hab, by rw [e a hak]; exact hab⟩ h1
      · rw [e a hak, e b hbk] at hab
        rw [e a hak] at ha
        exact h.inj a b hab ha (ex a hak) (ex b hbk)
  · by_cases hjk : j = k
    · exact .inl (by rw [hjk]; exact ek)
    · show putL r.2.1 k (x : Int) j = x ∨ _
      rw [e j hjk]
      have hj2 : r.2.1 j ≠ -1 := by
        have : putL r.2.1 k (x : Int) j ≠ -1 := hj
        rw [e j hjk] at this; exact this
      rcases h.val j hj2 with h2 | ⟨i, hi⟩
      · exact .inr ⟨k, by show l k = putL r.2.1 k (x : Int) j; rw [e j hjk, h2, hy]⟩
      · exact .inr ⟨i, by show l i = putL r.2.1 k (x : Int) j; rw [e j hjk]; exact hi⟩
  · by_cases hx : l j = x
    · exact ⟨k, ek.trans hx.symm, fun h2 => by rw [hs] at h2; cases h2.1⟩
    · obtain ⟨k', h1, h2⟩ := h.old j hj
      have hkk : k' ≠ k := fun h3 => by
        subst h3
        exact h2 ⟨putL_same, by rw [hk, hy]⟩
      exact ⟨k', (e k' hkk).trans h1, fun h3 => hx (h1.symm.trans ((e k' hkk).symm.trans h3.2))⟩
  · obtain ⟨p, h1, h2, h3⟩ := h.one
    have hpk : p ≠ k := fun h4 => h0 (by rw [← h4]; exact h1)
    refine ⟨p, h1, by show putL r.2.1 k (x : Int) p ≠ -1; rw [e p hpk]; exact h2, fun j hj => ?_⟩
    show putL r.2.1 k (x : Int) j = -1 ↔ _
    by_cases hjk : j = k
    · subst hjk
      rw [ek]
      constructor
      · intro h4; omega
      · intro h4; exact absurd h4 h0
    · rw [e j hjk]; exact h3 j hj
/-- How many new entries have not been seen. -/
def unseen (nn : Nat) (s : Nat → Bool) : Nat := ((List.range nn).filter fun k => !s k).length
theorem filter_len {p q : Nat → Bool} : ∀ (L : List Nat), (∀ k, p k = true → q k = true) → (L.filter p).length ≤ (L.filter q).length
  | [], _ => Nat.le_refl _
  | k :: L, h => by
    have ih := filter_len L h
    by_cases hp : p k = true
    · rw [List.filter_cons_of_pos hp, List.filter_cons_of_pos (h k hp)]
      simp only [List.length_cons]; omega
    · rw [List.filter_cons_of_neg (by simpa using hp)]
      by_cases hq : q k = true
      · rw [List.filter_cons_of_pos hq]; simp only [List.length_cons]; omega
      · rw [List.filter_cons_of_neg (by simpa using hq)]; exact ih
theorem filter_lt {p q : Nat → Bool} {k : Nat} (h : ∀ k, p k = true → q k = true) (hp : p k = false) (hq : q k = true) : ∀ (L : List Nat), k ∈ L → (L.filter p).length < (L.filter q).length
  | j :: L, hm => by
    have hle := filter_len L h
    by_cases e : k = j
    · subst e
      rw [List.filter_cons_of_neg (by simpa using hp), List.filter_cons_of_pos hq]
      simp only [List.length_cons]; omega
    · have hm2 : k ∈ L := by
        rcases List.mem_cons.1 hm with h1 | h1
        · exact absurd h1 e
        · exact h1
      have ih := filter_lt h hp hq L hm2
      by_cases hj : p j = true
      · rw [List.filter_cons_of_pos hj, List.filter_cons_of_pos (h j hj)]
        simp only [List.length_cons]; omega
      · rw [List.filter_cons_of_neg (by simpa using hj)]
        by_cases hq2 : q j = true
        · rw [List.filter_cons_of_pos hq2]; simp only [List.length_cons]; omega
        · rw [List.filter_cons_of_neg (by simpa using hq2)]; exact ih
theorem unseen_le {nn : Nat} {s s2 : Nat → Bool} (h : ∀ k, s k = true → s2 k = true) : unseen nn s2 ≤ unseen nn s :=
  filter_len _ fun k hk => by
    cases e : s k
    · rfl
    · rw [h k e] at hk; cases hk
theorem unseen_lt {nn k : Nat} {s : Nat → Bool} (hk : k < nn) (hs : s k = false) : unseen nn (putL s k true) < unseen nn s :=
  filter_lt (k := k) (fun j hj => by
    cases e : s j
    · rfl
    · have : putL s k true j = true := by
        unfold putL
        split
        · rfl
        · exact e
      rw [this] at hj; cases hj) (by rw [putL_same]; rfl) (by rw [hs]; rfl) _ (List.mem_range.2 hk)
theorem sub_put {s : Nat → Bool} {k : Nat} : ∀ j, s j = true → putL s k true j = true := fun j hj => by
  unfold putL
  split
  · rfl
  · exact hj
theorem place_of {g : Nat → Nat → Bool} {l : Nat → Int} {s : Nat → Bool} {k : Nat} (hl : Mt g l) (h0 : l k ≠ -1) : Place l (putL s k true) (l k).toNat := fun j hj => by
  have hy : (((l k).toNat : Nat) : Int) = l k := by have := (hl.ok k h0).1; omega
  rw [hy] at hj
  rw [hl.inj k j hj.symm h0]
  exact putL_same
/-- The search. -/
theorem free_spec {g : Nat → Nat → Bool} {P : Nat → List Nat} {nn : Nat} {l : Nat → Int} (hn : ∀ i k, g i k = true → k < nn) (hP : ∀ i k, g i k = true → k ∈ P i) (hl : Mt g l) : ∀ (f : Nat) (s : Nat → Bool) (x : Nat), unseen nn s < f → Place l s x →
    ((freeL g P f l s x).1 = false → Lost g (P x) l s x (freeL g P f l s x)) ∧ ((freeL g P f l s x).1 = true → Won g l s x (freeL g P f l s x))
  | 0, _, _, h, _ => by omega
  | f + 1, s, x, hu, hp => by
    show ((tryL g (freeL g P f) x (P x) l s).1 = false → Lost g (P x) l s x (tryL g (freeL g P f) x (P x) l s)) ∧ ((tryL g (freeL g P f) x (P x) l s).1 = true → Won g l s x (tryL g (freeL g P f) x (P x) l s))
    have main : ∀ (ks : List Nat) (s : Nat → Bool), unseen nn s < f + 1 → Place l s x → ((tryL g (freeL g P f) x ks l s).1 = false → Lost g ks l s x (tryL g (freeL g P f) x ks l s)) ∧ ((tryL g (freeL g P f) x ks l s).1 = true → Won g l s x (tryL g (freeL g P f) x ks l s)) := by
      intro ks
      induction ks with
      | nil =>
        intro s _ _
        exact ⟨fun _ => ⟨rfl, fun k h => h, fun k h => (by cases h), fun k h1 h2 => by
          have h3 : s k = true := h1
          rw [h3] at h2; cases h2⟩, fun h => (by cases h)⟩
      | cons k ks ihk =>
        intro s hu hp
        by_cases c1 : s k = true ∨ g x k = false
        · have e : tryL g (freeL g P f) x (k :: ks) l s = tryL g (freeL g P f) x ks l s := by
            simp only [tryL]; rw [if_pos c1]
          obtain ⟨i1, i2⟩ := ihk s hu hp
          rw [e]
          refine ⟨fun h => ?_, i2⟩
          have q := i1 h
          refine ⟨q.ll, q.sub, fun j hj hg => ?_, q.cl⟩
          rcases List.mem_cons.1 hj with rfl | hj
          · rcases c1 with c1 | c1
            · exact q.sub j c1
            · rw [c1] at hg; cases hg
          · exact q.nb j hj hg
        have hs : s k = false := by
          cases e : s k
          · rfl
          · exact absurd (.inl e) c1
        have hg : g x k = true := by
          cases e : g x k
          · exact absurd (.inr e) c1
          · rfl
        by_cases c2 : l k = -1
        · have e : tryL g (freeL g P f) x (k :: ks) l s = (true, putL l k (x : Int), putL s k true) := by
            simp only [tryL]; rw [if_neg c1, if_pos c2]
          rw [e]
          exact ⟨fun h => (by cases h), fun _ => won_free hl hp hs hg c2⟩
        have hu1 := unseen_lt (hn x k hg) hs
        obtain ⟨j1, j2⟩ := free_spec hn hP hl f (putL s k true) (l k).toNat (by omega) (place_of hl c2)
        by_cases c3 : (freeL g P f l (putL s k true) (l k).toNat).1 = true
        · have e : tryL g (freeL g P f) x (k :: ks) l s = (true, putL (freeL g P f l (putL s k true) (l k).toNat).2.1 k (x : Int), (freeL g P f l (putL s k true) (l k).toNat).2.2) := by
            simp only [tryL]; rw [if_neg c1, if_neg c2, if_pos c3]
          rw [e]
          exact ⟨fun h => (by cases h), fun _ => won_move hl hp hs hg c2 (j2 c3)⟩
        · have lost := j1 (by simpa using c3)
          have e : tryL g (freeL g P f) x (k :: ks) l s = tryL g (freeL g P f) x ks l (freeL g P f l (putL s k true) (l k).toNat).2.2 := by
            simp only [tryL]; rw [if_neg c1, if_neg c2, if_neg c3, lost.ll]
          generalize freeL g P f l (putL s k true) (l k).toNat = r at *
          have hsub : ∀ j, s j = true → r.2.2 j = true := fun j hj => lost.sub j (sub_put j hj)
          have hrk : r.2.2 k = true := lost.sub k putL_same
          have hu2 := unseen_le (nn := nn) hsub
          obtain ⟨i1, i2⟩ := ihk r.2.2 (by omega) (fun j hj => hsub j (hp j hj))
          rw [e]
          refine ⟨fun h => ?_, fun h => (i2 h).wide hsub hp⟩
          have q := i1 h
          refine ⟨q.ll, fun j hj => q.sub j (hsub j hj), fun j hj hgj => ?_, fun j h1 h2 => ?_⟩
          · rcases List.mem_cons.1 hj with rfl | hj
            · exact q.sub j hrk
            · exact q.nb j hj hgj
          · cases hr : r.2.2 j
            · exact q.cl j h1 hr
            · by_cases hjk : j = k
              · subst hjk
                exact ⟨c2, fun k2 hk2 => q.sub k2 (lost.nb k2 (hP _ _ hk2) hk2)⟩
              · obtain ⟨a1, a2⟩ := lost.cl j hr (by unfold putL; rw [if_neg hjk]; exact h2)
                exact ⟨a1, fun k2 hk2 => q.sub k2 (a2 k2 hk2)⟩
    exact main (P x) s hu hp
end Go.Proofs.YtgbdbikjckfgmaaGreat

namespace Go.Proofs.YtgbdbikjckfgmaaGreat

/-- New entries whose old ones reach no others. -/
def Dead (g : Nat → Nat → Bool) (l : Nat → Int) (D : Nat → Bool) : Prop := ∀ k, D k = true → l k ≠ -1 ∧ ∀ k2, g (l k).toNat k2 = true → D k2 = true
theorem free_same {g : Nat → Nat → Bool} {P : Nat → List Nat} : ∀ (f : Nat) (l : Nat → Int) (s : Nat → Bool) (x : Nat), (freeL g P f l s x).1 = false → (freeL g P f l s x).2.1 = l
  | 0, _, _, _, _ => rfl
  | f + 1, l, s, x, h => by
    have main : ∀ (ks : List Nat) (l : Nat → Int) (s : Nat → Bool), (tryL g (freeL g P f) x ks l s).1 = false → (tryL g (freeL g P f) x ks l s).2.1 = l := by
      intro ks
      induction ks with
      | nil => intro l s _; rfl
      | cons k ks ih =>
        intro l s h
        simp only [tryL] at h ⊢
        by_cases c1 : s k = true ∨ g x k = false
        · rw [if_pos c1] at h ⊢; exact ih l s h
        rw [if_neg c1] at h ⊢
        by_cases c2 : l k = -1
        · rw [if_pos c2] at h; cases h
        rw [if_neg c2] at h ⊢
        by_cases c3 : (freeL g P f l (putL s k true) (l k).toNat).1 = true
        · rw [if_pos c3] at h; cases h
        rw [if_neg c3] at h ⊢
        have e := free_same f l (putL s k true) (l k).toNat (by simpa using c3)
        rw [ih _ _ h, e]
    exact main (P x) l s h
theorem free_dead {g : Nat → Nat → Bool} {P : Nat → List Nat} {l : Nat → Int} {D : Nat → Bool} (hD : Dead g l D) : ∀ (f : Nat) (s : Nat → Bool) (x : Nat), (∀ k, g x k = true → D k = true) → (freeL g P f l s x).1 = false
  | 0, _, _, _ => rfl
  | f + 1, s, x, hx => by
    have main : ∀ (ks : List Nat) (s : Nat → Bool), (tryL g (freeL g P f) x ks l s).1 = false := by
      intro ks
      induction ks with
      | nil => intro s; rfl
      | cons k ks ih =>
        intro s
        simp only [tryL]
        by_cases c1 : s k = true ∨ g x k = false
        · rw [if_pos c1]; exact ih s
        rw [if_neg c1]
        have hk : D k = true := hx k (by
          cases e : g x k
          · exact absurd (.inr e) c1
          · rfl)
        obtain ⟨h1, h2⟩ := hD k hk
        have e := free_dead (P := P) hD f (putL s k true) (l k).toNat h2
        rw [if_neg h1, if_neg (by rw [e]; simp), free_same f l _ _ e]
        exact ih _
    exact main (P x) s
theorem won_dead {g : Nat → Nat → Bool} {P : Nat → List Nat} {l : Nat → Int} {D : Nat → Bool} (hD : Dead g l D) : ∀ (f : Nat) (s : Nat → Bool) (x : Nat), (freeL g P f l s x).1 = true → ∀ k, D k = true → (freeL g P f l s x).2.1 k = l k
  | 0, _, _, h => by cases h
  | f + 1, s, x, h => by
    have main : ∀ (ks : List Nat) (s : Nat → Bool), (tryL g (freeL g P f) x ks l s).1 = true → ∀ k, D k = true → (tryL g (freeL g P f) x ks l s).2.1 k = l k := by
      intro ks
      induction ks with
      | nil => intro s h; cases h
      | cons k ks ih =>
        intro s h j hj
        simp only [tryL] at h ⊢
        by_cases c1 : s k = true ∨ g x k = false
        · rw [if_pos c1] at h ⊢; exact ih s h j hj
        rw [if_neg c1] at h ⊢
        by_cases c2 : l k = -1
        · rw [if_pos c2]
          exact putL_ne (fun e => (hD j hj).1 (by rw [e]; exact c2))
        rw [if_neg c2] at h ⊢
        by_cases c3 : (freeL g P f l (putL s k true) (l k).toNat).1 = true
        · rw [if_pos c3]
          have hjk : j ≠ k := fun e => by
            subst e
            rw [free_dead (P := P) hD f (putL s j true) (l j).toNat (hD j hj).2] at c3
            cases c3
          show putL _ k (x : Int) j = l j
          rw [putL_ne hjk]
          exact won_dead hD f _ _ c3 j hj
        · rw [if_neg c3] at h ⊢
          have e := free_same f l (putL s k true) (l k).toNat (by simpa using c3)
          rw [e] at h ⊢
          exact ih _ h j hj
    exact main (P x) s h
/-- How many new entries are linked. -/
def cntL (nn : Nat) (l : Nat → Int) : Nat := ((List.range nn).filter fun k => decide (l k ≠ -1)).length
theorem cnt_one {l l' : Nat → Int} {p : Nat} (h1 : l p = -1) (h2 : l' p ≠ -1) (h3 : ∀ k, k ≠ p → (l' k = -1 ↔ l k = -1)) : ∀ nn, cntL nn l' = cntL nn l + (if p < nn then 1 else 0)
  | 0 => rfl
  | nn + 1 => by
    have ih := cnt_one h1 h2 h3 nn
    unfold cntL at *
    rw [List.range_succ, List.filter_append, List.filter_append, List.length_append, List.length_append, ih]
    by_cases e : nn = p
    · subst e
      have n1 : ¬ nn < nn := Nat.lt_irrefl _
      have n2 : nn < nn + 1 := Nat.lt_succ_self _
      simp [h1, h2, n1, n2]
    · have h := h3 nn e
      have ht : (decide (l' nn ≠ -1)) = decide (l nn ≠ -1) := by
        rw [Bool.eq_iff_iff, decide_eq_true_eq, decide_eq_true_eq]
        exact not_congr h
      simp only [List.filter_cons, List.filter_nil, ht]
      have hq : (p < nn + 1) = (p < nn) := propext ⟨fun _ => by omega, fun _ => by omega⟩
      simp only [hq]
      omega
/-- The matching that is found, and its size. -/
def matchL (g : Nat → Nat → Bool) (P : Nat → List Nat) (F : Nat) : Nat → (Nat → Int) × Nat
  | 0 => (fun _ => -1, 0)
  | i + 1 => ((freeL g P F (matchL g P F i).1 (fun _ => false) i).2.1, if (freeL g P F (matchL g P F i).1 (fun _ => false) i).1 = true then (matchL g P F i).2 + 1 else (matchL g P F i).2)
structure Best (g : Nat → Nat → Bool) (nn i : Nat) (l : Nat → Int) (n : Nat) (D : Nat → Bool) : Prop where
  mt : Mt g l
  cnt : cntL nn l = n
  dead : Dead g l D
  low : ∀ k, l k ≠ -1 → (l k).toNat < i
  all : ∀ j, j < i → (∃ k, l k = j) ∨ ∀ k, g j k = true → D k = true
theorem match_best {g : Nat → Nat → Bool} {P : Nat → List Nat} {nn F : Nat} (hn : ∀ i k, g i k = true → k < nn) (hP : ∀ i k, g i k = true → k ∈ P i) (hF : nn < F) : ∀ i, ∃ D, Best g nn i (matchL g P F i).1 (matchL g P F i).2 D
  | 0 => ⟨fun _ => false, ⟨⟨fun k h => absurd rfl h, fun k k' _ h => absurd rfl h⟩, (by unfold cntL; simp [matchL]), fun k h => (by cases h), fun k h => absurd rfl h, fun j h => absurd h (Nat.not_lt_zero j)⟩⟩
  | i + 1 => by
    obtain ⟨D, b⟩ := match_best hn hP hF i
    have hu : unseen nn (fun _ => false) < F := by
      have : unseen nn (fun _ => false) ≤ nn := Nat.le_trans (List.length_filter_le _ _) (by simp)
      omega
    have hp : Place (matchL g P F i).1 (fun _ => false) i := fun k hk => by
      have h1 : (matchL g P F i).1 k ≠ -1 := by rw [hk]; omega
      have := b.low k h1
      rw [hk] at this
      simp at this
    obtain ⟨f1, f2⟩ := free_spec hn hP b.mt F (fun _ => false) i hu hp
    have wd := won_dead (P := P) b.dead F (fun _ => false) i
    have e1 : (matchL g P F (i + 1)).1 = (freeL g P F (matchL g P F i).1 (fun _ => false) i).2.1 := rfl
    have e2 : (matchL g P F (i + 1)).2 = if (freeL g P F (matchL g P F i).1 (fun _ => false) i).1 = true then (matchL g P F i).2 + 1 else (matchL g P F i).2 := rfl
    rw [e1, e2]
    generalize (matchL g P F i).1 = l at *
    generalize (matchL g P F i).2 = n at *
    generalize freeL g P F l (fun _ => false) i = r at *
    by_cases hr : r.1 = true
    · have w := f2 hr
      have wd := wd hr
      rw [if_pos hr]
      refine ⟨D, ⟨⟨w.ok, fun k k' h1 h2 => w.inj k k' h1 h2 (fun h => by cases h.1) (fun h => by cases h.1)⟩, ?_, fun k hk => ?_, fun k hk => ?_, fun j hj => ?_⟩⟩
      · obtain ⟨p, p1, p2, p3⟩ := w.one
        rw [cnt_one p1 p2 p3 nn, b.cnt, if_pos (hn _ _ (w.ok p p2).2)]
      · rw [wd k hk]; exact b.dead k hk
      · rcases w.val k hk with h | ⟨j, h⟩
        · rw [h]; simp
        · rw [← h]
          have := b.low j (by rw [h]; exact hk)
          omega
      · rcases Nat.lt_succ_iff_lt_or_eq.1 hj with hj | rfl
        · rcases b.all j hj with ⟨k, h⟩ | h
          · obtain ⟨k', h1, _⟩ := w.old k (by rw [h]; omega)
            exact .inl ⟨k', h1.trans h⟩
          · exact .inr h
        · obtain ⟨p, _, h⟩ := w.pl
          exact .inl ⟨p, h⟩
    · have q := f1 (by simpa using hr)
      rw [if_neg hr, q.ll]
      refine ⟨fun k => D k || r.2.2 k, ⟨b.mt, b.cnt, fun k hk => ?_, fun k hk => ?_, fun j hj => ?_⟩⟩
      · simp only [Bool.or_eq_true] at hk ⊢
        cases hd : D k
        · rw [hd] at hk
          have hk2 : r.2.2 k = true := by simpa using hk
          obtain ⟨a1, a2⟩ := q.cl k hk2 rfl
          exact ⟨a1, fun k2 hk2 => .inr (a2 k2 hk2)⟩
        · obtain ⟨a1, a2⟩ := b.dead k hd
          exact ⟨a1, fun k2 hk2 => .inl (a2 k2 hk2)⟩
      · have := b.low k hk; omega
      · rcases Nat.lt_succ_iff_lt_or_eq.1 hj with hj | rfl
        · rcases b.all j hj with h | h
          · exact .inl h
          · exact .inr fun k hk => by simp only [Bool.or_eq_true]; exact .inl (h k hk)
        · exact .inr fun k hk => by simp only [Bool.or_eq_true]; exact .inr (q.nb k (hP _ _ hk) hk)
end Go.Proofs.YtgbdbikjckfgmaaGreat

namespace Go.Proofs.YtgbdbikjckfgmaaGreat

theorem nodup_le {α : Type} [DecidableEq α] : ∀ (L M : List α), L.Nodup → (∀ a, a ∈ L → a ∈ M) → L.length ≤ M.length
  | [], _, _, _ => Nat.zero_le _
  | a :: L, M, hn, hs => by
    obtain ⟨h1, h2⟩ := List.nodup_cons.1 hn
    have ha : a ∈ M := hs a (List.mem_cons_self ..)
    have ih := nodup_le L (M.erase a) h2 (fun b hb => (List.mem_erase_of_ne (fun e : b = a => h1 (e ▸ hb))).2 (hs b (List.mem_cons_of_mem _ hb)))
    rw [List.length_erase_of_mem ha] at ih
    have : 0 < M.length := List.length_pos_of_mem ha
    simp only [List.length_cons]; omega
theorem inj_le {α β : Type} [DecidableEq β] (f : α → β) (L : List α) (M : List β) (hn : L.Nodup) (hs : ∀ a, a ∈ L → f a ∈ M) (hi : ∀ a b, a ∈ L → b ∈ L → f a = f b → a = b) : L.length ≤ M.length := by
  have key : ∀ (L : List α), L.Nodup → (∀ a b, a ∈ L → b ∈ L → f a = f b → a = b) → (L.map f).Nodup := by
    intro L
    induction L with
    | nil => intro _ _; exact List.nodup_nil
    | cons a L ih =>
      intro hn hi
      obtain ⟨h1, h2⟩ := List.nodup_cons.1 hn
      rw [List.map_cons]
      refine List.nodup_cons.2 ⟨fun h => ?_, ih h2 fun x y hx hy => hi x y (List.mem_cons_of_mem _ hx) (List.mem_cons_of_mem _ hy)⟩
      obtain ⟨b, hb, e⟩ := List.mem_map.1 h
      have := hi b a (List.mem_cons_of_mem _ hb) (List.mem_cons_self ..) e
      exact h1 (this ▸ hb)
  have := nodup_le (L.map f) M (key L hn hi) (fun b hb => by
    obtain ⟨a, ha, e⟩ := List.mem_map.1 hb
    exact e ▸ hs a ha)
  rwa [List.length_map] at this
theorem range_nodup (n : Nat) : (List.range n).Nodup := List.nodup_range
/-- No matching is larger. -/
theorem Best.most {g : Nat → Nat → Bool} {nn no n : Nat} {l l2 : Nat → Int} {D : Nat → Bool} (b : Best g nn no l n D) (hn : ∀ i k, g i k = true → k < nn) (ho : ∀ i k, g i k = true → i < no) (h2 : Mt g l2) : cntL nn l2 ≤ n := by
  have ex : ∀ k, ∃ m, l2 k ≠ -1 → l m ≠ -1 ∧ ((D k = true ∧ m = k) ∨ (D k = false ∧ D m = false ∧ l m = l2 k)) := by
    intro k
    by_cases hk : l2 k = -1
    · exact ⟨0, fun h => absurd hk h⟩
    obtain ⟨a1, a2⟩ := h2.ok k hk
    cases hd : D k
    · have ej : (((l2 k).toNat : Nat) : Int) = l2 k := by omega
      rcases b.all _ (ho _ _ a2) with ⟨m, hm⟩ | h
      · refine ⟨m, fun _ => ⟨by rw [hm]; omega, .inr ⟨rfl, ?_, hm.trans ej⟩⟩⟩
        cases e : D m
        · rfl
        · have := (b.dead m e).2 k (by rw [hm, Int.toNat_natCast]; exact a2)
          rw [hd] at this; cases this
      · have := h k a2
        rw [hd] at this; cases this
    · exact ⟨k, fun _ => ⟨(b.dead k hd).1, .inl ⟨rfl, rfl⟩⟩⟩
  obtain ⟨f, hf⟩ := Classical.axiomOfChoice ex
  rw [← b.cnt]
  unfold cntL
  have mem : ∀ (q : Nat → Int) k, k ∈ (List.range nn).filter (fun k => decide (q k ≠ -1)) ↔ k < nn ∧ q k ≠ -1 := by
    intro q k
    rw [List.mem_filter, List.mem_range, decide_eq_true_eq]
  refine inj_le f _ _ ((range_nodup nn).filter _) (fun k hk => ?_) (fun x y hx hy e => ?_)
  · obtain ⟨_, k2⟩ := (mem l2 k).1 hk
    obtain ⟨h1, _⟩ := hf k k2
    exact (mem l _).2 ⟨hn _ _ (b.mt.ok _ h1).2, h1⟩
  · obtain ⟨_, x2⟩ := (mem l2 x).1 hx
    obtain ⟨_, y2⟩ := (mem l2 y).1 hy
    rcases (hf x x2).2 with ⟨p1, p2⟩ | ⟨p1, p2, p3⟩
    · rcases (hf y y2).2 with ⟨q1, q2⟩ | ⟨q1, q2, q3⟩
      · rw [← p2, ← q2]; exact e
      · rw [← e, p2] at q2; rw [p1] at q2; cases q2
    · rcases (hf y y2).2 with ⟨q1, q2⟩ | ⟨q1, q2, q3⟩
      · rw [e, q2] at p2; rw [q1] at p2; cases p2
      · exact h2.inj x y (by rw [← p3, ← q3, e]) x2
end Go.Proofs.YtgbdbikjckfgmaaGreat

namespace Go.Proofs.YtgbdbikjckfgmaaGreat

theorem filter_split {p q r : Nat → Bool} (h1 : ∀ k, q k = true → p k = true) (h2 : ∀ k, r k = (p k && !q k)) : ∀ (L : List Nat), (L.filter q).length + (L.filter r).length = (L.filter p).length
  | [] => rfl
  | k :: L => by
    have ih := filter_split h1 h2 L
    have hr := h2 k
    have hq := h1 k
    cases ep : p k <;> cases eq : q k <;> simp only [ep, eq, List.filter_cons] at hr hq ⊢ <;> simp [hr] at hq ⊢ <;> omega
/-- What the search from the old entries without a link leaves. -/
structure Koe (g : Nat → Nat → Bool) (no : Nat) (l : Nat → Int) (R M : Nat → Bool) : Prop where
  base : ∀ i, i < no → (∀ k, l k ≠ i) → R i = true
  met : ∀ i k, R i = true → g i k = true → M k = true
  next : ∀ k, M k = true → l k ≠ -1 → R (l k).toNat = true
theorem Best.cover {g : Nat → Nat → Bool} {nn no n : Nat} {l : Nat → Int} {D R M : Nat → Bool} (b : Best g nn no l n D) (hn : ∀ i k, g i k = true → k < nn) (ko : Koe g no l R M) (hD : ∀ i k, R i = true → g i k = true → D k = true) (hM : ∀ k, M k = true → ∃ i, R i = true ∧ g i k = true) :
    ((List.range no).filter fun i => !R i).length + ((List.range nn).filter M).length = n := by
  have lk : ∀ k, M k = true → l k ≠ -1 := fun k hk => by
    obtain ⟨i, h1, h2⟩ := hM k hk
    exact (b.dead k (hD i k h1 h2)).1
  have e : ((List.range no).filter fun i => !R i).length = ((List.range nn).filter fun k => decide (l k ≠ -1) && !M k).length := by
    apply Nat.le_antisymm
    · have ex : ∀ i, ∃ k, R i = false → i < no → l k = i := fun i => by
        by_cases h : ∃ k, l k = i
        · obtain ⟨k, h⟩ := h; exact ⟨k, fun _ _ => h⟩
        · refine ⟨0, fun h1 h2 => ?_⟩
          rw [ko.base i h2 fun k hk => h ⟨k, hk⟩] at h1; cases h1
      obtain ⟨f, hf⟩ := Classical.axiomOfChoice ex
      have un : ∀ i, i ∈ (List.range no).filter (fun i => !R i) → R i = false ∧ i < no := fun i hi => by
        rw [List.mem_filter, List.mem_range] at hi
        exact ⟨by simpa using hi.2, hi.1⟩
      refine inj_le f _ _ ((range_nodup no).filter _) (fun i hi => ?_) (fun x y hx hy e => ?_)
      · obtain ⟨h1, h2⟩ := un i hi
        have h3 := hf i h1 h2
        have h4 : l (f i) ≠ -1 := by rw [h3]; omega
        rw [List.mem_filter, List.mem_range]
        refine ⟨hn _ _ (b.mt.ok _ h4).2, ?_⟩
        have h5 : M (f i) = false := by
          cases em : M (f i)
          · rfl
          · have := ko.next _ em h4
            rw [h3, Int.toNat_natCast, h1] at this; cases this
        rw [h5]; simpa using h4
      · have h1 := hf x (un x hx).1 (un x hx).2
        have h2 := hf y (un y hy).1 (un y hy).2
        rw [e, h2] at h1
        omega
    · have un : ∀ k, k ∈ (List.range nn).filter (fun k => decide (l k ≠ -1) && !M k) → l k ≠ -1 ∧ M k = false := fun k hk => by
        rw [List.mem_filter] at hk
        simpa using hk.2
      refine inj_le (fun k => (l k).toNat) _ _ ((range_nodup nn).filter _) (fun k hk => ?_) (fun x y hx hy e => ?_)
      · obtain ⟨h1, h2⟩ := un k hk
        rw [List.mem_filter, List.mem_range]
        refine ⟨b.low k h1, ?_⟩
        cases er : R (l k).toNat
        · rfl
        · rw [ko.met _ k er (b.mt.ok k h1).2] at h2; cases h2
      · obtain ⟨h1, _⟩ := un x hx
        obtain ⟨h2, _⟩ := un y hy
        have p1 := (b.mt.ok x h1).1
        have p2 := (b.mt.ok y h2).1
        have e2 : (l x).toNat = (l y).toNat := e
        exact b.mt.inj x y (by omega) h1
  have s := filter_split (p := fun k => decide (l k ≠ -1)) (q := M) (r := fun k => decide (l k ≠ -1) && !M k) (fun k hk => by simpa using lk k hk) (fun _ => rfl) (List.range nn)
  have c := b.cnt
  unfold cntL at c
  omega
end Go.Proofs.YtgbdbikjckfgmaaGreat

namespace Go.Proofs.YtgbdbikjckfgmaaGreat

def stepK (g : Nat → Nat → Bool) (i : Nat) (sz : Nat → Int) (b : Nat) : Nat → (Nat → Int) → (Nat → Int)
  | 0, nx => nx
  | k + 1, nx => if g i k = true ∧ b.testBit k = false then putL (stepK g i sz b k nx) (b ||| 2 ^ k) (max (stepK g i sz b k nx (b ||| 2 ^ k)) (sz b + 1)) else stepK g i sz b k nx
def stepB (g : Nat → Nat → Bool) (i : Nat) (sz : Nat → Int) : Nat → (Nat → Int)
  | 0 => sz
  | b + 1 => stepK g i sz b 8 (stepB g i sz b)
def szL (g : Nat → Nat → Bool) : Nat → (Nat → Int)
  | 0 => putL (fun _ => -100) 0 0
  | i + 1 => stepB g i (szL g i) 256
def bestL (f : Nat → Int) : Nat → Int
  | 0 => 0
  | b + 1 => max (bestL f b) (f b)
theorem stepK_ge {g : Nat → Nat → Bool} {i : Nat} {sz : Nat → Int} {b : Nat} {nx : Nat → Int} : ∀ (n x : Nat), nx x ≤ stepK g i sz b n nx x
  | 0, _ => Int.le_refl _
  | n + 1, x => by
    have ih := stepK_ge (g := g) (i := i) (sz := sz) (b := b) (nx := nx) n x
    simp only [stepK]
    split
    · by_cases e : x = b ||| 2 ^ n
      · rw [e, putL_same]; rw [e] at ih; omega
      · rw [putL_ne e]; exact ih
    · exact ih
theorem stepK_hit {g : Nat → Nat → Bool} {i : Nat} {sz : Nat → Int} {b : Nat} {nx : Nat → Int} : ∀ (n k : Nat), k < n → g i k = true → b.testBit k = false → sz b + 1 ≤ stepK g i sz b n nx (b ||| 2 ^ k)
  | n + 1, k, hk, h1, h2 => by
    simp only [stepK]
    by_cases e : k = n
    · subst e
      rw [if_pos ⟨h1, h2⟩, putL_same]; omega
    · have ih := stepK_hit (g := g) (i := i) (sz := sz) (b := b) (nx := nx) n k (by omega) h1 h2
      split
      · by_cases e2 : b ||| 2 ^ k = b ||| 2 ^ n
        · rw [← e2, putL_same]; omega
        · rw [putL_ne e2]; exact ih
      · exact ih
theorem stepK_or {g : Nat → Nat → Bool} {i : Nat} {sz : Nat → Int} {b : Nat} {nx : Nat → Int} : ∀ (n x : Nat), stepK g i sz b n nx x = nx x ∨ ∃ k, k < n ∧ g i k = true ∧ b.testBit k = false ∧ x = b ||| 2 ^ k ∧ stepK g i sz b n nx x = sz b + 1
  | 0, _ => .inl rfl
  | n + 1, x => by
    have ih := stepK_or (g := g) (i := i) (sz := sz) (b := b) (nx := nx) n x
    have lift : (stepK g i sz b n nx x = nx x ∨ ∃ k, k < n + 1 ∧ g i k = true ∧ b.testBit k = false ∧ x = b ||| 2 ^ k ∧ stepK g i sz b n nx x = sz b + 1) := by
      rcases ih with h | ⟨k, h1, h2⟩
      · exact .inl h
      · exact .inr ⟨k, by omega, h2⟩
    simp only [stepK]
    split
    · rename_i hc
      by_cases e : x = b ||| 2 ^ n
      · by_cases hm : sz b + 1 ≤ stepK g i sz b n nx x
        · have : putL (stepK g i sz b n nx) (b ||| 2 ^ n) (max (stepK g i sz b n nx (b ||| 2 ^ n)) (sz b + 1)) x = stepK g i sz b n nx x := by
            rw [e, putL_same]; rw [e] at hm; omega
          rw [this]; exact lift
        · refine .inr ⟨n, by omega, hc.1, hc.2, e, ?_⟩
          rw [e, putL_same]; rw [e] at hm; omega
      · rw [putL_ne e]; exact lift
    · exact lift
theorem stepB_ge {g : Nat → Nat → Bool} {i : Nat} {sz : Nat → Int} : ∀ (n x : Nat), sz x ≤ stepB g i sz n x
  | 0, _ => Int.le_refl _
  | n + 1, x => Int.le_trans (stepB_ge n x) (stepK_ge 8 x)
theorem stepB_hit {g : Nat → Nat → Bool} {i : Nat} {sz : Nat → Int} : ∀ (n b k : Nat), b < n → k < 8 → g i k = true → b.testBit k = false → sz b + 1 ≤ stepB g i sz n (b ||| 2 ^ k)
  | n + 1, b, k, hb, hk, h1, h2 => by
    by_cases e : b = n
    · subst e; exact stepK_hit 8 k hk h1 h2
    · exact Int.le_trans (stepB_hit n b k (by omega) hk h1 h2) (stepK_ge 8 _)
theorem stepB_or {g : Nat → Nat → Bool} {i : Nat} {sz : Nat → Int} : ∀ (n x : Nat), stepB g i sz n x = sz x ∨ ∃ b k, b < n ∧ k < 8 ∧ g i k = true ∧ b.testBit k = false ∧ x = b ||| 2 ^ k ∧ stepB g i sz n x = sz b + 1
  | 0, _ => .inl rfl
  | n + 1, x => by
    rcases stepK_or (g := g) (i := i) (sz := sz) (b := n) (nx := stepB g i sz n) 8 x with h | ⟨k, h1, h2, h3, h4, h5⟩
    · rcases stepB_or (g := g) (i := i) (sz := sz) n x with h6 | ⟨b, k, h7, h8⟩
      · exact .inl (h.trans h6)
      · exact .inr ⟨b, k, by omega, h8.1, h8.2.1, h8.2.2.1, h8.2.2.2.1, h.trans h8.2.2.2.2⟩
    · exact .inr ⟨n, k, by omega, h1, h2, h3, h4, h5⟩
theorem bestL_ge {f : Nat → Int} : ∀ (n b : Nat), b < n → f b ≤ bestL f n
  | n + 1, b, h => by
    simp only [bestL]
    by_cases e : b = n
    · subst e; omega
    · have := bestL_ge (f := f) n b (by omega); omega
theorem bestL_or {f : Nat → Int} : ∀ n, bestL f n = 0 ∨ ∃ b, b < n ∧ bestL f n = f b
  | 0 => .inl rfl
  | n + 1 => by
    simp only [bestL]
    by_cases h : f n ≤ bestL f n
    · have e : max (bestL f n) (f n) = bestL f n := by omega
      rw [e]
      rcases bestL_or (f := f) n with h1 | ⟨b, h1, h2⟩
      · exact .inl h1
      · exact .inr ⟨b, by omega, h2⟩
    · exact .inr ⟨n, by omega, by omega⟩
end Go.Proofs.YtgbdbikjckfgmaaGreat

namespace Go.Proofs.YtgbdbikjckfgmaaGreat

theorem or_bit (b k j : Nat) : (b ||| 2 ^ k).testBit j = (b.testBit j || decide (k = j)) := by
  rw [Nat.testBit_or, Nat.testBit_two_pow]
theorem sz_sound {g : Nat → Nat → Bool} : ∀ (i b : Nat), szL g i b ≤ -100 + i ∨ ∃ l, Mt g l ∧ (∀ k, l k ≠ -1 → (l k).toNat < i) ∧ (∀ k, b.testBit k = true ↔ l k ≠ -1) ∧ (∀ k, l k ≠ -1 → k < 8) ∧ szL g i b = (cntL 8 l : Int)
  | 0, b => by
    by_cases h : b = 0
    · subst h
      refine .inr ⟨fun _ => -1, ⟨fun k h => absurd rfl h, fun k k' _ h => absurd rfl h⟩, fun k h => absurd rfl h, fun k => by simp, fun k h => absurd rfl h, ?_⟩
      show putL (fun _ => (-100 : Int)) 0 0 0 = _
      rw [putL_same]; rfl
    · left
      show putL (fun _ => (-100 : Int)) 0 0 b ≤ _
      rw [putL_ne h]; omega
  | i + 1, x => by
    have e0 : szL g (i + 1) x = stepB g i (szL g i) 256 x := rfl
    rw [e0]
    rcases stepB_or (g := g) (i := i) (sz := szL g i) 256 x with h | ⟨b, k, h1, h2, h3, h4, h5, h6⟩
    · rw [h]
      rcases sz_sound (g := g) i x with h | ⟨l, a1, a2, a3, a4, a5⟩
      · left; omega
      · exact .inr ⟨l, a1, fun k hk => Nat.lt_succ_of_lt (a2 k hk), a3, a4, a5⟩
    · rw [h6]
      rcases sz_sound (g := g) i b with h | ⟨l, a1, a2, a3, a4, a5⟩
      · left; omega
      · right
        have hk : l k = -1 := by
          apply Classical.byContradiction
          intro h
          rw [(a3 k).2 h] at h4; cases h4
        have e : ∀ j, j ≠ k → putL l k (i : Int) j = l j := fun j hj => putL_ne hj
        have ek : putL l k (i : Int) k = i := putL_same
        have ni : ∀ j, l j ≠ i := fun j hj => by
          have h1 : l j ≠ -1 := by rw [hj]; omega
          have := a2 j h1
          rw [hj, Int.toNat_natCast] at this; omega
        refine ⟨putL l k (i : Int), ⟨fun j hj => ?_, fun p q hpq hp => ?_⟩, fun j hj => ?_, fun j => ?_, fun j hj => ?_, ?_⟩
        · by_cases h : j = k
          · subst h; rw [ek, Int.toNat_natCast]; exact ⟨by omega, h3⟩
          · rw [e j h] at hj ⊢; exact a1.ok j hj
        · by_cases c1 : p = k <;> by_cases c2 : q = k
          · omega
          · rw [c1, ek, e q c2] at hpq; exact absurd hpq.symm (ni q)
          · rw [c2, ek, e p c1] at hpq; exact absurd hpq (ni p)
          · rw [e p c1, e q c2] at hpq; rw [e p c1] at hp; exact a1.inj p q hpq hp
        · by_cases h : j = k
          · subst h; rw [ek, Int.toNat_natCast]; omega
          · rw [e j h] at hj ⊢; have := a2 j hj; omega
        · rw [h5, or_bit]
          by_cases h : j = k
          · subst h; rw [ek]; simp
          · rw [e j h, ← a3 j]; simp [Ne.symm h]
        · by_cases h : j = k
          · subst h; exact h2
          · rw [e j h] at hj; exact a4 j hj
        · have := cnt_one (l := l) (l' := putL l k (i : Int)) hk (by rw [ek]; omega) (fun j hj => by rw [e j hj]) 8
          rw [if_pos h2] at this
          rw [a5, this]; omega
theorem sz_complete {g : Nat → Nat → Bool} : ∀ (i : Nat) (l : Nat → Int) (b : Nat), Mt g l → (∀ k, l k ≠ -1 → (l k).toNat < i) → (∀ k, b.testBit k = true ↔ l k ≠ -1) → b < 256 → (∀ k, l k ≠ -1 → k < 8) → (cntL 8 l : Int) ≤ szL g i b
  | 0, l, b, h1, h2, h3, h4, h5 => by
    have hl : ∀ k, l k = -1 := fun k => Classical.byContradiction fun h => absurd (h2 k h) (Nat.not_lt_zero _)
    have hb : b = 0 := Nat.eq_of_testBit_eq fun k => by
      rw [Nat.zero_testBit]
      cases e : b.testBit k
      · rfl
      · exact absurd (hl k) ((h3 k).1 e)
    subst hb
    show _ ≤ putL (fun _ => (-100 : Int)) 0 0 0
    rw [putL_same]
    unfold cntL
    rw [List.filter_eq_nil_iff.2 (fun k _ => by simp [hl k])]
    exact Int.le_refl _
  | i + 1, l, b, h1, h2, h3, h4, h5 => by
    show _ ≤ stepB g i (szL g i) 256 b
    by_cases h : ∃ k, l k = i
    · obtain ⟨k, hk⟩ := h
      have nk : l k ≠ -1 := by rw [hk]; omega
      have k8 := h5 k nk
      have bk := (h3 k).2 nk
      have e : ∀ j, j ≠ k → putL l k (-1) j = l j := fun j hj => putL_ne hj
      have ek : putL l k (-1) k = -1 := putL_same
      have tb : ∀ j, (b ^^^ 2 ^ k).testBit j = (b.testBit j ^^ decide (k = j)) := fun j => by rw [Nat.testBit_xor, Nat.testBit_two_pow]
      have b2 : (b ^^^ 2 ^ k) < 256 := Nat.xor_lt_two_pow (n := 8) h4 (Nat.pow_lt_pow_right (by omega) k8)
      have bb : (b ^^^ 2 ^ k) ||| 2 ^ k = b := Nat.eq_of_testBit_eq fun j => by
        rw [or_bit, tb]
        by_cases hj : k = j
        · subst hj; simp [bk]
        · simp [hj]
      have ih := sz_complete (g := g) i (putL l k (-1)) (b ^^^ 2 ^ k) ⟨fun j hj => ?_, fun p q hpq hp => ?_⟩ (fun j hj => ?_) (fun j => ?_) b2 (fun j hj => ?_)
      · have hit := stepB_hit (g := g) (i := i) (sz := szL g i) 256 (b ^^^ 2 ^ k) k b2 k8 (by have := (h1.ok k nk).2; rwa [hk, Int.toNat_natCast] at this) (by rw [tb, bk]; simp)
        rw [bb] at hit
        have := cnt_one (l := putL l k (-1)) (l' := l) ek nk (fun j hj => by rw [e j hj]) 8
        rw [if_pos k8] at this
        omega
      · by_cases c : j = k
        · subst c; exact absurd ek hj
        · rw [e j c] at hj ⊢; exact h1.ok j hj
      · by_cases c1 : p = k
        · subst c1; exact absurd ek hp
        by_cases c2 : q = k
        · rw [c2, ek] at hpq; exact absurd hpq hp
        rw [e p c1, e q c2] at hpq; rw [e p c1] at hp; exact h1.inj p q hpq hp
      · by_cases c : j = k
        · subst c; exact absurd ek hj
        · rw [e j c] at hj ⊢
          have a := h2 j hj
          have : (l j).toNat ≠ i := fun h => by
            have z := (h1.ok j hj).1
            exact c (h1.inj j k (by rw [hk]; omega) hj)
          omega
      · rw [tb]
        by_cases c : j = k
        · subst c; rw [ek]; simp [bk]
        · rw [e j c, ← h3 j]; simp [Ne.symm c]
      · by_cases c : j = k
        · subst c; exact absurd ek hj
        · rw [e j c] at hj; exact h5 j hj
    · refine Int.le_trans (sz_complete (g := g) i l b h1 (fun k hk => ?_) h3 h4 h5) (stepB_ge 256 b)
      have a := h2 k hk
      have : (l k).toNat ≠ i := fun h2 => h ⟨k, by have := (h1.ok k hk).1; omega⟩
      omega
theorem bits_of (p : Nat → Bool) : ∀ n, ∃ b, b < 2 ^ n ∧ ∀ k, b.testBit k = (decide (k < n) && p k)
  | 0 => ⟨0, by decide, fun k => by simp⟩
  | n + 1 => by
    obtain ⟨b, h1, h2⟩ := bits_of p n
    have h3 : 2 ^ n < 2 ^ (n + 1) := Nat.pow_lt_pow_right (by omega) (by omega)
    by_cases hp : p n = true
    · refine ⟨b ||| 2 ^ n, Nat.or_lt_two_pow (by omega) h3, fun k => ?_⟩
      rw [or_bit, h2]
      by_cases c : n = k
      · subst c; simp [hp]
      · have : (k < n + 1) = (k < n) := propext ⟨fun _ => by omega, fun _ => by omega⟩
        simp [c, this]
    · refine ⟨b, by omega, fun k => ?_⟩
      rw [h2]
      by_cases c : n = k
      · subst c; simp [hp]
      · have : (k < n + 1) = (k < n) := propext ⟨fun _ => by omega, fun _ => by omega⟩
        simp [this]
theorem cnt_wide {l : Nat → Int} {nn : Nat} (h : ∀ k, l k ≠ -1 → k < nn) : ∀ n, cntL (nn + n) l = cntL nn l
  | 0 => rfl
  | n + 1 => by
    rw [← cnt_wide h n]
    have : l (nn + n) = -1 := Classical.byContradiction fun hk => by have := h _ hk; omega
    unfold cntL
    rw [← Nat.add_assoc, List.range_succ, List.filter_append]
    simp [this]
/-- The reference's size of a largest matching. -/
theorem best_eq {g : Nat → Nat → Bool} {nn no n : Nat} {l : Nat → Int} {D : Nat → Bool} (b : Best g nn no l n D) (hn : ∀ i k, g i k = true → k < nn) (ho : ∀ i k, g i k = true → i < no) (n8 : nn ≤ 8) (o8 : no ≤ 8) : bestL (szL g 8) 256 = n := by
  have wide : ∀ l2, Mt g l2 → cntL 8 l2 = cntL nn l2 := fun l2 h2 => by
    have := cnt_wide (l := l2) (nn := nn) (fun k hk => hn _ _ (h2.ok k hk).2) (8 - nn)
    rwa [show nn + (8 - nn) = 8 by omega] at this
  apply Int.le_antisymm
  · rcases bestL_or (f := szL g 8) 256 with h | ⟨x, _, h⟩
    · rw [h]; omega
    · rw [h]
      rcases sz_sound (g := g) 8 x with h | ⟨l2, a1, a2, a3, a4, a5⟩
      · omega
      · have := b.most hn ho a1
        rw [a5, wide l2 a1]; omega
  · obtain ⟨x, h1, h2⟩ := bits_of (fun k => decide (l k ≠ -1)) 8
    have h3 : ∀ k, l k ≠ -1 → k < 8 := fun k hk => Nat.lt_of_lt_of_le (hn _ _ (b.mt.ok k hk).2) n8
    have := sz_complete (g := g) 8 l x b.mt (fun k hk => Nat.lt_of_lt_of_le (b.low k hk) o8) (fun k => by
      rw [h2]
      constructor
      · intro h; exact (by simpa using h : k < 8 ∧ ¬ l k = -1).2
      · intro h; simpa using ⟨h3 k h, h⟩) h1 h3
    have h4 := bestL_ge (f := szL g 8) 256 x h1
    rw [wide l b.mt, b.cnt] at this
    omega
end Go.Proofs.YtgbdbikjckfgmaaGreat

namespace Go.Proofs.YtgbdbikjckfgmaaGreat

/-- Pairs of at most eight entries. -/
def G8 (g : Nat → Nat → Bool) : Prop := ∀ i k, g i k = true → i < 8 ∧ k < 8
/-- A largest matching has n links. -/
def Mx (g : Nat → Nat → Bool) (n : Nat) : Prop := (∃ l, Mt g l ∧ cntL 8 l = n) ∧ ∀ l, Mt g l → cntL 8 l ≤ n
theorem Mx.uniq {g : Nat → Nat → Bool} {n m : Nat} (h1 : Mx g n) (h2 : Mx g m) : n = m := by
  obtain ⟨⟨l, a1, a2⟩, a3⟩ := h1
  obtain ⟨⟨q, b1, b2⟩, b3⟩ := h2
  have := a3 q b1
  have := b3 l a1
  omega
theorem mt_wide {g : Nat → Nat → Bool} {nn : Nat} {l : Nat → Int} (hn : ∀ i k, g i k = true → k < nn) (n8 : nn ≤ 8) (h : Mt g l) : cntL 8 l = cntL nn l := by
  have := cnt_wide (l := l) (nn := nn) (fun k hk => hn _ _ (h.ok k hk).2) (8 - nn)
  rwa [show nn + (8 - nn) = 8 by omega] at this
theorem mx_match {g : Nat → Nat → Bool} {P : Nat → List Nat} {nn no F : Nat} (hn : ∀ i k, g i k = true → k < nn) (ho : ∀ i k, g i k = true → i < no) (hP : ∀ i k, g i k = true → k ∈ P i) (n8 : nn ≤ 8) (hF : nn < F) : Mx g (matchL g P F no).2 := by
  obtain ⟨D, b⟩ := match_best hn hP hF no
  exact ⟨⟨_, b.mt, (mt_wide hn n8 b.mt).trans b.cnt⟩, fun l h => by rw [mt_wide hn n8 h]; exact b.most hn ho h⟩
/-- The reference's size. -/
theorem mx_ref {g : Nat → Nat → Bool} (h : G8 g) : ∃ n : Nat, bestL (szL g 8) 256 = n ∧ Mx g n := by
  have hn : ∀ i k, g i k = true → k < 8 := fun i k e => (h i k e).2
  have ho : ∀ i k, g i k = true → i < 8 := fun i k e => (h i k e).1
  have hP : ∀ i k, g i k = true → k ∈ (fun _ => List.range 8) i := fun i k e => List.mem_range.2 (h i k e).2
  obtain ⟨D, b⟩ := match_best (P := fun _ => List.range 8) (F := 9) hn hP (by omega) 8
  exact ⟨_, best_eq b hn ho (Nat.le_refl _) (Nat.le_refl _), mx_match hn ho hP (Nat.le_refl _) (by omega)⟩
theorem mx_ex {g : Nat → Nat → Bool} (h : G8 g) : ∃ n, Mx g n := by
  obtain ⟨n, _, h⟩ := mx_ref h
  exact ⟨n, h⟩
theorem best_of_mx {g : Nat → Nat → Bool} {n : Nat} (h : G8 g) (m : Mx g n) : bestL (szL g 8) 256 = n := by
  obtain ⟨k, e, h⟩ := mx_ref h
  rw [e, h.uniq m]
/-- More pairs: no smaller. -/
theorem Mt.mono {g g2 : Nat → Nat → Bool} {l : Nat → Int} (h : Mt g l) (hs : ∀ i k, g i k = true → g2 i k = true) : Mt g2 l := ⟨fun k hk => ⟨(h.ok k hk).1, hs _ _ (h.ok k hk).2⟩, h.inj⟩
theorem Mx.mono {g g2 : Nat → Nat → Bool} {n n2 : Nat} (h : Mx g n) (h2 : Mx g2 n2) (hs : ∀ i k, g i k = true → g2 i k = true) : n ≤ n2 := by
  obtain ⟨⟨l, a1, a2⟩, _⟩ := h
  rw [← a2]
  exact h2.2 l (a1.mono hs)
/-- Links without one. -/
theorem Mt.drop {g : Nat → Nat → Bool} {l : Nat → Int} (h : Mt g l) (p : Nat) : Mt g (putL l p (-1)) := by
  have e : ∀ j, j ≠ p → putL l p (-1) j = l j := fun j hj => putL_ne hj
  have ek : putL l p (-1) p = -1 := putL_same
  refine ⟨fun k hk => ?_, fun a b hab ha => ?_⟩
  · by_cases c : k = p
    · subst c; exact absurd ek hk
    · rw [e k c] at hk ⊢; exact h.ok k hk
  · by_cases c1 : a = p
    · subst c1; exact absurd ek ha
    by_cases c2 : b = p
    · rw [c2, ek] at hab; exact absurd hab ha
    rw [e a c1, e b c2] at hab; rw [e a c1] at ha; exact h.inj a b hab ha
theorem cnt_drop {l : Nat → Int} {p nn : Nat} (h : l p ≠ -1) (hp : p < nn) : cntL nn l = cntL nn (putL l p (-1)) + 1 := by
  have := cnt_one (l := putL l p (-1)) (l' := l) (p := p) putL_same h (fun k hk => by rw [putL_ne hk]) nn
  rwa [if_pos hp] at this
/-- Without one pair: smaller by at most one. -/
theorem Mx.less {g g2 : Nat → Nat → Bool} {n n2 : Nat} (h8 : G8 g) (h : Mx g n) (h2 : Mx g2 n2) (c : ∀ l, Mt g l → Mt g2 l ∨ ∃ p, l p ≠ -1 ∧ Mt g2 (putL l p (-1))) : n ≤ n2 + 1 := by
  obtain ⟨⟨l, a1, a2⟩, _⟩ := h
  rcases c l a1 with h3 | ⟨p, p1, h3⟩
  · have := h2.2 l h3; omega
  · have := h2.2 _ h3
    have p8 := (h8 _ _ (a1.ok p p1).2).2
    have := cnt_drop p1 p8
    omega
end Go.Proofs.YtgbdbikjckfgmaaGreat

namespace Go.Proofs.YtgbdbikjckfgmaaGreat

/-- The pairs but for those that are skipped. -/
def offG (g S : Nat → Nat → Bool) : Nat → Nat → Bool := fun i k => g i k && !S i k
theorem offG_sub {g S : Nat → Nat → Bool} : ∀ i k, offG g S i k = true → g i k = true := fun i k h => by
  simp only [offG, Bool.and_eq_true] at h; exact h.1
theorem offG_8 {g S : Nat → Nat → Bool} (h : G8 g) : G8 (offG g S) := fun i k e => h i k (offG_sub i k e)
def oneS (a b : Nat) : Nat → Nat → Bool := fun i k => decide (i = a) && decide (k = b)
def twoS (a b : Nat) : Nat → Nat → Bool := fun i k => decide (i = a) || decide (k = b)
theorem mt_off {g S : Nat → Nat → Bool} {l : Nat → Int} (h : Mt g l) (hs : ∀ k, l k ≠ -1 → S (l k).toNat k = false) : Mt (offG g S) l :=
  ⟨fun k hk => ⟨(h.ok k hk).1, by simp only [offG, (h.ok k hk).2, hs k hk]; rfl⟩, h.inj⟩
theorem off_not {g S : Nat → Nat → Bool} {l : Nat → Int} (h : Mt (offG g S) l) {k : Nat} (hk : l k ≠ -1) : S (l k).toNat k = false := by
  have := (h.ok k hk).2
  simp only [offG, Bool.and_eq_true, Bool.not_eq_true'] at this
  exact this.2
/-- A pair is in each largest matching if and only if there is no matching as large without it. -/
theorem sure_iff {g : Nat → Nat → Bool} {n m a b : Nat} (h : Mx g n) (h2 : Mx (offG g (oneS a b)) m) : m < n ↔ ∀ l, Mt g l → cntL 8 l = n → l b = a := by
  constructor
  · intro hm l hl hc
    apply Classical.byContradiction
    intro hb
    have := h2.2 l (mt_off hl fun k hk => by
      simp only [oneS]
      by_cases c : k = b
      · subst c
        have := (hl.ok k hk).1
        have : (l k).toNat ≠ a := by omega
        simp [this]
      · simp [c])
    omega
  · intro hs
    obtain ⟨⟨l, a1, a2⟩, _⟩ := h2
    have hg : Mt g l := a1.mono offG_sub
    have := h.2 l hg
    have hne : cntL 8 l ≠ n := fun hc => by
      have e := hs l hg hc
      have nk : l b ≠ -1 := by rw [e]; omega
      have := off_not a1 nk
      rw [e, Int.toNat_natCast] at this
      simp [oneS] at this
    omega
theorem mt_with {g : Nat → Nat → Bool} {l : Nat → Int} {a b : Nat} (hg : g a b = true) (h : Mt (offG g (twoS a b)) l) : l b = -1 ∧ Mt g (putL l b (a : Int)) := by
  have hb : l b = -1 := Classical.byContradiction fun hb => by
    have := off_not h hb
    simp [twoS] at this
  have na : ∀ k, l k ≠ a := fun k hk => by
    have nk : l k ≠ -1 := by rw [hk]; omega
    have := off_not h nk
    rw [hk, Int.toNat_natCast] at this
    simp [twoS] at this
  have e : ∀ j, j ≠ b → putL l b (a : Int) j = l j := fun j hj => putL_ne hj
  have ek : putL l b (a : Int) b = a := putL_same
  refine ⟨hb, fun k hk => ?_, fun p q hpq hp => ?_⟩
  · by_cases c : k = b
    · subst c; rw [ek, Int.toNat_natCast]; exact ⟨by omega, hg⟩
    · rw [e k c] at hk ⊢; exact ⟨(h.ok k hk).1, offG_sub _ _ (h.ok k hk).2⟩
  · by_cases c1 : p = b <;> by_cases c2 : q = b
    · omega
    · rw [c1, ek, e q c2] at hpq; exact absurd hpq.symm (na q)
    · rw [c2, ek, e p c1] at hpq; exact absurd hpq (na p)
    · rw [e p c1, e q c2] at hpq; rw [e p c1] at hp; exact h.inj p q hpq hp
theorem two_low {g : Nat → Nat → Bool} {n m a b : Nat} (h8 : G8 g) (hg : g a b = true) (h : Mx g n) (h2 : Mx (offG g (twoS a b)) m) : m + 1 ≤ n ∧ ∃ l, Mt g l ∧ cntL 8 l = m + 1 ∧ l b = a := by
  obtain ⟨⟨l, a1, a2⟩, _⟩ := h2
  obtain ⟨hb, h3⟩ := mt_with hg a1
  have c := cnt_one (l := l) (l' := putL l b (a : Int)) hb (by rw [putL_same]; omega) (fun k hk => by rw [putL_ne hk]) 8
  rw [if_pos (h8 a b hg).2, a2] at c
  exact ⟨by rw [← c]; exact h.2 _ h3, _, h3, c, putL_same⟩
/-- A pair is in some largest matching if and only if its cost is 0. -/
theorem poss_iff {g : Nat → Nat → Bool} {n m a b : Nat} (h8 : G8 g) (hg : g a b = true) (h : Mx g n) (h2 : Mx (offG g (twoS a b)) m) : 1 + m = n ↔ ∃ l, Mt g l ∧ cntL 8 l = n ∧ l b = a := by
  obtain ⟨lo, l, l1, l2, l3⟩ := two_low h8 hg h h2
  constructor
  · intro e
    exact ⟨l, l1, by omega, l3⟩
  · rintro ⟨q, q1, q2, q3⟩
    have nb : q b ≠ -1 := by rw [q3]; omega
    have hd := q1.drop b
    have := h2.2 (putL q b (-1)) (mt_off hd fun k hk => by
      have c : k ≠ b := fun c => by subst c; exact hk putL_same
      rw [putL_ne c] at hk ⊢
      have p := (q1.ok k hk).1
      have : (q k).toNat ≠ a := fun e => c (q1.inj k b (by rw [q3]; omega) hk)
      simp [twoS, c, this])
    have := cnt_drop nb (h8 a b hg).2
    omega
end Go.Proofs.YtgbdbikjckfgmaaGreat

namespace Go.Proofs.YtgbdbikjckfgmaaGreat

def rowS (a : Nat) : Nat → Nat → Bool := fun i _ => decide (i = a)
def colS (b : Nat) : Nat → Nat → Bool := fun _ k => decide (k = b)
/-- Without the links of an old entry: at most one less. -/
theorem mt_row {g : Nat → Nat → Bool} {l : Nat → Int} (h : Mt g l) (a : Nat) : Mt (offG g (rowS a)) l ∨ ∃ p, l p ≠ -1 ∧ l p = a ∧ Mt (offG g (rowS a)) (putL l p (-1)) := by
  by_cases c : ∃ p, l p = a
  · obtain ⟨p, hp⟩ := c
    have np : l p ≠ -1 := by rw [hp]; omega
    refine .inr ⟨p, np, hp, mt_off (h.drop p) fun k hk => ?_⟩
    have c : k ≠ p := fun c => by subst c; exact hk putL_same
    rw [putL_ne c] at hk ⊢
    have := (h.ok k hk).1
    have : (l k).toNat ≠ a := fun e => c (h.inj k p (by rw [hp]; omega) hk)
    simp [rowS, this]
  · refine .inl (mt_off h fun k hk => ?_)
    have := (h.ok k hk).1
    have : (l k).toNat ≠ a := fun e => c ⟨k, by omega⟩
    simp [rowS, this]
theorem mt_col {g : Nat → Nat → Bool} {l : Nat → Int} (h : Mt g l) (b : Nat) : Mt (offG g (colS b)) l ∨ ∃ p, l p ≠ -1 ∧ p = b ∧ Mt (offG g (colS b)) (putL l p (-1)) := by
  by_cases c : l b = -1
  · refine .inl (mt_off h fun k hk => ?_)
    have : k ≠ b := fun e => by subst e; exact hk c
    simp [colS, this]
  · refine .inr ⟨b, c, rfl, mt_off (h.drop b) fun k hk => ?_⟩
    have : k ≠ b := fun e => by subst e; exact hk putL_same
    simp [colS, this]
theorem row_less {g : Nat → Nat → Bool} {n m a : Nat} (h8 : G8 g) (h : Mx g n) (h2 : Mx (offG g (rowS a)) m) : m ≤ n ∧ n ≤ m + 1 :=
  ⟨h2.mono h offG_sub, h.less h8 h2 fun _ hl => (mt_row hl a).imp id fun ⟨p, h1, _, h2⟩ => ⟨p, h1, h2⟩⟩
theorem col_less {g : Nat → Nat → Bool} {n m b : Nat} (h8 : G8 g) (h : Mx g n) (h2 : Mx (offG g (colS b)) m) : m ≤ n ∧ n ≤ m + 1 :=
  ⟨h2.mono h offG_sub, h.less h8 h2 fun _ hl => (mt_col hl b).imp id fun ⟨p, h1, _, h2⟩ => ⟨p, h1, h2⟩⟩
theorem two_eq {g : Nat → Nat → Bool} {a b : Nat} : offG g (twoS a b) = offG (offG g (rowS a)) (colS b) := by
  funext i k
  simp only [offG, twoS, rowS, colS]
  cases g i k <;> cases decide (i = a) <;> cases decide (k = b) <;> rfl
/-- The cost of a pair is 0 or 1. -/
theorem cost_le {g : Nat → Nat → Bool} {n m a b : Nat} (h8 : G8 g) (h : Mx g n) (h2 : Mx (offG g (twoS a b)) m) : n ≤ m + 2 := by
  obtain ⟨k, hk⟩ := mx_ex (offG_8 (S := rowS a) h8)
  have h1 := (row_less h8 h hk).2
  rw [two_eq] at h2
  have h3 := (col_less (offG_8 (S := rowS a) h8) hk h2).2
  omega
/-- An old entry is always linked if and only if there is no matching as large without it; a new one. -/
theorem row_iff {g : Nat → Nat → Bool} {n m a : Nat} (h : Mx g n) (h2 : Mx (offG g (rowS a)) m) : m < n ↔ ∀ l, Mt g l → cntL 8 l = n → ∃ k, l k = a := by
  constructor
  · intro hm l hl hc
    rcases mt_row hl a with h3 | ⟨p, _, h3, _⟩
    · have := h2.2 l h3; omega
    · exact ⟨p, h3⟩
  · intro hs
    obtain ⟨⟨l, a1, a2⟩, _⟩ := h2
    have hg : Mt g l := a1.mono offG_sub
    have := h.2 l hg
    have hne : cntL 8 l ≠ n := fun hc => by
      obtain ⟨k, e⟩ := hs l hg hc
      have nk : l k ≠ -1 := by rw [e]; omega
      have := off_not a1 nk
      rw [e, Int.toNat_natCast] at this
      simp [rowS] at this
    omega
theorem col_iff {g : Nat → Nat → Bool} {n m b : Nat} (h : Mx g n) (h2 : Mx (offG g (colS b)) m) : m < n ↔ ∀ l, Mt g l → cntL 8 l = n → l b ≠ -1 := by
  constructor
  · intro hm l hl hc
    rcases mt_col hl b with h3 | ⟨p, h4, h3, _⟩
    · have := h2.2 l h3; omega
    · rw [← h3]; exact h4
  · intro hs
    obtain ⟨⟨l, a1, a2⟩, _⟩ := h2
    have hg : Mt g l := a1.mono offG_sub
    have := h.2 l hg
    have hne : cntL 8 l ≠ n := fun hc => by
      have := off_not a1 (hs l hg hc)
      simp [colS] at this
    omega
end Go.Proofs.YtgbdbikjckfgmaaGreat

namespace Go.Proofs.YtgbdbikjckfgmaaGreat

def turnG (g : Nat → Nat → Bool) : Nat → Nat → Bool := fun i k => g k i
theorem mt_turn {g : Nat → Nat → Bool} {l : Nat → Int} (h8 : G8 g) (h : Mt g l) : ∃ q, Mt (turnG g) q ∧ cntL 8 l = cntL 8 q ∧ ∀ i k : Nat, l k = i ↔ q i = k := by
  have ex : ∀ i : Nat, ∃ v : Int, (∀ k : Nat, l k = i ↔ v = k) ∧ (v = -1 ∨ ∃ k : Nat, v = k) := fun i => by
    by_cases c : ∃ k, l k = i
    · obtain ⟨k, hk⟩ := c
      refine ⟨k, fun j => ⟨fun hj => ?_, fun hj => ?_⟩, .inr ⟨k, rfl⟩⟩
      · have := h.inj k j (hk.trans hj.symm) (by rw [hk]; omega)
        rw [this]
      · have : k = j := by omega
        rw [← this]; exact hk
    · exact ⟨-1, fun k => ⟨fun hk => absurd ⟨k, hk⟩ c, fun hk => by omega⟩, .inl rfl⟩
  obtain ⟨q, hq⟩ := Classical.axiomOfChoice ex
  have lin : ∀ i, q i ≠ -1 → ∃ k : Nat, q i = k ∧ l k = i := fun i hi => by
    rcases (hq i).2 with h1 | ⟨k, h1⟩
    · exact absurd h1 hi
    · exact ⟨k, h1, ((hq i).1 k).2 h1⟩
  have mq : Mt (turnG g) q := ⟨fun i hi => by
    obtain ⟨k, h1, h2⟩ := lin i hi
    have := (h.ok k (by rw [h2]; omega)).2
    rw [h2, Int.toNat_natCast] at this
    rw [h1, Int.toNat_natCast]
    exact ⟨by omega, this⟩, fun i j e hi => by
    obtain ⟨k, h1, h2⟩ := lin i hi
    obtain ⟨m, h3, h4⟩ := lin j (by rw [← e]; exact hi)
    have : k = m := by omega
    rw [this, h4] at h2
    omega⟩
  refine ⟨q, mq, ?_, fun i k => (hq i).1 k⟩
  unfold cntL
  have mem : ∀ (q : Nat → Int) k, k ∈ (List.range 8).filter (fun k => decide (q k ≠ -1)) ↔ k < 8 ∧ q k ≠ -1 := by
    intro q k
    rw [List.mem_filter, List.mem_range, decide_eq_true_eq]
  apply Nat.le_antisymm
  · refine inj_le (fun k => (l k).toNat) _ _ ((range_nodup 8).filter _) (fun k hk => ?_) (fun x y hx hy e => ?_)
    · have hk := ((mem l k).1 hk).2
      obtain ⟨p1, p2⟩ := h.ok k hk
      have e : q (l k).toNat = k := ((hq _).1 k).1 (by omega)
      exact (mem q _).2 ⟨(h8 _ _ p2).1, by rw [e]; omega⟩
    · have hx := ((mem l x).1 hx).2
      have hy := ((mem l y).1 hy).2
      have p1 := (h.ok x hx).1
      have p2 := (h.ok y hy).1
      have e2 : (l x).toNat = (l y).toNat := e
      exact h.inj x y (by omega) hx
  · refine inj_le (fun i => (q i).toNat) _ _ ((range_nodup 8).filter _) (fun i hi => ?_) (fun x y hx hy e => ?_)
    · have hi := ((mem q i).1 hi).2
      obtain ⟨k, h1, h2⟩ := lin i hi
      have p2 := (mq.ok i hi).2
      refine (mem l _).2 ⟨(h8 _ _ p2).2, ?_⟩
      show l (q i).toNat ≠ -1
      rw [h1, Int.toNat_natCast, h2]; omega
    · have hx := ((mem q x).1 hx).2
      have hy := ((mem q y).1 hy).2
      have p1 := (mq.ok x hx).1
      have p2 := (mq.ok y hy).1
      have e2 : (q x).toNat = (q y).toNat := e
      exact mq.inj x y (by omega) hx
theorem turn_8 {g : Nat → Nat → Bool} (h : G8 g) : G8 (turnG g) := fun i k e => ⟨(h k i e).2, (h k i e).1⟩
theorem mx_turn {g : Nat → Nat → Bool} {n : Nat} (h8 : G8 g) (h : Mx g n) : Mx (turnG g) n := by
  obtain ⟨⟨l, a1, a2⟩, a3⟩ := h
  obtain ⟨q, q1, q2, _⟩ := mt_turn h8 a1
  refine ⟨⟨q, q1, q2 ▸ a2⟩, fun l2 h2 => ?_⟩
  obtain ⟨r, r1, r2, _⟩ := mt_turn (turn_8 h8) h2
  rw [r2]
  exact a3 r r1
end Go.Proofs.YtgbdbikjckfgmaaGreat

namespace Go.Proofs.YtgbdbikjckfgmaaGreat

/-- p and p2 undo each other. -/
def Undo (p p2 : Nat → Nat) : Prop := (∀ x, p (p2 x) = x) ∧ ∀ x, p2 (p x) = x
def permG (g : Nat → Nat → Bool) (p q : Nat → Nat) : Nat → Nat → Bool := fun i k => g (p i) (q k)
def permL (l : Nat → Int) (p2 q : Nat → Nat) : Nat → Int := fun k => if l (q k) = -1 then -1 else (p2 (l (q k)).toNat : Nat)
theorem mt_perm {g : Nat → Nat → Bool} {l : Nat → Int} {p p2 q q2 : Nat → Nat} (hp : Undo p p2) (hq : Undo q q2) (h2 : G8 (permG g p q)) (h : Mt g l) : Mt (permG g p q) (permL l p2 q) ∧ cntL 8 l ≤ cntL 8 (permL l p2 q) := by
  have off : ∀ k, permL l p2 q k ≠ -1 → l (q k) ≠ -1 ∧ permL l p2 q k = (p2 (l (q k)).toNat : Nat) := fun k hk => by
    unfold permL at hk ⊢
    by_cases c : l (q k) = -1
    · rw [if_pos c] at hk; exact absurd rfl hk
    · rw [if_neg c]; exact ⟨c, rfl⟩
  have mt : Mt (permG g p q) (permL l p2 q) := ⟨fun k hk => by
    obtain ⟨h1, h2⟩ := off k hk
    rw [h2, Int.toNat_natCast]
    refine ⟨by omega, ?_⟩
    show g (p (p2 (l (q k)).toNat)) (q k) = true
    rw [hp.1]; exact (h.ok _ h1).2, fun a b e ha => by
    obtain ⟨a1, a2⟩ := off a ha
    obtain ⟨b1, b2⟩ := off b (by rw [← e]; exact ha)
    have e2 : p2 (l (q a)).toNat = p2 (l (q b)).toNat := by omega
    have e3 : (l (q a)).toNat = (l (q b)).toNat := by rw [← hp.1 (l (q a)).toNat, e2, hp.1]
    have p1 := (h.ok _ a1).1
    have p2 := (h.ok _ b1).1
    have e4 := h.inj (q a) (q b) (by omega) a1
    rw [← hq.2 a, e4, hq.2]⟩
  refine ⟨mt, ?_⟩
  unfold cntL
  have mem : ∀ (q : Nat → Int) k, k ∈ (List.range 8).filter (fun k => decide (q k ≠ -1)) ↔ k < 8 ∧ q k ≠ -1 := by
    intro q k
    rw [List.mem_filter, List.mem_range, decide_eq_true_eq]
  refine inj_le q2 _ _ ((range_nodup 8).filter _) (fun k hk => ?_) (fun x y _ _ e => by rw [← hq.1 x, e, hq.1])
  have hk := ((mem l k).1 hk).2
  have ne : permL l p2 q (q2 k) ≠ -1 := by
    unfold permL
    rw [hq.1, if_neg hk]; omega
  exact (mem _ _).2 ⟨(h2 _ _ (mt.ok _ ne).2).2, ne⟩
theorem mx_perm {g : Nat → Nat → Bool} {p p2 q q2 : Nat → Nat} {n m : Nat} (hp : Undo p p2) (hq : Undo q q2) (h8 : G8 g) (h82 : G8 (permG g p q)) (h : Mx g n) (h2 : Mx (permG g p q) m) : n = m := by
  have e : permG (permG g p q) p2 q2 = g := by
    funext i k
    simp only [permG, hp.1, hq.1]
  apply Nat.le_antisymm
  · obtain ⟨⟨l, a1, a2⟩, _⟩ := h
    obtain ⟨b1, b2⟩ := mt_perm hp hq h82 a1
    have := h2.2 _ b1
    omega
  · obtain ⟨⟨l, a1, a2⟩, _⟩ := h2
    obtain ⟨b1, b2⟩ := mt_perm (g := permG g p q) ⟨hp.2, hp.1⟩ ⟨hq.2, hq.1⟩ (by rw [e]; exact h8) a1
    rw [e] at b1
    have := h.2 _ b1
    omega
end Go.Proofs.YtgbdbikjckfgmaaGreat
