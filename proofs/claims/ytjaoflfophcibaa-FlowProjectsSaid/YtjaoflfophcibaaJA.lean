/- Own rows beside each other (turned from IC, HU, IG). -/
import Derived.Test.YtjaoflfophcibaaPK
namespace Go.Proofs.Ytjaoflfophcibaa
open Go.RowKit Go.Shelf

theorem rows_fn {w : World} {a : Option Addr} {n cap : Nat} {rl : Nat → Nat} {ct : Nat → Nat → R2} (h : RowsIn w (.slice a n cap) n rl ct) (hn : 0 < n) : ∃ (b o : Nat) (F : Nat → Value), a = some ⟨b, o, none⟩ ∧ b < w.heap.size ∧ ∀ j, j < n → w.cell? ⟨b, o + j, none⟩ = some (F j) ∧ RsIn w (F j) (rl j) (ct j) := by
  rcases h with ⟨_, _, _, h⟩ | ⟨b', o', c', e, hb, hz⟩
  · omega
  · cases e
    refine ⟨_, _, fun j => if h : j < n then Classical.choose (hz j h) else .slice none 0 0, rfl, hb, fun j hj => ?_⟩
    simp only [dif_pos hj]
    exact Classical.choose_spec (hz j hj)
theorem own_somep {W : World} {base size n c : Nat} {T : TypeId} {a : Option Addr} {xs : List Value} (h : W.ownsRow base T size (.slice a n c) n xs) (hn : 0 < n) : ∃ b, a = some ⟨b, 0, none⟩ := by
  rcases h.2 with ⟨e, _⟩ | ⟨g, cap, cur, e, _⟩
  · cases e; omega
  · cases e; exact ⟨g, rfl⟩
theorem RsIn.src {W : World} {a : Option Addr} {cap n : Nat} {R : Nat → R2} (h : RsIn W (.slice a n cap) n R) : Src W a 2 n (flatR R n) := by
  refine ⟨by rw [flatR_length], fun j u hu => ?_⟩
  have hj : j < n * 2 := by have := (List.getElem?_eq_some_iff.1 hu).1; rw [flatR_length] at this; exact this
  obtain ⟨b, off, rfl, _, h0, h1⟩ := h.at (k := j / 2) (by omega)
  obtain ⟨g0, g1⟩ := flatR_get R n (j / 2) (by omega)
  refine ⟨_, rfl, ?_⟩
  rw [addr_add]
  have e : j = j / 2 * 2 ∨ j = j / 2 * 2 + 1 := by omega
  rcases e with e | e
  · rw [e] at hu ⊢
    rw [g0] at hu
    cases hu
    exact h0
  · rw [e] at hu ⊢
    rw [g1] at hu
    cases hu
    rw [← Nat.add_assoc]
    exact h1
/-- Own rows. -/
structure OR where
  T : TypeId
  sz : Nat
  v : Value
  n : Nat
  xs : List Value
structure Rws (base : Nat) (X : World) (L : List OR) : Prop where
  own : ∀ (i : Nat) (p : OR), L[i]? = some p → X.ownsRow base p.T p.sz p.v p.n p.xs
  dis : ∀ (i j : Nat) (p q : OR), i ≠ j → L[i]? = some p → L[j]? = some q → ∀ k, p.v.ownBlock = some k → q.v.ownBlock ≠ some k
section
variable {base : Nat} {w X Y : World} {L : List OR} {Lb : List (Nat × Array Value × TypeId)}
theorem Rws.below (h : Rws base X L) (hb : Below X.heap.size X Y) : Rws base Y L := ⟨fun i p hp => own_below (h.own i p hp) hb, h.dis⟩
theorem Rws.fro {ex : Nat → Prop} (h : Rws base X L) (hf : Fr ex X Y) (hx : ∀ (i : Nat) (p : OR), L[i]? = some p → ∀ k, p.v.ownBlock = some k → ¬ ex k) : Rws base Y L :=
  ⟨fun i p hp => own_fr (h.own i p hp) hf (fun g _ e _ _ => hx i p hp g e), h.dis⟩
theorem Rws.tab {B : Nat} {cs : Array Value} {T : TypeId} (h : Rws base X L) (hB : X.heap[B]? = some (.cells cs T (0, 0))) (hT : ∀ p, p ∈ L → T ≠ p.T) (hf : Fr (fun k => k = B) X Y) : Rws base Y L :=
  h.fro hf (fun i p hp k e1 e2 => by subst e2; exact own_type_ne (h.own i p hp) hB (hT p (List.mem_of_getElem? hp)) e1)
theorem Rws.made (h : Rws base X L) (hb : base ≤ X.heap.size) (i : Nat) (T : TypeId) (sz : Nat) : Rws base (X.alloc (.cells #[] T)) (L.set i ⟨T, sz, .slice (some ⟨X.heap.size, 0, none⟩) 0 0, 0, []⟩) := by
  have h1 := h.below (below_alloc X (.cells #[] T))
  have hlt : ∀ (j : Nat) (p : OR), L[j]? = some p → ∀ k, p.v.ownBlock = some k → k < X.heap.size := fun j p hp k e => own_lt (h.own j p hp) e
  refine ⟨fun j p hp => ?_, fun j j' p q hne hp hq k e1 e2 => ?_⟩
  · rw [List.getElem?_set] at hp
    by_cases e : i = j
    · rw [if_pos e] at hp
      split at hp
      · cases hp
        exact ⟨by simp, .inr ⟨X.heap.size, 0, #[], rfl, hb, heap_alloc_new _ _, Nat.le_refl _, by unfold maxLen; omega, by simp, by simp⟩⟩
      · cases hp
    · rw [if_neg e] at hp
      exact h1.own j p hp
  · rw [List.getElem?_set] at hp hq
    by_cases e : i = j
    · rw [if_pos e] at hp
      rw [if_neg (show ¬ i = j' by omega)] at hq
      split at hp
      · cases hp
        have e1 : X.heap.size = k := Option.some.inj e1
        have := hlt j' q hq k e2
        omega
      · cases hp
    · rw [if_neg e] at hp
      by_cases e' : i = j'
      · rw [if_pos e'] at hq
        split at hq
        · cases hq
          have e2 : X.heap.size = k := Option.some.inj e2
          have := hlt j p hp k e1
          omega
        · cases hq
      · rw [if_neg e'] at hq
        exact h.dis j j' p q hne hp hq k e1 e2
theorem Rws.app {i sz n : Nat} {T : TypeId} {v v' : Value} {xs : List Value} (h : Rws base X L) (hi : L[i]? = some ⟨T, sz, v, 0, []⟩) (ho : Y.ownsRow base T sz v' n xs) (hg : X.grownBy Y v.ownBlock) (hl : v'.ownBlock = v.ownBlock ∨ v'.ownBlock = some X.heap.size) :
    Rws base Y (L.set i ⟨T, sz, v', n, xs⟩) := by
  have hlt : ∀ (j : Nat) (p : OR), L[j]? = some p → ∀ k, p.v.ownBlock = some k → k < X.heap.size := fun j p hp k e => own_lt (h.own j p hp) e
  have hne : ∀ (j : Nat) (p : OR), i ≠ j → L[j]? = some p → ∀ k, p.v.ownBlock = some k → v'.ownBlock ≠ some k := fun j p hne hp k e1 e2 => by
    rcases hl with e | e
    · exact h.dis i j _ p hne hi hp k (by rw [← e]; exact e2) e1
    · rw [e] at e2
      have e2 := Option.some.inj e2
      have := hlt j p hp k e1
      omega
  refine ⟨fun j p hp => ?_, fun j j' p q hjj hp hq k e1 e2 => ?_⟩
  · rw [List.getElem?_set] at hp
    by_cases e : i = j
    · rw [if_pos e] at hp
      split at hp
      · cases hp; exact ho
      · cases hp
    · rw [if_neg e] at hp
      exact own_fr (h.own j p hp) (Fr.grown hg) (fun k _ e1 _ _ e2 => h.dis i j _ p e hi hp k e2 e1)
  · rw [List.getElem?_set] at hp hq
    by_cases e : i = j
    · rw [if_pos e] at hp
      rw [if_neg (show ¬ i = j' by omega)] at hq
      split at hp
      · cases hp; exact hne j' q (by omega) hq k e2 e1
      · cases hp
    · rw [if_neg e] at hp
      by_cases e' : i = j'
      · rw [if_pos e'] at hq
        split at hq
        · cases hq; exact hne j p e hp k e1 e2
        · cases hq
      · rw [if_neg e'] at hq
        exact h.dis j j' p q hjj hp hq k e1 e2
theorem Rws.put {i sz b c n j : Nat} {T : TypeId} {xs : List Value} (h : Rws base X L) (hi : L[i]? = some ⟨T, sz, .slice (some ⟨b, 0, none⟩) n c, n, xs⟩) (u : Value) :
    Rws base (X.setCell ⟨b, j, none⟩ u) (L.set i ⟨T, sz, .slice (some ⟨b, 0, none⟩) n c, n, xs.set j u⟩) := by
  refine ⟨fun q p hp => ?_, fun q q' p p' hqq hp hp' k e1 e2 => ?_⟩
  · rw [List.getElem?_set] at hp
    by_cases e : i = q
    · rw [if_pos e] at hp
      split at hp
      · cases hp; exact ((h.own i _ hi).stored j u).1
      · cases hp
    · rw [if_neg e] at hp
      exact own_fr (h.own q p hp) (Fr.set X b j u) (fun k _ e1 _ _ e2 => by subst e2; exact h.dis i q _ p e hi hp k rfl e1)
  · rw [List.getElem?_set] at hp hp'
    by_cases e : i = q
    · rw [if_pos e] at hp
      rw [if_neg (show ¬ i = q' by omega)] at hp'
      split at hp
      · cases hp; exact h.dis i q' _ p' (by omega) hi hp' k e1 e2
      · cases hp
    · rw [if_neg e] at hp
      by_cases e' : i = q'
      · rw [if_pos e'] at hp'
        split at hp'
        · cases hp'; exact h.dis q i p _ (by omega) hp hi k e1 e2
        · cases hp'
      · rw [if_neg e'] at hp'
        exact h.dis q q' p p' hqq hp hp' k e1 e2
theorem BF.grow {i sz n : Nat} {T : TypeId} {v : Value} {xs : List Value} (hA : BF w X Lb) (h : Rws base X L) (hi : L[i]? = some ⟨T, sz, v, n, xs⟩) (hT : ∀ p, p ∈ Lb → p.2.2 ≠ T) (hw : w.heap.size ≤ base) (hg : X.grownBy Y v.ownBlock) : BF w Y Lb :=
  hA.fro (Fr.grown hg) (fun q hq e => by have := own_low (h.own i _ hi) e; omega) (fun p hp e => own_type_ne (h.own i _ hi) (hA.bk p.1 p.2.1 p.2.2 hp).2 (hT p hp) e)
theorem BF.put {i sz b c n j : Nat} {T : TypeId} {xs : List Value} {u : Value} (hA : BF w X Lb) (h : Rws base X L) (hi : L[i]? = some ⟨T, sz, .slice (some ⟨b, 0, none⟩) n c, n, xs⟩) (hT : ∀ p, p ∈ Lb → p.2.2 ≠ T) (hw : w.heap.size ≤ base) : BF w (X.setCell ⟨b, j, none⟩ u) Lb :=
  hA.fro (Fr.set X b j u) (fun q hq e => by have := own_low (h.own i _ hi) (q := b) rfl; subst e; omega) (fun p hp e => own_type_ne (h.own i _ hi) (hA.bk p.1 p.2.1 p.2.2 hp).2 (hT p hp) (show some b = some p.1 by rw [e]))
end
theorem RsIn.congr {w : World} {v : Value} {n : Nat} {R R' : Nat → R2} (h : RsIn w v n R) (e : ∀ j, j < n → R j = R' j) : RsIn w v n R' := by
  rcases h with h | ⟨b, off, cap, rfl, hb, hz⟩
  · exact .inl h
  · exact .inr ⟨b, off, cap, rfl, hb, fun j hj => by rw [← e j hj]; exact hz j hj⟩
theorem RsIn.get {w : World} {b o n c k : Nat} {R : Nat → R2} (h : RsIn w (.slice (some ⟨b, o, none⟩) n c) n R) (hk : k < n) : b < w.heap.size ∧ w.cell? ⟨b, o + k * 2, none⟩ = some (.int .i64 (R k).1) ∧ w.cell? ⟨b, o + k * 2 + 1, none⟩ = some (.int .i64 (R k).2) := by
  obtain ⟨b', o', e, h1, h2⟩ := h.at hk
  cases e
  exact ⟨h1, h2⟩
section
variable {base : Nat} {w X Y : World} {L : List OR} {Lb : List (Nat × Array Value × TypeId)}
theorem Rws.app2 {i sz n n' : Nat} {T : TypeId} {v v' : Value} {xs xs' : List Value} (h : Rws base X L) (hi : L[i]? = some ⟨T, sz, v, n, xs⟩) (ho : Y.ownsRow base T sz v' n' xs') (hg : X.grownBy Y v.ownBlock) (hl : v'.ownBlock = v.ownBlock ∨ v'.ownBlock = some X.heap.size) :
    Rws base Y (L.set i ⟨T, sz, v', n', xs'⟩) := by
  have hlt : ∀ (j : Nat) (p : OR), L[j]? = some p → ∀ k, p.v.ownBlock = some k → k < X.heap.size := fun j p hp k e => own_lt (h.own j p hp) e
  have hne : ∀ (j : Nat) (p : OR), i ≠ j → L[j]? = some p → ∀ k, p.v.ownBlock = some k → v'.ownBlock ≠ some k := fun j p hne hp k e1 e2 => by
    rcases hl with e | e
    · exact h.dis i j _ p hne hi hp k (by rw [← e]; exact e2) e1
    · rw [e] at e2
      have e2 := Option.some.inj e2
      have := hlt j p hp k e1
      omega
  refine ⟨fun j p hp => ?_, fun j j' p q hjj hp hq k e1 e2 => ?_⟩
  · rw [List.getElem?_set] at hp
    by_cases e : i = j
    · rw [if_pos e] at hp
      split at hp
      · cases hp; exact ho
      · cases hp
    · rw [if_neg e] at hp
      exact own_fr (h.own j p hp) (Fr.grown hg) (fun k _ e1 _ _ e2 => h.dis i j _ p e hi hp k e2 e1)
  · rw [List.getElem?_set] at hp hq
    by_cases e : i = j
    · rw [if_pos e] at hp
      rw [if_neg (show ¬ i = j' by omega)] at hq
      split at hp
      · cases hp; exact hne j' q (by omega) hq k e2 e1
      · cases hp
    · rw [if_neg e] at hp
      by_cases e' : i = j'
      · rw [if_pos e'] at hq
        split at hq
        · cases hq; exact hne j p e hp k e1 e2
        · cases hq
      · rw [if_neg e'] at hq
        exact h.dis j j' p q hjj hp hq k e1 e2
theorem own_new (X : World) (E size n : Nat) (base : Nat) (cs : Array Value) (hb : base ≤ X.heap.size) (hc : cs.size = n * size) (hn : n ≤ maxLen) : (X.alloc (.cells cs E)).ownsRow base E size (.slice (some ⟨X.heap.size, 0, none⟩) n n) n cs.toList :=
  ⟨by rw [Array.length_toList]; exact hc, .inr ⟨X.heap.size, n, cs, rfl, hb, heap_alloc_new _ _, Nat.le_refl _, hn, by rw [hc], by rw [← hc, ← Array.length_toList, List.take_length]⟩⟩
/-- A new block becomes row i, which was empty. -/
theorem Rws.new {i sz n : Nat} {T : TypeId} {cs : Array Value} (h : Rws base X L) (hi : L[i]? = some ⟨T, sz, .slice none 0 0, 0, []⟩) (hb : base ≤ X.heap.size) (hc : cs.size = n * sz) (hn : n ≤ maxLen) : Rws base (X.alloc (.cells cs T)) (L.set i ⟨T, sz, .slice (some ⟨X.heap.size, 0, none⟩) n n, n, cs.toList⟩) :=
  h.app2 hi (own_new X T sz n base cs hb hc hn) ⟨rfl, rfl, rfl, by simp, fun k hk _ => Below.heap_alloc _ _ _ hk⟩ (.inr rfl)
end
theorem own_src {X : World} {base T sz n g c : Nat} {xs : List Value} (h : X.ownsRow base T sz (.slice (some ⟨g, 0, none⟩) n c) n xs) : Src X (some ⟨g, 0, none⟩) sz n xs := by
  refine ⟨h.1, fun j u hu => ⟨_, rfl, ?_⟩⟩
  have hj := (List.getElem?_eq_some_iff.1 hu).1
  rw [addr_add, Nat.zero_add]
  rw [h.cellAt j (by have := h.1; omega)]
  exact hu
end Go.Proofs.Ytjaoflfophcibaa
