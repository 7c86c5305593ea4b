/- Walk: general laws (turned from the Flow seat's texts): blocks made since a world (BF), own rows beside each other (Rws), lists of ints, drawn regions whose last operations need not keep the state. -/
import Derived.Test.YtgbdbikjckfgmaaGreatFG
namespace Go.Proofs.YtgbdbikjckfgmaaGreat
open Go.RowKit Go.Shelf

theorem own_below {w X : World} {base n size : Nat} {T : TypeId} {v : Value} {xs : List Value} (h : w.ownsRow base T size v n xs) (hb : Below w.heap.size w X) : X.ownsRow base T size v n xs := own_fr h (Fr.below hb (fun _ => False)) (fun _ _ _ _ _ h => h)
theorem grown_below {w X Y : World} {v : Value} {xs : List Value} {T : TypeId} {n size : Nat} (hb : Below w.heap.size w X) (ho : X.ownsRow w.heap.size T size v n xs) (hg : X.grownBy Y v.ownBlock) : Below w.heap.size w Y :=
  hb.trans ((Fr.grown hg).low hb.size (fun k hk e => by have := (ho.lt k e).1; omega))
structure BF (w X : World) (L : List (Nat × Array Value × TypeId)) : Prop where
  fr : Below w.heap.size w X
  bk : ∀ b cs T, (b, cs, T) ∈ L → w.heap.size ≤ b ∧ X.heap[b]? = some (.cells cs T (0, 0))
section
variable {w X Y : World} {L : List (Nat × Array Value × TypeId)}
theorem BF.base (w : World) : BF w w [] := ⟨Below.refl _ _, fun _ _ _ h => by cases h⟩
theorem BF.below (h : BF w X L) (hb : Below X.heap.size X Y) : BF w Y L := by
  refine ⟨below_step h.fr hb, fun b cs T hm => ?_⟩
  obtain ⟨h1, h2⟩ := h.bk b cs T hm
  exact ⟨h1, by rw [hb.block _ (Array.getElem?_eq_some_iff.1 h2).1]; exact h2⟩
theorem BF.alloc (h : BF w X L) (cs : Array Value) (T : TypeId) : BF w (X.alloc (.cells cs T)) ((X.heap.size, cs, T) :: L) := by
  have h1 := h.below (below_alloc X (.cells cs T))
  refine ⟨h1.fr, fun b cs' T' hb => ?_⟩
  rcases List.mem_cons.1 hb with hb | hb
  · cases hb
    exact ⟨h.fr.size, heap_alloc_new X _⟩
  · exact h1.bk b cs' T' hb
theorem BF.sub (h : BF w X L) {L' : List (Nat × Array Value × TypeId)} (hl : ∀ p, p ∈ L' → p ∈ L) : BF w X L' := ⟨h.fr, fun b cs T hb => h.bk b cs T (hl _ hb)⟩
theorem BF.lt (h : BF w X L) {b : Nat} {cs : Array Value} {T : TypeId} (hb : (b, cs, T) ∈ L) : w.heap.size ≤ b ∧ b < X.heap.size := ⟨(h.bk b cs T hb).1, (Array.getElem?_eq_some_iff.1 (h.bk b cs T hb).2).1⟩
theorem BF.cell (h : BF w X L) {b : Nat} {cs : Array Value} {T : TypeId} (hb : (b, cs, T) ∈ L) (i : Nat) : X.cell? ⟨b, i, none⟩ = cs[i]? := cell_of_row _ _ _ _ _ _ (h.bk b cs T hb).2
theorem BF.thaw (h : BF w X L) {b : Nat} {cs : Array Value} {T : TypeId} (hb : (b, cs, T) ∈ L) (i : Nat) : X.frozen? ⟨b, i, none⟩ = false := frozen_of_row _ _ _ _ _ (h.bk b cs T hb).2
theorem BF.set1 {b i : Nat} {cs cs' : Array Value} {T : TypeId} (h : BF w X L) (hb : (b, cs, T) ∈ L) (v : Value) (hi : i < cs.size) (hc : cs.setIfInBounds i v = cs') {L' : List (Nat × Array Value × TypeId)} (hl : ∀ y, y ∈ L' → y.1 ≠ b ∧ y ∈ L) :
    BF w (X.setCell ⟨b, i, none⟩ v) ((b, cs', T) :: L') := by
  obtain ⟨hb1, hb2⟩ := h.bk b _ _ hb
  have hf := Fr.set X b i v
  refine ⟨h.fr.trans (hf.low h.fr.size (fun q hq e => by omega)), fun b' cs2 T' hm => ?_⟩
  rcases List.mem_cons.1 hm with hm | hm
  · cases hm
    refine ⟨hb1, ?_⟩
    subst hc
    simp [World.setCell, Array.getElem?_modify, hb2, Array.setIfInBounds, hi]
  · obtain ⟨hne, hm⟩ := hl _ hm
    obtain ⟨h1, h2⟩ := h.bk b' _ T' hm
    exact ⟨h1, by rw [hf.block _ (Array.getElem?_eq_some_iff.1 h2).1 hne]; exact h2⟩
theorem BF.set2 {b : Nat} {p q : Value} {T : TypeId} (h : BF w X L) (hb : (b, #[p, q], T) ∈ L) (p' q' : Value) {L' : List (Nat × Array Value × TypeId)} (hl : ∀ y, y ∈ L' → y.1 ≠ b ∧ y ∈ L) :
    BF w ((X.setCell ⟨b, 0, none⟩ p').setCell ⟨b, 1, none⟩ q') ((b, #[p', q'], T) :: L') := by
  have h1 := BF.set1 (i := 0) (cs' := #[p', q]) h hb p' (by simp) rfl hl
  exact BF.set1 (i := 1) (cs' := #[p', q']) h1 (.head _) q' (by simp) rfl (fun y hy => ⟨(hl y hy).1, .tail _ hy⟩)
theorem BF.fr2 (h : BF w X L) : Below w.heap.size w X := h.fr
end
theorem BF.made3 (w : World) (c1 c2 c3 : Array Value) (t1 t2 t3 : TypeId) :
    BF w (((w.alloc (.cells c1 t1)).alloc (.cells c2 t2)).alloc (.cells c3 t3)) [(w.heap.size, c1, t1), (w.heap.size + 1, c2, t2), (w.heap.size + 2, c3, t3)] := by
  obtain ⟨hz, hb, k0, k1, k2⟩ := alloc3 w (.cells c1 t1) (.cells c2 t2) (.cells c3 t3)
  refine ⟨hb, fun b cs T hm => ?_⟩
  simp only [List.mem_cons, Prod.mk.injEq, List.not_mem_nil, or_false] at hm
  rcases hm with ⟨rfl, rfl, rfl⟩ | ⟨rfl, rfl, rfl⟩ | ⟨rfl, rfl, rfl⟩
  · exact ⟨Nat.le_refl _, k0⟩
  · exact ⟨by omega, k1⟩
  · exact ⟨by omega, k2⟩
theorem BF.made2 (w : World) (c1 c2 : Array Value) (t1 t2 : TypeId) : BF w ((w.alloc (.cells c1 t1)).alloc (.cells c2 t2)) [(w.heap.size, c1, t1), (w.heap.size + 1, c2, t2)] := by
  have h := ((BF.base w).alloc c1 t1).alloc c2 t2
  rw [World.size_alloc] at h
  exact h.sub (List.forall_mem_cons.2 ⟨.tail _ (.head _), List.forall_mem_cons.2 ⟨.head _, List.forall_mem_nil _⟩⟩)
theorem BF.fro {w X Y : World} {L : List (Nat × Array Value × TypeId)} {ex : Nat → Prop} (h : BF w X L) (hf : Fr ex X Y) (hlow : ∀ q, q < w.heap.size → ¬ ex q) (hx : ∀ p, p ∈ L → ¬ ex p.1) : BF w Y L :=
  ⟨h.fr.trans (hf.low h.fr.size hlow), fun b cs T hm => ⟨(h.bk b cs T hm).1, (hf.block b (h.lt hm).2 (hx _ hm)).trans (h.bk b cs T hm).2⟩⟩
theorem BF.set4 {w X : World} {L : List (Nat × Array Value × TypeId)} {b : Nat} {a0 a1 a2 a3 : Value} {T : TypeId} (h : BF w X L) (hb : (b, #[a0, a1, a2, a3], T) ∈ L) (v0 v1 v2 v3 : Value) {L' : List (Nat × Array Value × TypeId)} (hl : ∀ y, y ∈ L' → y.1 ≠ b ∧ y ∈ L) :
    BF w ((((X.setCell ⟨b, 0, none⟩ v0).setCell ⟨b, 1, none⟩ v1).setCell ⟨b, 2, none⟩ v2).setCell ⟨b, 3, none⟩ v3) ((b, #[v0, v1, v2, v3], T) :: L') := by
  have h1 := BF.set1 (i := 0) (cs' := #[v0, a1, a2, a3]) h hb v0 (by simp) rfl hl
  have h2 := BF.set1 (i := 1) (cs' := #[v0, v1, a2, a3]) h1 (.head _) v1 (by simp) rfl (fun y hy => ⟨(hl y hy).1, .tail _ hy⟩)
  have h3 := BF.set1 (i := 2) (cs' := #[v0, v1, v2, a3]) h2 (.head _) v2 (by simp) rfl (fun y hy => ⟨(hl y hy).1, .tail _ hy⟩)
  exact BF.set1 (i := 3) (cs' := #[v0, v1, v2, v3]) h3 (.head _) v3 (by simp) rfl (fun y hy => ⟨(hl y hy).1, .tail _ hy⟩)
theorem addr_add (g o j : Nat) : (⟨g, o, none⟩ : Addr).add j = ⟨g, o + j, none⟩ := Addr.add_mid g o j
theorem IntsAt.at {w : World} {a : Option Addr} {n cap : Nat} {z : Nat → Int} (h : IntsAt w (.slice a n cap) n z) {k : Nat} (hk : k < n) : ∃ b off, a = some ⟨b, off, none⟩ ∧ b < w.heap.size ∧ w.cell? ⟨b, off + k, none⟩ = some (.int .i64 (z k)) := by
  rcases h with ⟨_, h⟩ | ⟨b', o', c', e, hb, hz⟩
  · omega
  · cases e; exact ⟨_, _, rfl, hb, hz k hk⟩
def iL (z : Nat → Int) (n : Nat) : List Value := (List.range n).map fun j => .int .i64 (z j)
theorem iL_length (z : Nat → Int) (n : Nat) : (iL z n).length = n := by simp [iL]
theorem iL_get (z : Nat → Int) {n j : Nat} (hj : j < n) : (iL z n)[j]? = some (.int .i64 (z j)) := by
  unfold iL; rw [List.getElem?_map, List.getElem?_range hj]; rfl
theorem iL_succ (z : Nat → Int) (n : Nat) : iL z (n + 1) = iL z n ++ [.int .i64 (z n)] := by
  unfold iL; rw [List.range_succ, List.map_append]; rfl
theorem iL_congr {z z' : Nat → Int} {n : Nat} (h : ∀ j, j < n → z j = z' j) : iL z n = iL z' n := List.map_congr_left (fun j hj => by rw [h j (List.mem_range.1 hj)])
theorem iL_set (z : Nat → Int) {n k : Nat} (v : Int) (hk : k < n) : (iL z n).set k (.int .i64 v) = iL (fun j => if j = k then v else z j) n := by
  apply List.ext_getElem?
  intro j
  rw [List.getElem?_set]
  by_cases hj : j < n
  · by_cases e : k = j
    · subst e; rw [if_pos rfl, if_pos (by rw [iL_length]; exact hj), iL_get _ hj]; simp
    · rw [if_neg e, iL_get _ hj, iL_get _ hj]; simp [show ¬ j = k from fun h => e h.symm]
  · have e : ¬ k = j := by omega
    rw [if_neg e, List.getElem?_eq_none (by rw [iL_length]; omega), List.getElem?_eq_none (by rw [iL_length]; omega)]
theorem IntsAt.own {W : World} {base : Nat} {v : Value} {n : Nat} {z : Nat → Int} (h : W.ownsRow base 3 1 v n (iL z n)) : IntsAt W v n z := by
  rcases h.2 with ⟨rfl, rfl⟩ | ⟨g, cap, cur, rfl, _, hg, _⟩
  · exact .inl ⟨rfl, rfl⟩
  · refine .inr ⟨g, 0, cap, rfl, (Array.getElem?_eq_some_iff.1 hg).1, fun j hj => ?_⟩
    rw [Nat.zero_add]
    exact (h.cellAt j (by omega)).trans (iL_get z hj)
theorem IntsAt.src {W : World} {a : Option Addr} {cap n : Nat} {z : Nat → Int} (h : IntsAt W (.slice a n cap) n z) : Src W a 1 n (iL z n) := by
  refine ⟨by rw [iL_length]; omega, fun j u hu => ?_⟩
  have hj : j < n := by have := (List.getElem?_eq_some_iff.1 hu).1; rw [iL_length] at this; exact this
  obtain ⟨b, off, rfl, _, hc⟩ := h.at hj
  rw [iL_get z hj] at hu
  cases hu
  exact ⟨_, rfl, by rw [addr_add]; exact hc⟩
theorem iL_one (z : Nat → Int) (n : Nat) : ∀ u ∈ iL z n, u.oneCell' = true := by
  intro q hq; unfold iL at hq; simp only [List.mem_map] at hq; obtain ⟨j, _, rfl⟩ := hq; rfl
theorem own_somep {W : World} {base size n c : Nat} {T : TypeId} {a : Option Addr} {xs : List Value} (h : W.ownsRow base T size (.slice a n c) n xs) (hn : 0 < n) : ∃ b, a = some ⟨b, 0, none⟩ := by
  rcases h.2 with ⟨e, _⟩ | ⟨g, cap, cur, e, _⟩
  · cases e; omega
  · cases e; exact ⟨g, rfl⟩
structure OR where
  T : TypeId
  sz : Nat
  v : Value
  n : Nat
  xs : List Value
structure Rws (base : Nat) (X : World) (L : List OR) : Prop where
  own : ∀ (i : Nat) (p : OR), L[i]? = some p → X.ownsRow base p.T p.sz p.v p.n p.xs
  dis : ∀ (i j : Nat) (p q : OR), i ≠ j → L[i]? = some p → L[j]? = some q → ∀ k, p.v.ownBlock = some k → q.v.ownBlock ≠ some k
section
variable {base : Nat} {w X Y : World} {L : List OR} {Lb : List (Nat × Array Value × TypeId)}
theorem Rws.below (h : Rws base X L) (hb : Below X.heap.size X Y) : Rws base Y L := ⟨fun i p hp => own_below (h.own i p hp) hb, h.dis⟩
theorem Rws.fro {ex : Nat → Prop} (h : Rws base X L) (hf : Fr ex X Y) (hx : ∀ (i : Nat) (p : OR), L[i]? = some p → ∀ k, p.v.ownBlock = some k → ¬ ex k) : Rws base Y L :=
  ⟨fun i p hp => own_fr (h.own i p hp) hf (fun g _ e _ _ => hx i p hp g e), h.dis⟩
theorem Rws.tab {B : Nat} {cs : Array Value} {T : TypeId} (h : Rws base X L) (hB : X.heap[B]? = some (.cells cs T (0, 0))) (hT : ∀ p, p ∈ L → T ≠ p.T) (hf : Fr (fun k => k = B) X Y) : Rws base Y L :=
  h.fro hf (fun i p hp k e1 e2 => by subst e2; exact own_type_ne (h.own i p hp) hB (hT p (List.mem_of_getElem? hp)) e1)
theorem Rws.made (h : Rws base X L) (hb : base ≤ X.heap.size) (i : Nat) (T : TypeId) (sz : Nat) : Rws base (X.alloc (.cells #[] T)) (L.set i ⟨T, sz, .slice (some ⟨X.heap.size, 0, none⟩) 0 0, 0, []⟩) := by
  have h1 := h.below (below_alloc X (.cells #[] T))
  have hlt : ∀ (j : Nat) (p : OR), L[j]? = some p → ∀ k, p.v.ownBlock = some k → k < X.heap.size := fun j p hp k e => own_lt (h.own j p hp) e
  refine ⟨fun j p hp => ?_, fun j j' p q hne hp hq k e1 e2 => ?_⟩
  · rw [List.getElem?_set] at hp
    by_cases e : i = j
    · rw [if_pos e] at hp
      split at hp
      · cases hp
        exact ⟨by simp, .inr ⟨X.heap.size, 0, #[], rfl, hb, heap_alloc_new _ _, Nat.le_refl _, by unfold maxLen; omega, by simp, by simp⟩⟩
      · cases hp
    · rw [if_neg e] at hp
      exact h1.own j p hp
  · rw [List.getElem?_set] at hp hq
    by_cases e : i = j
    · rw [if_pos e] at hp
      rw [if_neg (show ¬ i = j' by omega)] at hq
      split at hp
      · cases hp
        have e1 : X.heap.size = k := Option.some.inj e1
        have := hlt j' q hq k e2
        omega
      · cases hp
    · rw [if_neg e] at hp
      by_cases e' : i = j'
      · rw [if_pos e'] at hq
        split at hq
        · cases hq
          have e2 : X.heap.size = k := Option.some.inj e2
          have := hlt j p hp k e1
          omega
        · cases hq
      · rw [if_neg e'] at hq
        exact h.dis j j' p q hne hp hq k e1 e2
theorem Rws.app {i sz n : Nat} {T : TypeId} {v v' : Value} {xs : List Value} (h : Rws base X L) (hi : L[i]? = some ⟨T, sz, v, 0, []⟩) (ho : Y.ownsRow base T sz v' n xs) (hg : X.grownBy Y v.ownBlock) (hl : v'.ownBlock = v.ownBlock ∨ v'.ownBlock = some X.heap.size) :
    Rws base Y (L.set i ⟨T, sz, v', n, xs⟩) := by
  have hlt : ∀ (j : Nat) (p : OR), L[j]? = some p → ∀ k, p.v.ownBlock = some k → k < X.heap.size := fun j p hp k e => own_lt (h.own j p hp) e
  have hne : ∀ (j : Nat) (p : OR), i ≠ j → L[j]? = some p → ∀ k, p.v.ownBlock = some k → v'.ownBlock ≠ some k := fun j p hne hp k e1 e2 => by
    rcases hl with e | e
    · exact h.dis i j _ p hne hi hp k (by rw [← e]; exact e2) e1
    · rw [e] at e2
      have e2 := Option.some.inj e2
      have := hlt j p hp k e1
      omega
  refine ⟨fun j p hp => ?_, fun j j' p q hjj hp hq k e1 e2 => ?_⟩
  · rw [List.getElem?_set] at hp
    by_cases e : i = j
    · rw [if_pos e] at hp
      split at hp
      · cases hp; exact ho
      · cases hp
    · rw [if_neg e] at hp
      exact own_fr (h.own j p hp) (Fr.grown hg) (fun k _ e1 _ _ e2 => h.dis i j _ p e hi hp k e2 e1)
  · rw [List.getElem?_set] at hp hq
    by_cases e : i = j
    · rw [if_pos e] at hp
      rw [if_neg (show ¬ i = j' by omega)] at hq
      split at hp
      · cases hp; exact hne j' q (by omega) hq k e2 e1
      · cases hp
    · rw [if_neg e] at hp
      by_cases e' : i = j'
      · rw [if_pos e'] at hq
        split at hq
        · cases hq; exact hne j p e hp k e1 e2
        · cases hq
      · rw [if_neg e'] at hq
        exact h.dis j j' p q hjj hp hq k e1 e2
theorem Rws.put {i sz b c n j : Nat} {T : TypeId} {xs : List Value} (h : Rws base X L) (hi : L[i]? = some ⟨T, sz, .slice (some ⟨b, 0, none⟩) n c, n, xs⟩) (u : Value) :
    Rws base (X.setCell ⟨b, j, none⟩ u) (L.set i ⟨T, sz, .slice (some ⟨b, 0, none⟩) n c, n, xs.set j u⟩) := by
  refine ⟨fun q p hp => ?_, fun q q' p p' hqq hp hp' k e1 e2 => ?_⟩
  · rw [List.getElem?_set] at hp
    by_cases e : i = q
    · rw [if_pos e] at hp
      split at hp
      · cases hp; exact ((h.own i _ hi).stored j u).1
      · cases hp
    · rw [if_neg e] at hp
      exact own_fr (h.own q p hp) (Fr.set X b j u) (fun k _ e1 _ _ e2 => by subst e2; exact h.dis i q _ p e hi hp k rfl e1)
  · rw [List.getElem?_set] at hp hp'
    by_cases e : i = q
    · rw [if_pos e] at hp
      rw [if_neg (show ¬ i = q' by omega)] at hp'
      split at hp
      · cases hp; exact h.dis i q' _ p' (by omega) hi hp' k e1 e2
      · cases hp
    · rw [if_neg e] at hp
      by_cases e' : i = q'
      · rw [if_pos e'] at hp'
        split at hp'
        · cases hp'; exact h.dis q i p _ (by omega) hp hi k e1 e2
        · cases hp'
      · rw [if_neg e'] at hp'
        exact h.dis q q' p p' hqq hp hp' k e1 e2
theorem BF.grow {i sz n : Nat} {T : TypeId} {v : Value} {xs : List Value} (hA : BF w X Lb) (h : Rws base X L) (hi : L[i]? = some ⟨T, sz, v, n, xs⟩) (hT : ∀ p, p ∈ Lb → p.2.2 ≠ T) (hw : w.heap.size ≤ base) (hg : X.grownBy Y v.ownBlock) : BF w Y Lb :=
  hA.fro (Fr.grown hg) (fun q hq e => by have := own_low (h.own i _ hi) e; omega) (fun p hp e => own_type_ne (h.own i _ hi) (hA.bk p.1 p.2.1 p.2.2 hp).2 (hT p hp) e)
theorem BF.put {i sz b c n j : Nat} {T : TypeId} {xs : List Value} {u : Value} (hA : BF w X Lb) (h : Rws base X L) (hi : L[i]? = some ⟨T, sz, .slice (some ⟨b, 0, none⟩) n c, n, xs⟩) (hT : ∀ p, p ∈ Lb → p.2.2 ≠ T) (hw : w.heap.size ≤ base) : BF w (X.setCell ⟨b, j, none⟩ u) Lb :=
  hA.fro (Fr.set X b j u) (fun q hq e => by have := own_low (h.own i _ hi) (q := b) rfl; subst e; omega) (fun p hp e => own_type_ne (h.own i _ hi) (hA.bk p.1 p.2.1 p.2.2 hp).2 (hT p hp) (show some b = some p.1 by rw [e]))
theorem Rws.app2 {i sz n n' : Nat} {T : TypeId} {v v' : Value} {xs xs' : List Value} (h : Rws base X L) (hi : L[i]? = some ⟨T, sz, v, n, xs⟩) (ho : Y.ownsRow base T sz v' n' xs') (hg : X.grownBy Y v.ownBlock) (hl : v'.ownBlock = v.ownBlock ∨ v'.ownBlock = some X.heap.size) :
    Rws base Y (L.set i ⟨T, sz, v', n', xs'⟩) := by
  have hlt : ∀ (j : Nat) (p : OR), L[j]? = some p → ∀ k, p.v.ownBlock = some k → k < X.heap.size := fun j p hp k e => own_lt (h.own j p hp) e
  have hne : ∀ (j : Nat) (p : OR), i ≠ j → L[j]? = some p → ∀ k, p.v.ownBlock = some k → v'.ownBlock ≠ some k := fun j p hne hp k e1 e2 => by
    rcases hl with e | e
    · exact h.dis i j _ p hne hi hp k (by rw [← e]; exact e2) e1
    · rw [e] at e2
      have e2 := Option.some.inj e2
      have := hlt j p hp k e1
      omega
  refine ⟨fun j p hp => ?_, fun j j' p q hjj hp hq k e1 e2 => ?_⟩
  · rw [List.getElem?_set] at hp
    by_cases e : i = j
    · rw [if_pos e] at hp
      split at hp
      · cases hp; exact ho
      · cases hp
    · rw [if_neg e] at hp
      exact own_fr (h.own j p hp) (Fr.grown hg) (fun k _ e1 _ _ e2 => h.dis i j _ p e hi hp k e2 e1)
  · rw [List.getElem?_set] at hp hq
    by_cases e : i = j
    · rw [if_pos e] at hp
      rw [if_neg (show ¬ i = j' by omega)] at hq
      split at hp
      · cases hp; exact hne j' q (by omega) hq k e2 e1
      · cases hp
    · rw [if_neg e] at hp
      by_cases e' : i = j'
      · rw [if_pos e'] at hq
        split at hq
        · cases hq; exact hne j p e hp k e1 e2
        · cases hq
      · rw [if_neg e'] at hq
        exact h.dis j j' p q hjj hp hq k e1 e2
theorem own_new (X : World) (E size n : Nat) (base : Nat) (cs : Array Value) (hb : base ≤ X.heap.size) (hc : cs.size = n * size) (hn : n ≤ maxLen) : (X.alloc (.cells cs E)).ownsRow base E size (.slice (some ⟨X.heap.size, 0, none⟩) n n) n cs.toList :=
  ⟨by rw [Array.length_toList]; exact hc, .inr ⟨X.heap.size, n, cs, rfl, hb, heap_alloc_new _ _, Nat.le_refl _, hn, by rw [hc], by rw [← hc, ← Array.length_toList, List.take_length]⟩⟩
/-- A new block becomes row i, which was empty. -/
theorem Rws.new {i sz n : Nat} {T : TypeId} {cs : Array Value} (h : Rws base X L) (hi : L[i]? = some ⟨T, sz, .slice none 0 0, 0, []⟩) (hb : base ≤ X.heap.size) (hc : cs.size = n * sz) (hn : n ≤ maxLen) : Rws base (X.alloc (.cells cs T)) (L.set i ⟨T, sz, .slice (some ⟨X.heap.size, 0, none⟩) n n, n, cs.toList⟩) :=
  h.app2 hi (own_new X T sz n base cs hb hc hn) ⟨rfl, rfl, rfl, by simp, fun k hk _ => Below.heap_alloc _ _ _ hk⟩ (.inr rfl)
end
theorem own_src {X : World} {base T sz n g c : Nat} {xs : List Value} (h : X.ownsRow base T sz (.slice (some ⟨g, 0, none⟩) n c) n xs) : Src X (some ⟨g, 0, none⟩) sz n xs := by
  refine ⟨h.1, fun j u hu => ⟨_, rfl, ?_⟩⟩
  have hj := (List.getElem?_eq_some_iff.1 hu).1
  rw [addr_add, Nat.zero_add]
  rw [h.cellAt j (by have := h.1; omega)]
  exact hu
end Go.Proofs.YtgbdbikjckfgmaaGreat

namespace Go.Proofs.YtgbdbikjckfgmaaGreat
open Go.RowKit Go.Shelf
section
variable {P : Program} {ops : Array Oper} {Q : Exit → Act → World → Prop} {md : Region.Mode} {S : World → Prop}

/-- Number j waits for every other one. -/
def waitsAll (md : Region.Mode) (ops : Array Oper) (j : Nat) : Bool :=
  match ops[j]? with
  | none => false
  | some o => (List.range ops.size).all fun k => k == j || o.after.any fun e => Region.binds md e && e.on == k
theorem waitsAll_spec {i j : Nat} {o : Oper} (hj : ops[j]? = some o) (h : waitsAll md ops j = true) (hi : i < ops.size) (hne : i ≠ j) : ∃ e ∈ o.after, Region.binds md e = true ∧ e.on = i := by
  unfold waitsAll at h
  rw [hj] at h
  simp only [List.all_eq_true, List.mem_range, Bool.or_eq_true, beq_iff_eq] at h
  rcases h i hi with h | h
  · exact absurd h hne
  · rw [Array.any_eq_true] at h
    obtain ⟨q, hq, h⟩ := h
    simp only [Bool.and_eq_true, beq_iff_eq] at h
    exact ⟨o.after[q], Array.getElem_mem hq, h.1, h.2⟩
/-- Whatever comes up; S behind each operation but one that waits for all the others. -/
def wpAnyZ (P : Program) (md : Region.Mode) (ops : Array Oper) (Q : Exit → Act → World → Prop) (S : World → Prop) : Nat → Array Bool → Act → World → Prop
  | 0, l, a, w => Region.ready md ops l = [] ∧ Q .normal a w
  | f + 1, l, a, w =>
    (Region.ready md ops l = [] → Q .normal a w) ∧
    ∀ i ∈ Region.ready md ops l, wpOp P ops Q i (fun a' w' => (waitsAll md ops i = true ∨ S w') ∧ wpAnyZ P md ops Q S f (l.setIfInBounds i true) a' w') a w
theorem wpAny_of_Z : ∀ (f : Nat) (l : Array Bool) (a : Act) (w : World), wpAnyZ P md ops Q S f l a w → wpAny P md ops Q f l a w
  | 0, _, _, _, h => h
  | f + 1, _, _, _, h => ⟨h.1, fun i hi => wpOp_mono (fun a' w' h' => wpAny_of_Z f _ a' w' h'.2) (h.2 i hi)⟩
/-- An operation is taken ahead of the others. -/
theorem wpAnyZ_ahead {i : Nat} {oi : Oper} {v : Value} (hi : ops[i]? = some oi) (hsel : Region.noSelect ops = true) (hQ : ∀ c a w, Q (.panic c) (a.put oi.dst v) w → Q (.panic c) a w) :
    ∀ (f : Nat) (l : Array Bool) (a : Act) (w : World),
      (∀ j oj, ops[j]? = some oj → j ≠ i → l.getD j true = false → (∀ e ∈ oj.after, Region.binds md e = true → e.on ≠ i) → oi.apart ops oj = true) →
      i ∈ Region.ready md ops l → YieldsIf P ops S oi v a → S w → wpAnyZ P md ops Q S f (l.setIfInBounds i true) (a.put oi.dst v) w → wpAnyZ P md ops Q S (f + 1) l a w := by
  have hs := Region.noSelect_spec hsel
  have hil : i < ops.size := (Array.getElem?_eq_some_iff.1 hi).1
  intro f
  induction f with
  | zero =>
    intro l a w _ hr hy hS H
    refine ⟨fun h => absurd hr (by rw [h]; exact List.not_mem_nil), fun j hj => ?_⟩
    rcases Nat.decEq j i with hne | he
    · have h0 := ready_mono hj hne
      rw [H.1] at h0; exact absurd h0 List.not_mem_nil
    · subst he; exact hy.wpOp hi hS ⟨.inr hS, H⟩
  | succ f ih =>
    intro l a w hfree hr hy hS H
    refine ⟨fun h => absurd hr (by rw [h]; exact List.not_mem_nil), fun j hj => ?_⟩
    rcases Nat.decEq j i with hne | he
    · obtain ⟨hju, oj, hoj, hall⟩ := mem_ready.1 hj
      have hiu := (mem_ready.1 hr).1
      have hlist : ¬ l.getD i false = true := fun h => by
        rcases Nat.lt_or_ge i l.size with h' | h'
        · simp only [Array.getD, h', dif_pos] at hiu h; rw [hiu] at h; cases h
        · simp [Array.getD, Nat.not_lt.2 h'] at h
      have hno : ∀ e ∈ oj.after, Region.binds md e = true → e.on ≠ i := fun e he hb heq => hlist (heq ▸ hall e he hb)
      have hnl : ¬ waitsAll md ops j = true := fun h => by
        obtain ⟨e, he, hb, heq⟩ := waitsAll_spec hoj h hil (fun q => hne q.symm)
        exact hno e he hb heq
      have h2 := wpOp_putIf hoj (hfree j oj hoj hne hju hno) (fun cs b => hs i oi cs b hi) (fun cs b => hs j oj cs b hoj) hQ hy (H.2 j (ready_mono hj hne))
      refine wpOp_mono (fun a' w' h3 => ?_) h2
      obtain ⟨hy', hw', hz⟩ := h3
      have hS' : S w' := hw'.resolve_left hnl
      refine ⟨.inr hS', ih (l.setIfInBounds j true) a' w' (fun k ok hk hki hun hn => hfree k ok hk hki ?_ hn) (ready_mono hr (fun q => hne q.symm)) hy' hS' ?_⟩
      · rcases Nat.decEq j k with hjk | hjk
        · rwa [getD_set_ne true hjk] at hun
        · subst hjk; exact hju
      · rw [Array.setIfInBounds_comm _ _ hne]; exact hz
    · subst he; exact hy.wpOp hi hS ⟨.inr hS, H⟩
theorem wpAnyZ_take {i : Nat} {oi : Oper} {v : Value} {f : Nat} {l : Array Bool} {a : Act} {w : World} (hi : ops[i]? = some oi)
    (hs : Region.noSelect ops = true) (hf : Region.free md ops l i = true) (hr : (Region.ready md ops l).contains i = true)
    (hQ : ∀ c a w, Q (.panic c) (a.put oi.dst v) w → Q (.panic c) a w) (hy : YieldsIf P ops S oi v a) (hS : S w)
    (h : wpAnyZ P md ops Q S f (l.setIfInBounds i true) (a.put oi.dst v) w) : wpAnyZ P md ops Q S (f + 1) l a w :=
  wpAnyZ_ahead hi hs hQ f l a w (Region.free_spec hi hf) (by simpa using hr) hy hS h
theorem tZ (i : Nat) {oi : Oper} {v : Value} {f : Nat} {l : Array Bool} {a : Act} {w : World} (hi : ops[i]? = some oi) (hb : tB md ops l i = true) (hg : Region.wanted oi (yielded ops a.tmps) = true)
    (hQ : ∀ c a w, Q (.panic c) (a.put oi.dst v) w → Q (.panic c) a w) (hS : S w) (hy : ∀ w, S w → (execOp a.eval oi).run P w = .ok (.value v) w)
    (h : wpAnyZ P md ops Q S f (l.setIfInBounds i true) (a.put oi.dst v) w) : wpAnyZ P md ops Q S (f + 1) l a w := by
  unfold tB at hb
  simp only [Bool.and_eq_true] at hb
  exact wpAnyZ_take hi hb.1.1 hb.1.2 hb.2 hQ (.inl ⟨hg, hy⟩) hS h
theorem tkZ {i : Nat} {is : List Nat} {oi : Oper} {v : Value} {f : Nat} {l : Array Bool} {a : Act} {w : World} (hi : ops[i]? = some oi) (hb : tB md ops l i = true) (hg : Region.wanted oi (yielded ops a.tmps) = true)
    (hQ : ∀ c a w, Q (.panic c) (a.put oi.dst v) w → Q (.panic c) a w) (hS : S w) (hy : ∀ w, S w → (execOp a.eval oi).run P w = .ok (.value v) w)
    (h : Tk is (wpAnyZ P md ops Q S f (l.setIfInBounds i true) (a.put oi.dst v) w)) : Tk (i :: is) (wpAnyZ P md ops Q S (f + 1) l a w) := ⟨tZ i hi hb hg hQ hS hy h.out⟩
/-- Each of these comes up next. -/
def NextZ (P : Program) (md : Region.Mode) (ops : Array Oper) (Q : Exit → Act → World → Prop) (S : World → Prop) (f : Nat) (l : Array Bool) (a : Act) (w : World) (rs : List Nat) : Prop :=
  ∀ i ∈ rs, wpOp P ops Q i (fun a' w' => (waitsAll md ops i = true ∨ S w') ∧ wpAnyZ P md ops Q S f (l.setIfInBounds i true) a' w') a w
theorem NextZ.nil {f : Nat} {l : Array Bool} {a : Act} {w : World} : NextZ P md ops Q S f l a w [] := fun _ h => absurd h List.not_mem_nil
theorem NextZ.cons {f : Nat} {l : Array Bool} {a : Act} {w : World} {i : Nat} {o : Oper} {rs : List Nat} (ho : ops[i]? = some o)
    (h : ∀ K' : Act → World → Prop, Shut (∀ a w, S w → (S w → wpAnyZ P md ops Q S f (l.setIfInBounds i true) a w) → K' a w) → if Region.wanted o (yielded ops a.tmps) = true then Oper.wp P o a w K' Q else K' (a.put o.dst undef) w)
    (hs : NextZ P md ops Q S f l a w rs) : NextZ P md ops Q S f l a w (i :: rs) := fun j hj => by
  rcases List.mem_cons.1 hj with rfl | hj
  · exact wpOp_step ho (fun K' hK => h K' (fun a w hS hW => hK a w ⟨.inr hS, hW hS⟩))
  · exact hs j hj
/-- The one that waits for all the others comes up. -/
theorem NextZ.last {f : Nat} {l : Array Bool} {a : Act} {w : World} {i : Nat} {o : Oper} (ho : ops[i]? = some o) (hl : waitsAll md ops i = true)
    (h : ∀ K' : Act → World → Prop, Shut (∀ a w, wpAnyZ P md ops Q S f (l.setIfInBounds i true) a w → K' a w) → if Region.wanted o (yielded ops a.tmps) = true then Oper.wp P o a w K' Q else K' (a.put o.dst undef) w) :
    NextZ P md ops Q S f l a w [i] := fun j hj => by
  rw [List.mem_singleton] at hj
  subst hj
  exact wpOp_step ho (fun K' hK => h K' (fun a w hW => hK a w ⟨.inl hl, hW⟩))
theorem wpAnyZ_next {rs : List Nat} {f : Nat} {l : Array Bool} {a : Act} {w : World} (hr : Region.ready md ops l = rs) (hne : rs ≠ []) (h : NextZ P md ops Q S f l a w rs) : wpAnyZ P md ops Q S (f + 1) l a w :=
  ⟨fun h0 => absurd (hr ▸ h0) hne, by rw [hr]; exact h⟩
theorem wpAnyZ_done {l : Array Bool} {a : Act} {w : World} (hr : Region.ready md ops l = []) (h : Q .normal a w) : ∀ f, wpAnyZ P md ops Q S f l a w
  | 0 => ⟨hr, h⟩
  | _ + 1 => ⟨fun _ => h, by rw [hr]; exact fun _ h => absurd h List.not_mem_nil⟩
/-- The beginning. -/
theorem wp_region_Z {id : Nat} {a : Act} {w : World} (hm : P.follows .mixedOrders = true) (hS : S w.drew) (h : S w.drew → wpAnyZ P .any ops Q S ops.size (Array.replicate ops.size false) a w.drew) : (Code.region id ops true).wp P Q a w :=
  wp_region_any hm (wpAny_of_Z _ _ _ _ (h hS))
end
section
variable {P : Program} {ops : Array Oper} {Q : Exit → Act → World → Prop} {md : Region.Mode} {S : World → Prop} {ex : List Nat}

/-- Number j waits for number i. -/
def waitsFor (md : Region.Mode) (ops : Array Oper) (i j : Nat) : Bool :=
  match ops[j]? with
  | none => false
  | some o => o.after.any fun e => Region.binds md e && e.on == i
theorem waitsFor_spec {i j : Nat} {o : Oper} (hj : ops[j]? = some o) (h : waitsFor md ops i j = true) : ∃ e ∈ o.after, Region.binds md e = true ∧ e.on = i := by
  unfold waitsFor at h
  rw [hj] at h
  simp only [Array.any_eq_true, Bool.and_eq_true, beq_iff_eq] at h
  obtain ⟨q, hq, h⟩ := h
  exact ⟨o.after[q], Array.getElem_mem hq, h.1, h.2⟩
def exOk (md : Region.Mode) (ops : Array Oper) (ex : List Nat) (i : Nat) : Bool := ex.all fun j => j == i || waitsFor md ops i j
/-- Whatever comes up; S behind each operation but those of ex. -/
def wpAnyE (P : Program) (md : Region.Mode) (ops : Array Oper) (Q : Exit → Act → World → Prop) (S : World → Prop) (ex : List Nat) : Nat → Array Bool → Act → World → Prop
  | 0, l, a, w => Region.ready md ops l = [] ∧ Q .normal a w
  | f + 1, l, a, w =>
    (Region.ready md ops l = [] → Q .normal a w) ∧
    ∀ i ∈ Region.ready md ops l, wpOp P ops Q i (fun a' w' => (ex.contains i = true ∨ S w') ∧ wpAnyE P md ops Q S ex f (l.setIfInBounds i true) a' w') a w
theorem wpAny_of_E : ∀ (f : Nat) (l : Array Bool) (a : Act) (w : World), wpAnyE P md ops Q S ex f l a w → wpAny P md ops Q f l a w
  | 0, _, _, _, h => h
  | f + 1, _, _, _, h => ⟨h.1, fun i hi => wpOp_mono (fun a' w' h' => wpAny_of_E f _ a' w' h'.2) (h.2 i hi)⟩
/-- An operation is taken ahead of the others. -/
theorem wpAnyE_ahead {i : Nat} {oi : Oper} {v : Value} (hi : ops[i]? = some oi) (hsel : Region.noSelect ops = true) (hex : exOk md ops ex i = true) (hQ : ∀ c a w, Q (.panic c) (a.put oi.dst v) w → Q (.panic c) a w) :
    ∀ (f : Nat) (l : Array Bool) (a : Act) (w : World),
      (∀ j oj, ops[j]? = some oj → j ≠ i → l.getD j true = false → (∀ e ∈ oj.after, Region.binds md e = true → e.on ≠ i) → oi.apart ops oj = true) →
      i ∈ Region.ready md ops l → YieldsIf P ops S oi v a → S w → wpAnyE P md ops Q S ex f (l.setIfInBounds i true) (a.put oi.dst v) w → wpAnyE P md ops Q S ex (f + 1) l a w := by
  have hs := Region.noSelect_spec hsel
  have hil : i < ops.size := (Array.getElem?_eq_some_iff.1 hi).1
  intro f
  induction f with
  | zero =>
    intro l a w _ hr hy hS H
    refine ⟨fun h => absurd hr (by rw [h]; exact List.not_mem_nil), fun j hj => ?_⟩
    rcases Nat.decEq j i with hne | he
    · have h0 := ready_mono hj hne
      rw [H.1] at h0; exact absurd h0 List.not_mem_nil
    · subst he; exact hy.wpOp hi hS ⟨.inr hS, H⟩
  | succ f ih =>
    intro l a w hfree hr hy hS H
    refine ⟨fun h => absurd hr (by rw [h]; exact List.not_mem_nil), fun j hj => ?_⟩
    rcases Nat.decEq j i with hne | he
    · obtain ⟨hju, oj, hoj, hall⟩ := mem_ready.1 hj
      have hiu := (mem_ready.1 hr).1
      have hlist : ¬ l.getD i false = true := fun h => by
        rcases Nat.lt_or_ge i l.size with h' | h'
        · simp only [Array.getD, h', dif_pos] at hiu h; rw [hiu] at h; cases h
        · simp [Array.getD, Nat.not_lt.2 h'] at h
      have hno : ∀ e ∈ oj.after, Region.binds md e = true → e.on ≠ i := fun e he hb heq => hlist (heq ▸ hall e he hb)
      have hnl : ¬ ex.contains j = true := fun h => by
        unfold exOk at hex
        rw [List.all_eq_true] at hex
        have h1 := hex j (by simpa using h)
        simp only [Bool.or_eq_true, beq_iff_eq] at h1
        rcases h1 with h1 | h1
        · exact hne h1
        · obtain ⟨e, he, hb, heq⟩ := waitsFor_spec hoj h1
          exact hno e he hb heq
      have h2 := wpOp_putIf hoj (hfree j oj hoj hne hju hno) (fun cs b => hs i oi cs b hi) (fun cs b => hs j oj cs b hoj) hQ hy (H.2 j (ready_mono hj hne))
      refine wpOp_mono (fun a' w' h3 => ?_) h2
      obtain ⟨hy', hw', hz⟩ := h3
      have hS' : S w' := hw'.resolve_left hnl
      refine ⟨.inr hS', ih (l.setIfInBounds j true) a' w' (fun k ok hk hki hun hn => hfree k ok hk hki ?_ hn) (ready_mono hr (fun q => hne q.symm)) hy' hS' ?_⟩
      · rcases Nat.decEq j k with hjk | hjk
        · rwa [getD_set_ne true hjk] at hun
        · subst hjk; exact hju
      · rw [Array.setIfInBounds_comm _ _ hne]; exact hz
    · subst he; exact hy.wpOp hi hS ⟨.inr hS, H⟩
theorem wpAnyE_take {i : Nat} {oi : Oper} {v : Value} {f : Nat} {l : Array Bool} {a : Act} {w : World} (hi : ops[i]? = some oi)
    (hs : Region.noSelect ops = true) (hex : exOk md ops ex i = true) (hf : Region.free md ops l i = true) (hr : (Region.ready md ops l).contains i = true)
    (hQ : ∀ c a w, Q (.panic c) (a.put oi.dst v) w → Q (.panic c) a w) (hy : YieldsIf P ops S oi v a) (hS : S w)
    (h : wpAnyE P md ops Q S ex f (l.setIfInBounds i true) (a.put oi.dst v) w) : wpAnyE P md ops Q S ex (f + 1) l a w :=
  wpAnyE_ahead hi hs hex hQ f l a w (Region.free_spec hi hf) (by simpa using hr) hy hS h
theorem tE (i : Nat) {oi : Oper} {v : Value} {f : Nat} {l : Array Bool} {a : Act} {w : World} (hi : ops[i]? = some oi) (hb : (tB md ops l i && exOk md ops ex i) = true) (hg : Region.wanted oi (yielded ops a.tmps) = true)
    (hQ : ∀ c a w, Q (.panic c) (a.put oi.dst v) w → Q (.panic c) a w) (hS : S w) (hy : ∀ w, S w → (execOp a.eval oi).run P w = .ok (.value v) w)
    (h : wpAnyE P md ops Q S ex f (l.setIfInBounds i true) (a.put oi.dst v) w) : wpAnyE P md ops Q S ex (f + 1) l a w := by
  unfold tB at hb
  simp only [Bool.and_eq_true] at hb
  exact wpAnyE_take hi hb.1.1.1 hb.2 hb.1.1.2 hb.1.2 hQ (.inl ⟨hg, hy⟩) hS h
theorem tkE {i : Nat} {is : List Nat} {oi : Oper} {v : Value} {f : Nat} {l : Array Bool} {a : Act} {w : World} (hi : ops[i]? = some oi) (hb : (tB md ops l i && exOk md ops ex i) = true) (hg : Region.wanted oi (yielded ops a.tmps) = true)
    (hQ : ∀ c a w, Q (.panic c) (a.put oi.dst v) w → Q (.panic c) a w) (hS : S w) (hy : ∀ w, S w → (execOp a.eval oi).run P w = .ok (.value v) w)
    (h : Tk is (wpAnyE P md ops Q S ex f (l.setIfInBounds i true) (a.put oi.dst v) w)) : Tk (i :: is) (wpAnyE P md ops Q S ex (f + 1) l a w) := ⟨tE i hi hb hg hQ hS hy h.out⟩
/-- Each of these comes up next. -/
def NextE (P : Program) (md : Region.Mode) (ops : Array Oper) (Q : Exit → Act → World → Prop) (S : World → Prop) (ex : List Nat) (f : Nat) (l : Array Bool) (a : Act) (w : World) (rs : List Nat) : Prop :=
  ∀ i ∈ rs, wpOp P ops Q i (fun a' w' => (ex.contains i = true ∨ S w') ∧ wpAnyE P md ops Q S ex f (l.setIfInBounds i true) a' w') a w
theorem NextE.nil {f : Nat} {l : Array Bool} {a : Act} {w : World} : NextE P md ops Q S ex f l a w [] := fun _ h => absurd h List.not_mem_nil
theorem NextE.cons {f : Nat} {l : Array Bool} {a : Act} {w : World} {i : Nat} {o : Oper} {rs : List Nat} (ho : ops[i]? = some o)
    (h : ∀ K' : Act → World → Prop, Shut (∀ a w, S w → (S w → wpAnyE P md ops Q S ex f (l.setIfInBounds i true) a w) → K' a w) → if Region.wanted o (yielded ops a.tmps) = true then Oper.wp P o a w K' Q else K' (a.put o.dst undef) w)
    (hs : NextE P md ops Q S ex f l a w rs) : NextE P md ops Q S ex f l a w (i :: rs) := fun j hj => by
  rcases List.mem_cons.1 hj with rfl | hj
  · exact wpOp_step ho (fun K' hK => h K' (fun a w hS hW => hK a w ⟨.inr hS, hW hS⟩))
  · exact hs j hj
/-- One of ex comes up. -/
theorem NextE.skip {f : Nat} {l : Array Bool} {a : Act} {w : World} {i : Nat} {o : Oper} {rs : List Nat} (ho : ops[i]? = some o) (hl : ex.contains i = true)
    (h : ∀ K' : Act → World → Prop, Shut (∀ a w, wpAnyE P md ops Q S ex f (l.setIfInBounds i true) a w → K' a w) → if Region.wanted o (yielded ops a.tmps) = true then Oper.wp P o a w K' Q else K' (a.put o.dst undef) w)
    (hs : NextE P md ops Q S ex f l a w rs) : NextE P md ops Q S ex f l a w (i :: rs) := fun j hj => by
  rcases List.mem_cons.1 hj with rfl | hj
  · exact wpOp_step ho (fun K' hK => h K' (fun a w hW => hK a w ⟨.inl hl, hW⟩))
  · exact hs j hj
theorem wpAnyE_next {rs : List Nat} {f : Nat} {l : Array Bool} {a : Act} {w : World} (hr : Region.ready md ops l = rs) (hne : rs ≠ []) (h : NextE P md ops Q S ex f l a w rs) : wpAnyE P md ops Q S ex (f + 1) l a w :=
  ⟨fun h0 => absurd (hr ▸ h0) hne, by rw [hr]; exact h⟩
theorem wpAnyE_done {l : Array Bool} {a : Act} {w : World} (hr : Region.ready md ops l = []) (h : Q .normal a w) : ∀ f, wpAnyE P md ops Q S ex f l a w
  | 0 => ⟨hr, h⟩
  | _ + 1 => ⟨fun _ => h, by rw [hr]; exact fun _ h => absurd h List.not_mem_nil⟩
/-- The beginning. -/
theorem wp_region_E (ex : List Nat) {id : Nat} {a : Act} {w : World} (hm : P.follows .mixedOrders = true) (hS : S w.drew) (h : S w.drew → wpAnyE P .any ops Q S ex ops.size (Array.replicate ops.size false) a w.drew) : (Code.region id ops true).wp P Q a w :=
  wp_region_any hm (wpAny_of_E _ _ _ _ (h hS))
end
end Go.Proofs.YtgbdbikjckfgmaaGreat
