/- Walk: the atlas at work: its map of tours may be written; blocks of a call beside it (turned from the Flow seat's AF). -/
import Derived.Test.YtpnkgjkoophckaaWO
namespace Go.Proofs.Ytpnkgjkoophckaa
open Go.RowKit Go.Shelf Go.Maps

theorem cell_ne {W : World} {b o bm : Nat} {v : Value} {es : Array MapEntry} {k : Nat} (hc : W.cell? ⟨b, o, none⟩ = some v) (hm : W.heap[bm]? = some (.map es k)) : b ≠ bm := by
  rintro rfl
  simp [World.cell?, hm] at hc
theorem Fr.cell {ex : Nat → Prop} {W W' : World} (hf : Fr ex W W') {b o : Nat} {v : Value} (hc : W.cell? ⟨b, o, none⟩ = some v) (hne : ¬ ex b) : W'.cell? ⟨b, o, none⟩ = some v := by
  have hb := World.block_lt_of_cell? W ⟨b, o, none⟩ hc
  have := hf.block b hb hne
  simp only [World.cell?] at hc ⊢
  rw [this]; exact hc
/-- The block bm is a map. -/
def IsMp (W : World) (bm : Nat) : Prop := ∃ es k, W.heap[bm]? = some (.map es k)
theorem CM.mp {W : World} {F : Int → Int → R2} {bm n : Nat} (h : CM W F bm n) : IsMp W bm := by
  obtain ⟨D, _, es, clock, hb, _⟩ := h
  exact ⟨es, clock, hb⟩
theorem RsIn.fr {W W' : World} {bm n : Nat} {v : Value} {R : Nat → R2} (h : RsIn W v n R) (hf : Fr (fun q => q = bm) W W') (hm : IsMp W bm) : RsIn W' v n R := by
  obtain ⟨es, k, hm⟩ := hm
  rcases h with h | ⟨b, off, cap, rfl, hb, hz⟩
  · exact .inl h
  · exact .inr ⟨b, off, cap, rfl, Nat.lt_of_lt_of_le hb hf.size, fun j hj => ⟨hf.cell (hz j hj).1 (cell_ne (hz j hj).1 hm), hf.cell (hz j hj).2 (cell_ne (hz j hj).2 hm)⟩⟩
theorem RdIn.fr {W W' : World} {bm n : Nat} {v : Value} {m : Mp} (h : RdIn W v n m) (hf : Fr (fun q => q = bm) W W') (hm : IsMp W bm) : RdIn W' v n m := by
  obtain ⟨es, k, hm⟩ := hm
  rcases h with h | ⟨b, off, cap, rfl, hb, hz⟩
  · exact .inl h
  · refine .inr ⟨b, off, cap, rfl, Nat.lt_of_lt_of_le hb hf.size, fun j hj => ?_⟩
    obtain ⟨h0, h1, h2, h3⟩ := hz j hj
    exact ⟨hf.cell h0 (cell_ne h0 hm), hf.cell h1 (cell_ne h1 hm), hf.cell h2 (cell_ne h2 hm), hf.cell h3 (cell_ne h3 hm)⟩
theorem MpIn.fr {W W' : World} {bm : Nat} {x : MV} {m : Mp} (h : MpIn W x m) (hf : Fr (fun q => q = bm) W W') (hm : IsMp W bm) : MpIn W' x m := ⟨h.wk.fr hf hm, h.rd.fr hf hm⟩
/-- What the map of tours says. -/
def rsM (m : Mp) (a s : Int) : R2 := rest (tmA m) a.toNat s.toNat
/-- An atlas at work, with at most n entries in its map. -/
structure At (W : World) (A bm n : Nat) (x : MV) (m : Mp) : Prop where
  ab : AtlasAt W A bm x m
  mp : MpIn W x m
  cm : CM W (rsM m) bm n
theorem AtlasAt.lt {W : World} {A bm : Nat} {x : MV} {m : Mp} (h : AtlasAt W A bm x m) : A < W.heap.size := by
  obtain ⟨t, f, h, _⟩ := h
  exact (Array.getElem?_eq_some_iff.1 h).1
theorem AtlasAt.same {W X : World} {A bm : Nat} {x : MV} {m : Mp} (h : AtlasAt W A bm x m) (hk : X.heap[A]? = W.heap[A]?) : AtlasAt X A bm x m := by
  obtain ⟨t, f, h, h2⟩ := h
  exact ⟨t, f, hk.trans h, h2⟩
section
variable {W X : World} {A bm n : Nat} {x : MV} {m : Mp}
theorem At.ne (h : At W A bm n x m) : A ≠ bm := by
  obtain ⟨t, f, h1, _⟩ := h.ab
  obtain ⟨es, k, h2⟩ := h.cm.mp
  rintro rfl
  rw [h1] at h2; cases h2
theorem At.below (h : At W A bm n x m) (hb : Below W.heap.size W X) : At X A bm n x m := ⟨h.ab.same (hb.block _ h.ab.lt), h.mp.below hb, h.cm.below hb⟩
theorem At.mono {n' : Nat} (h : At W A bm n x m) (hn : n ≤ n') : At W A bm n' x m := ⟨h.ab, h.mp, h.cm.mono hn⟩
theorem At.setN {w : World} {n0 : Nat} (h0 : At w A bm n0 x m) (h : At X A bm n x m) (hf : Fr (fun q => q = bm) w X) {b : Nat} (hb : w.heap.size ≤ b) (o : Nat) (u : Value) :
    At (X.setCell ⟨b, o, none⟩ u) A bm n x m ∧ Fr (fun q => q = bm) w (X.setCell ⟨b, o, none⟩ u) := by
  have hB : A < w.heap.size := h0.ab.lt
  have hm : bm < w.heap.size := h0.cm.lt
  have hf' : Fr (fun q => q = bm) w (X.setCell ⟨b, o, none⟩ u) := ⟨hf.os, hf.tape, hf.output, by have := hf.size; simpa using this, fun q hq he => ((Fr.set X b o u).block q (Nat.lt_of_lt_of_le hq hf.size) (by omega)).trans (hf.block q hq he)⟩
  exact ⟨⟨h.ab.same ((Fr.set X b o u).block _ h.ab.lt (by omega)), h0.mp.fr hf' h0.cm.mp, h.cm.setCell (p := ⟨b, o, none⟩) (by simp only; omega) u⟩, hf'⟩
theorem At.tm (h : At W A bm n x m) {a b : Nat} (ha : a < m.nw) (hb : b < m.nw) (h8 : m.nw ≤ 8) : W.cell? ⟨A, 2 + a * 8 + b, none⟩ = some (.int .i64 (tmA m a b)) := by
  obtain ⟨t, f, h1, h2⟩ := h.ab
  rw [cell_of_row _ _ _ _ _ _ h1, atA_t x m t f bm (by omega) (by omega), (h2 a b ha hb).1]
theorem At.fs (h : At W A bm n x m) {a b : Nat} (ha : a < m.nw) (hb : b < m.nw) (h8 : m.nw ≤ 8) : W.cell? ⟨A, 66 + a * 8 + b, none⟩ = some (.int .i64 (fsA m a b)) := by
  obtain ⟨t, f, h1, h2⟩ := h.ab
  rw [cell_of_row _ _ _ _ _ _ h1, atA_f x m t f bm (by omega) (by omega), (h2 a b ha hb).2]
theorem At.mapc (h : At W A bm n x m) : W.cell? ⟨A, 130, none⟩ = some (.map (some bm)) := by
  obtain ⟨t, f, h1, _⟩ := h.ab
  rw [cell_of_row _ _ _ _ _ _ h1, atA_map]
theorem At.wkc (h : At W A bm n x m) : W.cell? ⟨A, 0, none⟩ = some (.slice x.wa m.nw x.wc) ∧ W.cell? ⟨A, 1, none⟩ = some (.slice x.ra m.nr x.rc) := by
  obtain ⟨t, f, h1, _⟩ := h.ab
  exact ⟨cell_of_row _ _ _ _ _ _ h1, cell_of_row _ _ _ _ _ _ h1⟩
theorem At.made (h : AtlasAt X A bm x m) (hm : X.heap[bm]? = some (.map #[] 0)) (hp : MpIn X x m) : At X A bm 0 x m := by
  obtain ⟨es, clock, hb, F, hs, hD⟩ := World.ownsMap_made X Try.prog 164 rgR
  rw [World.alloc_heap_new X (.map #[] 0)] at hb
  cases hb
  exact ⟨h, hp, .map [], ⟨isMap_empty, fun c g kl _ h => by simp [Maps.has] at h⟩, #[], 0, hm, F, Nat.le_refl _, rfl⟩
end
theorem set2 {X : World} {b : Nat} {p q : Value} {t : TypeId} (h : X.heap[b]? = some (.cells #[p, q] t (0, 0))) (p' q' : Value) :
    ((X.setCell ⟨b, 0, none⟩ p').setCell ⟨b, 1, none⟩ q').heap[b]? = some (.cells #[p', q'] t (0, 0)) ∧ Fr (fun k => k = b) X ((X.setCell ⟨b, 0, none⟩ p').setCell ⟨b, 1, none⟩ q') := by
  refine ⟨by simp [World.setCell, Array.getElem?_modify, h], (Fr.set X b 0 p').trans (Fr.set _ b 1 q')⟩
structure AF (w X : World) (A bm n : Nat) (x : MV) (m : Mp) (L : List (Nat × Array Value × TypeId)) : Prop where
  st : At X A bm n x m
  fr : Fr (fun q => q = bm) w X
  bk : ∀ b cs T, (b, cs, T) ∈ L → w.heap.size ≤ b ∧ X.heap[b]? = some (.cells cs T (0, 0))
section
variable {w X Y : World} {A bm n : Nat} {x : MV} {m : Mp} {L : List (Nat × Array Value × TypeId)}
theorem AF.base {n0 : Nat} (h0 : At w A bm n0 x m) : AF w w A bm n0 x m [] := ⟨h0, Fr.refl _ _, fun _ _ _ h => by cases h⟩
theorem AF.go (h : AF w X A bm n x m L) (hw : bm < w.heap.size) (hf : Fr (fun q => q = bm) X Y) {n' : Nat} (hs : At Y A bm n' x m) : AF w Y A bm n' x m L := by
  refine ⟨hs, h.fr.trans hf, fun b cs T hb => ?_⟩
  obtain ⟨h1, h2⟩ := h.bk b cs T hb
  exact ⟨h1, by rw [hf.block _ (Array.getElem?_eq_some_iff.1 h2).1 (by omega)]; exact h2⟩
theorem AF.below (h : AF w X A bm n x m L) (hw : bm < w.heap.size) (hb : Below X.heap.size X Y) : AF w Y A bm n x m L := h.go hw (Fr.below hb _) (h.st.below hb)
theorem AF.mono (h : AF w X A bm n x m L) {n' : Nat} (hm : n ≤ n') : AF w X A bm n' x m L := ⟨h.st.mono hm, h.fr, h.bk⟩
theorem AF.alloc (h : AF w X A bm n x m L) (hw : bm < w.heap.size) (cs : Array Value) (T : TypeId) : AF w (X.alloc (.cells cs T)) A bm n x m ((X.heap.size, cs, T) :: L) := by
  have h1 := h.below hw (below_alloc X (.cells cs T))
  refine ⟨h1.st, h1.fr, fun b cs' T' hb => ?_⟩
  rcases List.mem_cons.1 hb with hb | hb
  · cases hb
    exact ⟨h.fr.size, heap_alloc_new X _⟩
  · exact h1.bk b cs' T' hb
theorem AF.sub (h : AF w X A bm n x m L) {L' : List (Nat × Array Value × TypeId)} (hl : ∀ p, p ∈ L' → p ∈ L) : AF w X A bm n x m L' := ⟨h.st, h.fr, fun b cs T hb => h.bk b cs T (hl _ hb)⟩
theorem AF.lt (h : AF w X A bm n x m L) {b : Nat} {cs : Array Value} {T : TypeId} (hb : (b, cs, T) ∈ L) : w.heap.size ≤ b ∧ b < X.heap.size := ⟨(h.bk b cs T hb).1, (Array.getElem?_eq_some_iff.1 (h.bk b cs T hb).2).1⟩
/-- A cell of a block. -/
theorem AF.cell (h : AF w X A bm n x m L) {b : Nat} {cs : Array Value} {T : TypeId} (hb : (b, cs, T) ∈ L) (i : Nat) : X.cell? ⟨b, i, none⟩ = cs[i]? := cell_of_row _ _ _ _ _ _ (h.bk b cs T hb).2
theorem AF.thaw (h : AF w X A bm n x m L) {b : Nat} {cs : Array Value} {T : TypeId} (hb : (b, cs, T) ∈ L) (i : Nat) : X.frozen? ⟨b, i, none⟩ = false := frozen_of_row _ _ _ _ _ (h.bk b cs T hb).2
/-- A block of two cells is written. -/
theorem AF.set2 {n0 : Nat} (h0 : At w A bm n0 x m) {b : Nat} {p q : Value} {T : TypeId} (h : AF w X A bm n x m L) (hb : (b, #[p, q], T) ∈ L) (p' q' : Value) {L' : List (Nat × Array Value × TypeId)} (hl : ∀ y, y ∈ L' → y.1 ≠ b ∧ y ∈ L) :
    AF w ((X.setCell ⟨b, 0, none⟩ p').setCell ⟨b, 1, none⟩ q') A bm n x m ((b, #[p', q'], T) :: L') := by
  obtain ⟨hb1, hb2⟩ := h.bk b _ _ hb
  obtain ⟨hs1, hf1⟩ := At.setN h0 h.st h.fr (b := b) hb1 0 p'
  obtain ⟨hs2, hf2⟩ := At.setN h0 hs1 hf1 (b := b) hb1 1 q'
  obtain ⟨hr, hf⟩ := Go.Proofs.Ytpnkgjkoophckaa.set2 hb2 p' q'
  refine ⟨hs2, hf2, fun b' cs T' hm => ?_⟩
  rcases List.mem_cons.1 hm with hm | hm
  · cases hm; exact ⟨hb1, hr⟩
  · obtain ⟨hne, hm⟩ := hl _ hm
    obtain ⟨h1, h2⟩ := h.bk b' cs T' hm
    exact ⟨h1, by rw [hf.block _ (Array.getElem?_eq_some_iff.1 h2).1 hne]; exact h2⟩
/-- One cell of a block is written. -/
theorem AF.set1 {n0 : Nat} (h0 : At w A bm n0 x m) {b i : Nat} {cs cs' : Array Value} {T : TypeId} (h : AF w X A bm n x m L) (hb : (b, cs, T) ∈ L) (v : Value) (hi : i < cs.size) (hc : cs.setIfInBounds i v = cs') {L' : List (Nat × Array Value × TypeId)} (hl : ∀ y, y ∈ L' → y.1 ≠ b ∧ y ∈ L) :
    AF w (X.setCell ⟨b, i, none⟩ v) A bm n x m ((b, cs', T) :: L') := by
  obtain ⟨hb1, hb2⟩ := h.bk b _ _ hb
  obtain ⟨hs1, hf1⟩ := At.setN h0 h.st h.fr (b := b) hb1 i v
  have hf := Fr.set X b i v
  refine ⟨hs1, hf1, fun b' cs' T' hm => ?_⟩
  rcases List.mem_cons.1 hm with hm | hm
  · cases hm
    refine ⟨hb1, ?_⟩
    subst hc
    simp [World.setCell, Array.getElem?_modify, hb2, Array.setIfInBounds, hi]
  · obtain ⟨hne, hm⟩ := hl _ hm
    obtain ⟨h1, h2⟩ := h.bk b' _ T' hm
    exact ⟨h1, by rw [hf.block _ (Array.getElem?_eq_some_iff.1 h2).1 hne]; exact h2⟩
end
end Go.Proofs.Ytpnkgjkoophckaa
