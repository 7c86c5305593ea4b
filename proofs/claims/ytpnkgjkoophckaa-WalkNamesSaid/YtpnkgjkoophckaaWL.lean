/- Walk: the block of an atlas; its state while it is made; plain: the roads at a place, one by one. -/
import Derived.Test.YtpnkgjkoophckaaWK
namespace Go.Proofs.Ytpnkgjkoophckaa
open Go.RowKit Go.Shelf

/-- A part that never leaves but at its end. -/
theorem wp_calm {P : Program} {c : Code} {Q : Exit → Act → World → Prop} {a : Act} {w : World} (h : c.wp P (Exit.then (fun a w => Q .normal a w) (fun _ _ _ => False)) a w) : c.wp P Q a w :=
  wp_mono h fun e a w hq => by cases e <;> first | exact hq | exact hq.elim
/-- The marks of loops that are over, on the way out: the last one first. -/
def Marks (W : World) (B : Nat) : Nat → List Deferred → Prop
  | _, [] => True
  | U, d :: ds => ∃ D, B ≤ D ∧ D < U ∧ d = { target := .collected D, args := #[] } ∧ W.heap[D]? = some (.deferred (some [])) ∧ Marks W B D ds
theorem Marks.mono {W W' : World} {B : Nat} : ∀ (ds : List Deferred) {U U' : Nat}, Marks W B U ds → U ≤ U' → (∀ D, D < U → W.heap[D]? = some (.deferred (some [])) → W'.heap[D]? = some (.deferred (some []))) → Marks W' B U' ds
  | [], _, _, _, _, _ => trivial
  | _ :: ds, _, _, ⟨D, h1, h2, h3, h4, h5⟩, hU, hk => ⟨D, h1, by omega, h3, hk D h2 h4, Marks.mono ds h5 (Nat.le_refl _) (fun E hE => hk E (by omega))⟩
theorem leaves_marks {P : Program} {n : Nat} {fn : Func} {tmps : Array Value} {R : Ending → World → Prop} {B : Nat} (I : World → Prop)
    (hI : ∀ W l o', I W → B ≤ l → W.heap[l]? = some (.deferred (some [])) → I (W.putObj l o')) (hend : ∀ W, I W → LeavesInM Fence.wide n P fn tmps R [] .returning W) :
    ∀ (ds : List Deferred) (U : Nat) (W : World), Marks W B U ds → I W → LeavesInM Fence.wide n P fn tmps R ds .returning W
  | [], _, W, _, hw => hend W hw
  | _ :: ds, _, W, ⟨D, h1, h2, h3, h4, h5⟩, hw => by
    subst h3
    refine ⟨by simp, .inl ⟨_, _, rfl, run_takeDeferred h4, ?_⟩⟩
    refine leaves_marks I hI hend ds D _ (Marks.mono ds h5 (Nat.le_refl _) (fun E hE hd => ?_)) (hI W D _ hw h1 h4)
    rw [World.putObj_heap_other (by omega)]; exact hd
theorem Marks.fr {W W' : World} {B : Nat} {ex : Nat → Prop} {ds : List Deferred} (h : Marks W B W.heap.size ds) (hf : Fr ex W W') (hx : ∀ q, W.heap[q]? = some (.deferred (some [])) → ¬ ex q) : Marks W' B W'.heap.size ds :=
  Marks.mono ds h hf.size (fun D hD hd => (hf.block D hD (hx D hd)).trans hd)

def upd2 {α : Type} (f : Nat → Nat → α) (k j : Nat) (v : α) : Nat → Nat → α := fun k' j' => if k' = k ∧ j' = j then v else f k' j'
theorem upd2_eq {α : Type} (f : Nat → Nat → α) (k j : Nat) (v : α) : upd2 f k j v k j = v := if_pos ⟨rfl, rfl⟩
theorem upd2_ne {α : Type} (f : Nat → Nat → α) {k j k' j' : Nat} (v : α) (h : ¬ (k' = k ∧ j' = j)) : upd2 f k j v k' j' = f k' j' := if_neg h
/-- The 64 cells of a table of 8 rows. -/
def t64 (t : Nat → Nat → Int) : List Value := (List.range 64).map fun i => .int .i64 (t (i / 8) (i % 8))
theorem t64_len (t : Nat → Nat → Int) : (t64 t).length = 64 := by simp [t64]
theorem t64_get (t : Nat → Nat → Int) {n g : Nat} (hn : n < 8) (hg : g < 8) : (t64 t)[n * 8 + g]? = some (.int .i64 (t n g)) := by
  unfold t64
  rw [List.getElem?_map, List.getElem?_range (by omega)]
  have e1 : (n * 8 + g) / 8 = n := by omega
  have e2 : (n * 8 + g) % 8 = g := by omega
  simp [e1, e2]
theorem t64_set (t : Nat → Nat → Int) {n g : Nat} (hn : n < 8) (hg : g < 8) (v : Int) : (t64 t).set (n * 8 + g) (.int .i64 v) = t64 (upd2 t n g v) := by
  apply List.ext_getElem?
  intro j
  rw [List.getElem?_set, t64_len]
  unfold t64
  rw [List.getElem?_map, List.getElem?_map]
  by_cases hj : j < 64
  · rw [List.getElem?_range hj]
    by_cases e : n * 8 + g = j
    · subst e
      have e1 : (n * 8 + g) / 8 = n := by omega
      have e2 : (n * 8 + g) % 8 = g := by omega
      simp only [e1, e2, if_true, hj, Option.map_some]
      rw [upd2_eq]
    · rw [if_neg e]
      simp only [Option.map_some]
      rw [upd2_ne _ _ (by omega)]
  · rw [if_neg (by omega), List.getElem?_eq_none (by simp; omega)]; rfl
/-- The cells of an atlas. -/
def atA (x : MV) (m : Mp) (t f : Nat → Nat → Int) (bm : Nat) : Array Value := List.toArray ([.slice x.wa m.nw x.wc, .slice x.ra m.nr x.rc] ++ (t64 t ++ (t64 f ++ [.map (some bm)])))
theorem atA_size (x : MV) (m : Mp) (t f : Nat → Nat → Int) (bm : Nat) : (atA x m t f bm).size = 131 := by simp [atA, t64_len]
theorem atA_0 (x : MV) (m : Mp) (t f : Nat → Nat → Int) (bm : Nat) : (atA x m t f bm)[0]? = some (.slice x.wa m.nw x.wc) := rfl
theorem atA_1 (x : MV) (m : Mp) (t f : Nat → Nat → Int) (bm : Nat) : (atA x m t f bm)[1]? = some (.slice x.ra m.nr x.rc) := rfl
theorem atA_t (x : MV) (m : Mp) (t f : Nat → Nat → Int) (bm : Nat) {n g : Nat} (hn : n < 8) (hg : g < 8) : (atA x m t f bm)[2 + n * 8 + g]? = some (.int .i64 (t n g)) := by
  unfold atA
  rw [List.getElem?_toArray, List.getElem?_append_right (by simp; omega), List.getElem?_append_left (by simp [t64_len]; omega)]
  rw [← t64_get t hn hg]
  congr 1
  simp; omega
theorem atA_f (x : MV) (m : Mp) (t f : Nat → Nat → Int) (bm : Nat) {n g : Nat} (hn : n < 8) (hg : g < 8) : (atA x m t f bm)[66 + n * 8 + g]? = some (.int .i64 (f n g)) := by
  unfold atA
  rw [List.getElem?_toArray, List.getElem?_append_right (by simp; omega), List.getElem?_append_right (by simp [t64_len]; omega), List.getElem?_append_left (by simp [t64_len]; omega)]
  rw [← t64_get f hn hg]
  congr 1
  simp [t64_len]; omega
theorem atA_map (x : MV) (m : Mp) (t f : Nat → Nat → Int) (bm : Nat) : (atA x m t f bm)[130]? = some (.map (some bm)) := by
  unfold atA
  rw [List.getElem?_toArray, List.getElem?_append_right (by simp), List.getElem?_append_right (by simp [t64_len]), List.getElem?_append_right (by simp [t64_len])]
  simp [t64_len]
theorem atA_setT (x : MV) (m : Mp) (t f : Nat → Nat → Int) (bm : Nat) {n g : Nat} (hn : n < 8) (hg : g < 8) (v : Int) : (atA x m t f bm).setIfInBounds (2 + n * 8 + g) (.int .i64 v) = atA x m (upd2 t n g v) f bm := by
  unfold atA
  rw [List.setIfInBounds_toArray, List.set_append_right _ _ (by simp; omega), List.set_append_left _ _ (by simp [t64_len]; omega)]
  have e : 2 + n * 8 + g - [Value.slice x.wa m.nw x.wc, Value.slice x.ra m.nr x.rc].length = n * 8 + g := by simp; omega
  rw [e, t64_set t hn hg v]
theorem atA_setF (x : MV) (m : Mp) (t f : Nat → Nat → Int) (bm : Nat) {n g : Nat} (hn : n < 8) (hg : g < 8) (v : Int) : (atA x m t f bm).setIfInBounds (66 + n * 8 + g) (.int .i64 v) = atA x m t (upd2 f n g v) bm := by
  unfold atA
  rw [List.setIfInBounds_toArray, List.set_append_right _ _ (by simp; omega), List.set_append_right _ _ (by simp [t64_len]; omega), List.set_append_left _ _ (by simp [t64_len]; omega)]
  have e : 66 + n * 8 + g - [Value.slice x.wa m.nw x.wc, Value.slice x.ra m.nr x.rc].length - (t64 t).length = n * 8 + g := by simp [t64_len]; omega
  rw [e, t64_set f hn hg v]
/-- Eight flags. -/
def fl8 (S : Nat → Bool) : Array Value := List.toArray ((List.range 8).map fun i => .bool (S i))
theorem fl8_get (S : Nat → Bool) {i : Nat} (hi : i < 8) : (fl8 S)[i]? = some (.bool (S i)) := by
  unfold fl8
  rw [List.getElem?_toArray, List.getElem?_map, List.getElem?_range hi]; rfl
theorem fl8_set (S : Nat → Bool) {i : Nat} (hi : i < 8) (v : Bool) : (fl8 S).setIfInBounds i (.bool v) = fl8 (upd S i v) := by
  unfold fl8
  rw [List.setIfInBounds_toArray]
  congr 1
  apply List.ext_getElem?
  intro j
  rw [List.getElem?_set, List.getElem?_map, List.getElem?_map]
  by_cases hj : j < 8
  · rw [List.getElem?_range hj]
    by_cases e : i = j
    · subst e; simp [hj, upd_same]
    · rw [if_neg e]; simp only [Option.map_some]; rw [upd_ne (fun h => e h.symm)]
  · rw [if_neg (by omega), List.getElem?_eq_none (by simp; omega)]; rfl

/-- An atlas that is being made in a call that began in w. -/
structure AQ (w X : World) (x : MV) (m : Mp) (t f : Nat → Nat → Int) (ds : List Deferred) (L : List (Nat × Array Value × TypeId)) : Prop where
  bf : BF w X ((w.heap.size, #[.slice x.wa m.nw x.wc, .slice x.ra m.nr x.rc], 37) :: (w.heap.size + 2, atA x m t f (w.heap.size + 1), 135) :: (w.heap.size + 3, #[.pointer (some ⟨w.heap.size + 2, 0, none⟩)], 125) :: L)
  lo : ∀ p, p ∈ L → w.heap.size + 4 ≤ p.1
  mp : X.heap[w.heap.size + 1]? = some (.map #[] 0)
  mks : Marks X (w.heap.size + 4) X.heap.size ds
section
variable {w X Y : World} {x : MV} {m : Mp} {t f : Nat → Nat → Int} {ds : List Deferred} {L : List (Nat × Array Value × TypeId)}
theorem AQ.size (h : AQ w X x m t f ds L) : w.heap.size + 4 ≤ X.heap.size := (h.bf.lt (.tail _ (.tail _ (.head _)))).2
theorem AQ.below (h : AQ w X x m t f ds L) (hb : Below X.heap.size X Y) : AQ w Y x m t f ds L :=
  ⟨h.bf.below hb, h.lo, (hb.block _ (by have := h.size; omega)).trans h.mp, h.mks.fr (Fr.below hb (fun _ => False)) (fun _ _ h => h)⟩
theorem AQ.new (h : AQ w X x m t f ds L) (cs : Array Value) (T : TypeId) : AQ w (X.alloc (.cells cs T)) x m t f ds ((X.heap.size, cs, T) :: L) := by
  have h1 := h.below (below_alloc X (.cells cs T))
  refine ⟨(h.bf.alloc cs T).sub fun p hp => ?_, fun p hp => ?_, h1.mp, h1.mks⟩
  · simp only [List.mem_cons] at hp ⊢
    rcases hp with rfl | rfl | rfl | rfl | hp
    · exact .inr (.inl rfl)
    · exact .inr (.inr (.inl rfl))
    · exact .inr (.inr (.inr (.inl rfl)))
    · exact .inl rfl
    · exact .inr (.inr (.inr (.inr hp)))
  · rcases List.mem_cons.1 hp with rfl | hp
    · exact h.size
    · exact h.lo p hp
theorem AQ.sub {L' : List (Nat × Array Value × TypeId)} (h : AQ w X x m t f ds L) (hl : ∀ p, p ∈ L' → p ∈ L) : AQ w X x m t f ds L' := by
  refine ⟨h.bf.sub fun p hp => ?_, fun p hp => h.lo p (hl p hp), h.mp, h.mks⟩
  simp only [List.mem_cons] at hp ⊢
  rcases hp with rfl | rfl | rfl | hp
  · exact .inl rfl
  · exact .inr (.inl rfl)
  · exact .inr (.inr (.inl rfl))
  · exact .inr (.inr (.inr (hl p hp)))
theorem not_cells {X : World} {b q : Nat} {cs : Array Value} {T : TypeId} {o : Obj} (h : X.heap[b]? = some (.cells cs T (0, 0))) (hq : X.heap[q]? = some o) (ho : ∀ cs T fr, o ≠ .cells cs T fr) : ¬ q = b := fun e => by
  subst e; rw [h] at hq; cases hq; exact ho _ _ _ rfl
theorem AQ.setA (h : AQ w X x m t f ds L) {i : Nat} {v : Value} {t' f' : Nat → Nat → Int} (hi : i < 131) (hc : (atA x m t f (w.heap.size + 1)).setIfInBounds i v = atA x m t' f' (w.heap.size + 1)) : AQ w (X.setCell ⟨w.heap.size + 2, i, none⟩ v) x m t' f' ds L := by
  have hb := (h.bf.bk _ _ _ (.tail _ (.head _))).2
  refine ⟨(BF.set1 (i := i) (L' := (w.heap.size, #[.slice x.wa m.nw x.wc, .slice x.ra m.nr x.rc], 37) :: (w.heap.size + 3, #[.pointer (some ⟨w.heap.size + 2, 0, none⟩)], 125) :: L) h.bf (.tail _ (.head _)) v (by rw [atA_size]; exact hi) hc (fun p hp => ?_)).sub fun p hp => ?_, h.lo, ?_, ?_⟩
  · simp only [List.mem_cons] at hp ⊢
    rcases hp with rfl | rfl | hp
    · exact ⟨by simp only; omega, .inl rfl⟩
    · exact ⟨by simp only; omega, .inr (.inr (.inl rfl))⟩
    · have := h.lo p hp
      exact ⟨by omega, .inr (.inr (.inr hp))⟩
  · simp only [List.mem_cons] at hp ⊢
    rcases hp with rfl | rfl | rfl | hp
    · exact .inr (.inl rfl)
    · exact .inl rfl
    · exact .inr (.inr (.inl rfl))
    · exact .inr (.inr (.inr hp))
  · exact ((Fr.set X (w.heap.size + 2) i v).block _ (by have := h.size; omega) (by omega)).trans h.mp
  · exact h.mks.fr (Fr.set X (w.heap.size + 2) i v) (fun q hq => not_cells hb hq (fun _ _ _ e => by cases e))
theorem AQ.setT (h : AQ w X x m t f ds L) {n g : Nat} (hn : n < 8) (hg : g < 8) (v : Int) : AQ w (X.setCell ⟨w.heap.size + 2, 2 + n * 8 + g, none⟩ (.int .i64 v)) x m (upd2 t n g v) f ds L := h.setA (by omega) (atA_setT x m t f _ hn hg v)
theorem AQ.setF (h : AQ w X x m t f ds L) {n g : Nat} (hn : n < 8) (hg : g < 8) (v : Int) : AQ w (X.setCell ⟨w.heap.size + 2, 66 + n * 8 + g, none⟩ (.int .i64 v)) x m t (upd2 f n g v) ds L := h.setA (by omega) (atA_setF x m t f _ hn hg v)
theorem AQ.setL {b i : Nat} {cs cs' : Array Value} {T : TypeId} {v : Value} (h : AQ w X x m t f ds ((b, cs, T) :: L)) (hi : i < cs.size) (hc : cs.setIfInBounds i v = cs') (hl : ∀ p, p ∈ L → p.1 ≠ b) : AQ w (X.setCell ⟨b, i, none⟩ v) x m t f ds ((b, cs', T) :: L) := by
  have hm : (b, cs, T) ∈ (w.heap.size, #[.slice x.wa m.nw x.wc, .slice x.ra m.nr x.rc], 37) :: (w.heap.size + 2, atA x m t f (w.heap.size + 1), 135) :: (w.heap.size + 3, #[.pointer (some ⟨w.heap.size + 2, 0, none⟩)], 125) :: (b, cs, T) :: L := .tail _ (.tail _ (.tail _ (.head _)))
  have hb := (h.bf.bk _ _ _ hm).2
  have hb4 := h.lo _ (.head _)
  simp only at hb4
  refine ⟨(BF.set1 (i := i) (L' := (w.heap.size, #[.slice x.wa m.nw x.wc, .slice x.ra m.nr x.rc], 37) :: (w.heap.size + 2, atA x m t f (w.heap.size + 1), 135) :: (w.heap.size + 3, #[.pointer (some ⟨w.heap.size + 2, 0, none⟩)], 125) :: L) h.bf hm v hi hc (fun p hp => ?_)).sub fun p hp => ?_, fun p hp => ?_, ?_, ?_⟩
  · simp only [List.mem_cons] at hp ⊢
    rcases hp with rfl | rfl | rfl | hp
    · exact ⟨by simp only; omega, .inl rfl⟩
    · exact ⟨by simp only; omega, .inr (.inl rfl)⟩
    · exact ⟨by simp only; omega, .inr (.inr (.inl rfl))⟩
    · exact ⟨hl p hp, .inr (.inr (.inr (.inr hp)))⟩
  · simp only [List.mem_cons] at hp ⊢
    rcases hp with rfl | rfl | rfl | rfl | hp
    · exact .inr (.inl rfl)
    · exact .inr (.inr (.inl rfl))
    · exact .inr (.inr (.inr (.inl rfl)))
    · exact .inl rfl
    · exact .inr (.inr (.inr (.inr hp)))
  · rcases List.mem_cons.1 hp with rfl | hp
    · exact hb4
    · exact h.lo p (.tail _ hp)
  · exact ((Fr.set X b i v).block _ (by have := h.size; omega) (by omega)).trans h.mp
  · exact h.mks.fr (Fr.set X b i v) (fun q hq => not_cells hb hq (fun _ _ _ e => by cases e))
/-- Behind a part that has written in the atlas alone. -/
theorem AQ.fr {t' f' : Nat → Nat → Int} (h : AQ w X x m t f ds L) (hf : Fr (fun q => q = w.heap.size + 2) X Y) (hb : Y.heap[w.heap.size + 2]? = some (.cells (atA x m t' f' (w.heap.size + 1)) 135 (0, 0))) : AQ w Y x m t' f' ds L := by
  have h2 := (h.bf.bk _ _ _ (.tail _ (.head _))).2
  refine ⟨⟨h.bf.fr.trans (hf.low (by have := h.size; omega) (fun q hq e => by omega)), fun b cs T hm => ?_⟩, h.lo, (hf.block _ (by have := h.size; omega) (by omega)).trans h.mp, h.mks.fr hf (fun q hq => not_cells h2 hq (fun _ _ _ e => by cases e))⟩
  have key : ∀ b cs T, (b, cs, T) ∈ (w.heap.size, #[.slice x.wa m.nw x.wc, .slice x.ra m.nr x.rc], 37) :: (w.heap.size + 2, atA x m t f (w.heap.size + 1), 135) :: (w.heap.size + 3, #[.pointer (some ⟨w.heap.size + 2, 0, none⟩)], 125) :: L → b ≠ w.heap.size + 2 → w.heap.size ≤ b ∧ Y.heap[b]? = some (.cells cs T (0, 0)) := fun b cs T hm hne => by
    obtain ⟨k1, k2⟩ := h.bf.bk b cs T hm
    exact ⟨k1, (hf.block b (Array.getElem?_eq_some_iff.1 k2).1 hne).trans k2⟩
  simp only [List.mem_cons, Prod.mk.injEq] at hm
  rcases hm with ⟨rfl, rfl, rfl⟩ | ⟨rfl, rfl, rfl⟩ | ⟨rfl, rfl, rfl⟩ | hm
  · exact key _ _ _ (.head _) (by omega)
  · exact ⟨by omega, hb⟩
  · exact key _ _ _ (.tail _ (.tail _ (.head _))) (by omega)
  · have h4 := h.lo _ hm
    simp only at h4
    exact key _ _ _ (.tail _ (.tail _ (.tail _ hm))) (by omega)
theorem AQ.mark {D U : Nat} (h : AQ w X x m t f ds L) (hm : Marks X (w.heap.size + 4) U ds) (hU : U ≤ D) (hU2 : w.heap.size + 4 ≤ U) (hD : X.heap[D]? = some (.deferred (some []))) : AQ w X x m t f ({ target := .collected D, args := #[] } :: ds) L :=
  ⟨h.bf, h.lo, h.mp, D, by omega, (Array.getElem?_eq_some_iff.1 hD).1, rfl, hD, Marks.mono ds hm hU (fun _ _ h => h)⟩
end
/-- One road after the other of a list. -/
def relaxL (m : Mp) (near : Nat) (J : List Nat) (s : TF) : TF := J.foldl (fun s k => relax1 m near k s) s
theorem relax1_no {m : Mp} {near k : Nat} {s : TF} (h : isAt m near k = false) : relax1 m near k s = s := by
  unfold relax1
  unfold isAt at h
  rw [if_neg (fun h2 => by rw [decide_eq_true h2.1] at h; cases h)]
theorem relaxN_range (m : Mp) (near : Nat) (s : TF) : ∀ j, relaxN m near j s = relaxL m near ((List.range j).filter (isAt m near)) s
  | 0 => rfl
  | j + 1 => by
    simp only [relaxN, relaxN_range m near s j]
    unfold relaxL
    rw [List.range_succ, List.filter_append, List.foldl_append]
    cases h : isAt m near j
    · rw [relax1_no h]; simp [h]
    · simp [h]
theorem relaxN_at (m : Mp) (near : Nat) (s : TF) : relaxN m near m.nr s = relaxL m near (atL m near) s := relaxN_range m near s m.nr
theorem relaxL_take (m : Mp) (near : Nat) (J : List Nat) (s : TF) {k : Nat} (hk : k < J.length) : relaxL m near (J.take (k + 1)) s = relax1 m near (J.getD k 0) (relaxL m near (J.take k) s) := by
  unfold relaxL
  rw [List.take_add_one, List.foldl_append, List.getD_eq_getElem?_getD, List.getElem?_eq_getElem hk]
  rfl
/-- What holds while the roads of a place are looked at, one by one. -/
theorem rlx_take {m : Mp} (ok : OkM m) {near : Nat} (T0 F0 : Nat → Int) (k : Nat) : (relaxL m near ((atL m near).take k) (T0, F0)).1 near = T0 near := by
  have key : ∀ J : List Nat, (∀ j, j ∈ J → j < m.nr) → ∀ s : TF, s.1 near = T0 near → (relaxL m near J s).1 near = T0 near := by
    intro J
    induction J with
    | nil => intro _ s h; exact h
    | cons j J ih =>
      intro hJ s hs
      refine ih (fun i hi => hJ i (.tail _ hi)) _ ?_
      show (relax1 m near j s).1 near = T0 near
      unfold relax1
      rcases otherR_iff ok (k := j) (near := near) (hJ j (.head _)) with ⟨e, _⟩ | ⟨o, e, ho, hne, _⟩
      · rw [e, if_neg (by omega)]; exact hs
      · rw [e]
        simp only [Int.toNat_natCast]
        split
        · simp only; rw [upd_ne (Ne.symm hne)]; exact hs
        · exact hs
  refine key _ (fun j hj => ?_) (T0, F0) rfl
  have h1 := List.mem_of_mem_take hj
  unfold atL at h1
  rw [List.mem_filter, List.mem_range] at h1
  exact h1.1
end Go.Proofs.Ytpnkgjkoophckaa
