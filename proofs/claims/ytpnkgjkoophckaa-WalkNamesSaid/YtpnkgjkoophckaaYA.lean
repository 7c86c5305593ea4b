/- Walk: the state of divide; plain laws of divisions' lengths. -/
import Derived.Test.YtpnkgjkoophckaaWZ
import Derived.Test.YtpnkgjkoophckaaWT
namespace Go.Proofs.Ytpnkgjkoophckaa
open Go.RowKit Go.Shelf Go.Maps

theorem dvStep_len {ok : Nat → Bool} {s : Nat} {r : Nat → List Nat} (hr : ∀ t, (r t).length ≤ t) {b : List Nat} {p : Nat} (hb : b.length ≤ s) (hp : 0 < p ∧ p ≤ s) : (dvStep ok s r b p).length ≤ s := by
  unfold dvStep
  have := hr (s - p)
  split
  · exact hb
  · split
    · exact hb
    · split
      · rw [List.length_append]; simp only [List.length_cons, List.length_nil]; omega
      · exact hb
theorem dvFold_len {ok : Nat → Bool} {s : Nat} {r : Nat → List Nat} (hr : ∀ t, (r t).length ≤ t) : ∀ (L : List Nat) (b : List Nat), b.length ≤ s → (∀ p, p ∈ L → 0 < p ∧ p ≤ s) → (L.foldl (dvStep ok s r) b).length ≤ s
  | [], _, hb, _ => hb
  | p :: L, _, hb, h => dvFold_len hr L _ (dvStep_len hr hb (h p (.head _))) (fun q hq => h q (.tail _ hq))
theorem dvF_len (ok : Nat → Bool) : ∀ k s, (dvF ok k s).length ≤ s
  | 0, s => Nat.zero_le _
  | k + 1, s => by
    unfold dvF
    refine dvFold_len (dvF_len ok k) _ _ (Nat.zero_le _) (fun p hp => ?_)
    obtain ⟨h1, h2⟩ := subsF_mem _ _ _ p (Nat.and_self _) hp
    exact ⟨h2, sub_le h1⟩
theorem dv_len (ok : Nat → Bool) (s : Nat) : (dv ok s).length ≤ s := dvF_len ok s s
theorem dv_zero (ok : Nat → Bool) : dv ok 0 = [] := rfl
/-- What the loop over the parts has found. -/
def dvD (ok : Nat → Bool) (s : Nat) (D : List Nat) : List Nat := D.foldl (dvStep ok s (dv ok)) []
theorem dvD_snoc (ok : Nat → Bool) (s : Nat) (D : List Nat) (p : Nat) : dvD ok s (D ++ [p]) = dvStep ok s (dv ok) (dvD ok s D) p := by unfold dvD; rw [List.foldl_append]; rfl
theorem dvD_len {ok : Nat → Bool} {s : Nat} {D : List Nat} (h : ∀ p, p ∈ D → 0 < p ∧ p ≤ s) : (dvD ok s D).length ≤ s := dvFold_len (dv_len ok) D [] (Nat.zero_le _) h
/-- The cells of the table of divisions. -/
def eA (E : Nat → Value) (N : Nat) : Array Value := ((List.range N).map E).toArray
theorem eA_get (E : Nat → Value) {N k : Nat} (h : k < N) : (eA E N)[k]? = some (E k) := by
  simp [eA, h]
theorem eA_set (E : Nat → Value) {N k : Nat} (v : Value) (_ : k < N) : (eA E N).setIfInBounds k v = eA (fun j => if j = k then v else E j) N := by
  unfold eA
  rw [List.setIfInBounds_toArray]
  congr 1
  refine List.ext_getElem (by simp) (fun j h1 h2 => ?_)
  simp only [List.length_set, List.length_map, List.length_range] at h1
  rw [List.getElem_set]
  simp only [List.getElem_map, List.getElem_range]
  by_cases e : k = j
  · rw [if_pos e, if_pos e.symm]
  · rw [if_neg e, if_neg (fun h => e h.symm)]
/-- divide$1 with what it holds. -/
def clo (Bb Ba Bl Bs : Nat) : Value := .func (.func 102) #[] #[.pointer (some ⟨Bb, 0, none⟩), .pointer (some ⟨Ba, 0, none⟩), .pointer (some ⟨Bl, 0, none⟩), .pointer (some ⟨Bs, 0, none⟩)]
/-- divide at work: the table Z, of values E, in the block BQ; made behind the world w. -/
structure Dv (w X : World) (A bm n : Nat) (x : MV) (m : Mp) (Bb Ba Bl Bs BQ N : Nat) (lim : Int) (Z : Nat → List Nat) (E : Nat → Value) : Prop where
  st : At X A bm n x m
  fr : Fr (fun q => q = bm) w X
  lo : w.heap.size ≤ BQ
  bb : X.heap[Bb]? = some (.cells #[.slice (some ⟨BQ, 0, none⟩) N N] 168 (0, 0))
  ba : X.heap[Ba]? = some (.cells #[.pointer (some ⟨A, 0, none⟩)] 125 (0, 0))
  bl : X.heap[Bl]? = some (.cells #[.int .i64 lim] 3 (0, 0))
  bs : X.heap[Bs]? = some (.cells #[clo Bb Ba Bl Bs] 169 (0, 0))
  be : X.heap[BQ]? = some (.cells (eA E N) 136 (0, 0))
  ho : ∀ k, k < N → Hold X (E k) (Z k)
section
variable {w X Y : World} {A bm n n' Bb Ba Bl Bs BQ N : Nat} {x : MV} {m : Mp} {lim : Int} {Z : Nat → List Nat} {E : Nat → Value}
theorem IsMp.ne {W : World} {bm b : Nat} {cs : Array Value} {T : TypeId} (h : IsMp W bm) (hb : W.heap[b]? = some (.cells cs T (0, 0))) : b ≠ bm := by
  obtain ⟨es, k, h⟩ := h
  rintro rfl
  rw [h] at hb; cases hb
theorem Dv.go (h : Dv w X A bm n x m Bb Ba Bl Bs BQ N lim Z E) (hf : Fr (fun q => q = bm) X Y) (hs : At Y A bm n' x m) : Dv w Y A bm n' x m Bb Ba Bl Bs BQ N lim Z E := by
  have hm := h.st.cm.mp
  have k : ∀ {b : Nat} {cs : Array Value} {T : TypeId}, X.heap[b]? = some (.cells cs T (0, 0)) → Y.heap[b]? = some (.cells cs T (0, 0)) := fun {b cs T} hb => (hf.block b (Array.getElem?_eq_some_iff.1 hb).1 (hm.ne hb)).trans hb
  exact ⟨hs, h.fr.trans hf, h.lo, k h.bb, k h.ba, k h.bl, k h.bs, k h.be, fun i hi => (h.ho i hi).fr hf (fun b cs hb e => hm.ne hb e)⟩
theorem Dv.below (h : Dv w X A bm n x m Bb Ba Bl Bs BQ N lim Z E) (hb : Below X.heap.size X Y) : Dv w Y A bm n x m Bb Ba Bl Bs BQ N lim Z E := h.go (Fr.below hb _) (h.st.below hb)
theorem Dv.mono (h : Dv w X A bm n x m Bb Ba Bl Bs BQ N lim Z E) (hn : n ≤ n') : Dv w X A bm n' x m Bb Ba Bl Bs BQ N lim Z E := ⟨h.st.mono hn, h.fr, h.lo, h.bb, h.ba, h.bl, h.bs, h.be, h.ho⟩
theorem Dv.put {n0 : Nat} (h0 : At w A bm n0 x m) (h : Dv w X A bm n x m Bb Ba Bl Bs BQ N lim Z E) {k : Nat} (hk : k < N) {v : Value} {l : List Nat} (hv : Hold X v l) :
    Dv w (X.setCell ⟨BQ, k, none⟩ v) A bm n x m Bb Ba Bl Bs BQ N lim (fun j => if j = k then l else Z j) (fun j => if j = k then v else E j) := by
  obtain ⟨h1, h2⟩ := At.setN h0 h.st h.fr (b := BQ) h.lo k v
  have hf := Fr.set X BQ k v
  have ne : ∀ {b : Nat} {cs : Array Value} {T : TypeId}, X.heap[b]? = some (.cells cs T (0, 0)) → T ≠ 136 → b ≠ BQ := fun {b cs T} hb ht e => by
    subst e; rw [h.be] at hb; injection hb with e; injection e with _ e; exact ht e.symm
  have kp : ∀ {b : Nat} {cs : Array Value} {T : TypeId}, X.heap[b]? = some (.cells cs T (0, 0)) → T ≠ 136 → (X.setCell ⟨BQ, k, none⟩ v).heap[b]? = some (.cells cs T (0, 0)) := fun {b cs T} hb ht => (hf.block b (Array.getElem?_eq_some_iff.1 hb).1 (ne hb ht)).trans hb
  have kh : ∀ {u : Value} {l : List Nat}, Hold X u l → Hold (X.setCell ⟨BQ, k, none⟩ v) u l := fun {u l} hu => hu.fr hf (fun b cs hb => ne hb (by decide))
  refine ⟨h1, h2, h.lo, kp h.bb (by decide), kp h.ba (by decide), kp h.bl (by decide), kp h.bs (by decide), ?_, fun j hj => ?_⟩
  · have he := h.be
    rw [← eA_set E v hk]
    have hi : k < (eA E N).size := by simpa [eA] using hk
    simp [World.setCell, Array.getElem?_modify, he, Array.setIfInBounds, hi]
  · by_cases e : j = k
    · rw [if_pos e, if_pos e]; exact kh hv
    · rw [if_neg e, if_neg e]; exact kh (h.ho j hj)
theorem Dv.cells (h : Dv w X A bm n x m Bb Ba Bl Bs BQ N lim Z E) : X.cell? ⟨Bb, 0, none⟩ = some (.slice (some ⟨BQ, 0, none⟩) N N) ∧ X.cell? ⟨Ba, 0, none⟩ = some (.pointer (some ⟨A, 0, none⟩)) ∧ X.cell? ⟨Bl, 0, none⟩ = some (.int .i64 lim) ∧ X.cell? ⟨Bs, 0, none⟩ = some (clo Bb Ba Bl Bs) :=
  ⟨cell_of_row _ _ 0 _ _ _ h.bb, cell_of_row _ _ 0 _ _ _ h.ba, cell_of_row _ _ 0 _ _ _ h.bl, cell_of_row _ _ 0 _ _ _ h.bs⟩
theorem Dv.cell (h : Dv w X A bm n x m Bb Ba Bl Bs BQ N lim Z E) {k : Nat} (hk : k < N) : X.cell? ⟨BQ, k, none⟩ = some (E k) := (cell_of_row _ _ _ _ _ _ h.be).trans (eA_get E hk)
theorem Dv.thaw (h : Dv w X A bm n x m Bb Ba Bl Bs BQ N lim Z E) (k : Nat) : X.frozen? ⟨BQ, k, none⟩ = false := frozen_of_row _ _ _ _ _ h.be
end
/-- How many entries a call may make in the map of tours. -/
def cD : Nat → Nat
  | 0 => 0
  | p + 1 => 2 ^ (p + 1) * (200000 + cD p)
theorem cD_le : ∀ p : Fin 9, cD p ≤ 30000000000000000 := by decide +kernel
theorem cD_mono {p q : Nat} (h : p ≤ q) : cD p ≤ cD q := by
  induction q with
  | zero => obtain rfl : p = 0 := by omega
            exact Nat.le_refl _
  | succ q ih =>
    rcases Nat.lt_or_ge p (q + 1) with h1 | h1
    · refine Nat.le_trans (ih (by omega)) ?_
      simp only [cD]
      refine Nat.le_trans (Nat.le_add_left _ 200000) (Nat.le_mul_of_pos_left _ (Nat.two_pow_pos _))
    · obtain rfl : p = q + 1 := by omega
      exact Nat.le_refl _
/-- A part can be walked in the limit. -/
def okL (m : Mp) (lim : Int) (p : Nat) : Bool := decide (lgM m p ≤ lim)
/-- What a call of divide$1 gives. -/
def GivesV (w : World) (A bm n : Nat) (x : MV) (m : Mp) (Bb Ba Bl Bs BQ N : Nat) (lim : Int) (Z : Nat → List Nat) (s : Nat) (e : Ending) (W' : World) : Prop :=
  ∃ v Z' E', e = .returned v ∧ Dv w W' A bm n x m Bb Ba Bl Bs BQ N lim Z' E' ∧ Hold W' v (dv (okL m lim) s) ∧ (∀ k, k ≤ s → Z' k = [] ∨ Z' k = dv (okL m lim) k) ∧ ∀ k, s < k → Z' k = Z k
end Go.Proofs.Ytpnkgjkoophckaa
