/- A law for a range over a function whose rounds always go on, at the wide fence; the iterator may itself range over a function. -/
import Derived.Test.YtagfcfojfjkmbaaB1
namespace Go.Proofs.Ytagfcfojfjkmbaa
open Go.RowKit Go.Shelf

/-- The two blocks of a loop: the rounds' deferred calls at D, the record behind it. -/
structure Book (D : Nat) (r : Loop) (W : World) : Prop where
  lp : W.heap[D + 1]? = some (.loop r)
  df : W.heap[D]? = some (.deferred (some []))

theorem Book.grown {D : Nat} {r : Loop} {W W' : World} {row : Option Nat} (h : Book D r W) (hg : W.grownBy W' row) (hr : ∀ q, row = some q → D + 1 < q) : Book D r W' := by
  have hl := (Array.getElem?_eq_some_iff.1 h.lp).1
  exact ⟨(hg.block _ hl (fun e => by have := hr _ e.symm; omega)).trans h.lp, (hg.block _ (by omega) (fun e => by have := hr _ e.symm; omega)).trans h.df⟩
theorem Book.keeps {D : Nat} {r : Loop} {W W' : World} (h : Book D r W) (hk : KeepsFrom D W W') : Book D r W' :=
  ⟨hk.same _ _ (by omega) h.lp rfl, hk.same _ _ (Nat.le_refl _) h.df rfl⟩
theorem Book.put {D : Nat} {r : Loop} {W : World} (h : Book D r W) (r' : Loop) : Book D r' (W.putObj (D + 1) (.loop r')) :=
  ⟨World.putObj_heap_same (Array.getElem?_eq_some_iff.1 h.lp).1, (World.putObj_heap_other (by omega)).trans h.df⟩

/-- The iterator gives all that S says, whatever the rounds do, if each goes on. -/
def SeqAll {α : Type} (P : Program) (g : Nat) (lb : Array Value) (encs : α → Array Value) (K : World → World → Prop) (S : List α → Prop) (N : Nat) (w : World) : Prop :=
  ∀ (n l : Nat) (J : List α → World → Prop) (W : World), Below w.heap.size w W → OwnFrom W.heap.size J →
    (∀ pre x W1, J pre W1 → pre.length < N → YieldAt Fence.wide n P l (encs x) W1 fun e W' => e = .returned (.bool true) ∧ J (pre ++ [x]) W' ∧ K W1 W' ∧ KeepsOthers W1 W') → J [] W →
    CallsIn Fence.wide n P g (#[.func (.yield l) #[] #[]] ++ lb) W fun e W' => (∃ v, e = .returned v) ∧ ∃ xs, S xs ∧ J xs W'

theorem wide_range {α : Type} {P : Program} {n : Nat} {g : Operand} {ps : Array Tmp} {assign body : Code} {Q : Exit → Act → World → Prop} {a : Act} {w : World} {gf : Nat} {lb : Array Value}
    (hg : a.eval g = .func (.func gf) #[] lb) (eg : ∀ args w, (callFunc gf args).run P w = .ok (.enter gf args) w)
    {encs : α → Array Value} {K : World → World → Prop} {S : List α → Prop} {N : Nat} (hseq : SeqAll P gf lb encs K S N w) (hps : ∀ x, (encs x).size = ps.size)
    (hKt : ∀ {A B C : World}, K A B → K B C → K A C) (hKb : ∀ (W : World) (l : Nat) (o o' : Obj), w.heap.size ≤ l → W.heap[l]? = some o → o.isCells = false → o.isWalk = false → K W (W.putObj l o'))
    (I : List α → World → Prop) (hI : OwnFrom w.heap.size I) (h0 : I [] w)
    (A : List α → α → Act → World → Prop) (hA : ∀ pre x a', OwnFrom w.heap.size (fun (_ : Unit) W => A pre x a' W))
    (hassign : ∀ l pre x W, I pre W → pre.length < N → assign.wpIn (Fence.wide.inRound l) (n - 1) P (Exit.then (fun a' W' => K W W' ∧ KeepsOthers W W' ∧ A pre x a' W') (fun _ _ _ => False))
      { tmps := (ps.zip (encs x)).foldl (fun t (p, v) => t.setIfInBounds p v) a.tmps, defers := [] } W)
    (hbody : ∀ l pre x a' W, w.heap.size ≤ l → (∃ r, W.heap[l]? = some (.loop r)) → A pre x a' W → pre.length < N →
      body.wpIn (Fence.wide.inRound l) (n - 1) P (fun e _ W' => e = .normal ∧ KeepsOthers W W' ∧ K W W' ∧ I (pre ++ [x]) W') a' W)
    (hdone : ∀ D xs W, w.heap.size ≤ D → S xs → I xs W → W.heap[D]? = some (.deferred (some [])) → Q .normal { a with defers := { target := .collected D, args := #[] } :: a.defers } W) :
    (Code.rangeFunc g ps assign body).wpIn Fence.wide n P Q a w := by
  refine wpIn_rangeFunc fun fn hfn => ?_
  let rc : Loop := { state := .ready, pending := none, fn, tmps := a.tmps, params := ps, assign, body, defers := w.heap.size }
  have b0 : Book w.heap.size rc ((w.alloc (.deferred (some []))).alloc (.loop rc)) := by
    constructor
    · have := World.alloc_heap_new (w.alloc (.deferred (some []))) (.loop rc); rwa [World.size_alloc] at this
    · exact (Below.heap_alloc _ _ _ (by simp)).trans (World.alloc_heap_new w _)
  have hb : Below w.heap.size w ((w.alloc (.deferred (some []))).alloc (.loop rc)) := ((Below.refl _ w).alloc (Nat.le_refl _) _).alloc (by simp) _
  have hs : w.heap.size + 1 < ((w.alloc (.deferred (some []))).alloc (.loop rc)).heap.size := by simp
  refine ⟨w.heap.size + 1, [{ target := .collected w.heap.size, args := #[] }], (w.alloc (.deferred (some []))).alloc (.loop rc), { target := .fn (.func gf) lb, args := #[.func (.yield (w.heap.size + 1)) #[] #[]] }, (w.alloc (.deferred (some []))).alloc (.loop rc), gf,
    #[.func (.yield (w.heap.size + 1)) #[] #[]] ++ lb, (w.alloc (.deferred (some []))).alloc (.loop rc), run_enterLoop_outer fn a.tmps ps assign body, ?_, fun _ _ => trivial, ?_, fun h => (by cases h), ?_⟩
  · simp only [resolve, hg]
    simp [go_sem]
  · simp [invoke, go_sem, eg]
  refine (hseq (n - 1) (w.heap.size + 1) (fun pre W => I pre W ∧ Book w.heap.size rc W) _ hb ?_ ?_ ⟨hI.alloc _ (hI.alloc _ h0), b0⟩).mono ?_
  · intro s X Y row h1 h2 h3
    exact ⟨hI s X Y row h1.1 h2 (fun r e => ⟨by have := (h3 r e).1; simp at this; omega, (h3 r e).2⟩), h1.2.grown h2 (fun r e => by have := (h3 r e).1; simp at this; omega)⟩
  · rintro pre x W ⟨hi, hbk⟩ hlen
    refine ⟨fn, _, assign, body, run_yield hbk.lp (hps x), roundIn_of_wpIn hfn ?_⟩
    refine wpIn_mono (hassign _ pre x W hi hlen) ?_
    intro e a' W1 hq
    cases e with
    | normal =>
      obtain ⟨k1, f1, hax⟩ := hq
      have bk1 := hbk.keeps (f1.from _)
      refine ⟨_, run_beginRound bk1.lp rfl, ?_⟩
      have k2 := hKb _ _ _ (.loop { rc with state := .busy }) (by omega) bk1.lp rfl rfl
      have bk2 := bk1.put { rc with state := .busy }
      refine wpIn_mono (hbody _ pre x a' _ (by omega) ⟨_, bk2.lp⟩ ((hA pre x a').putObj (s := ()) _ hax (by omega) bk1.lp rfl) hlen) ?_
      rintro e a3 W3 ⟨rfl, f3, k3, hi3⟩
      have bk3 := bk2.keeps (f3.from _)
      have k4 := hKb _ _ _ (.loop rc) (by omega) bk3.lp rfl rfl
      refine ⟨_, _, run_endRound none bk3.lp, rfl, ⟨hI.putObj _ hi3 (by omega) bk3.lp rfl, bk3.put _⟩, hKt (hKt (hKt k1 k2) k3) k4, Nat.le_trans f1.size (by have := f3.size; simp at this ⊢; exact this), fun k o hk ho => ?_⟩
      by_cases e : k = w.heap.size + 1
      · subst e; rw [hbk.lp] at hk; cases hk; exact (bk3.put _).lp
      · rw [World.putObj_heap_other e]
        exact f3.same _ _ ((World.putObj_heap_other e).trans (f1.same _ _ hk ho)) ho
    | _ => exact hq.elim
  · rintro e W ⟨⟨v, rfl⟩, xs, hS, hi, hbk⟩
    refine ⟨none, _, run_endLoop hbk.lp (by simp [rc]), ?_⟩
    exact hdone _ xs _ (Nat.le_refl _) hS (hI.putObj _ hi (by omega) hbk.lp rfl) ((hbk.put _).df)
end Go.Proofs.Ytagfcfojfjkmbaa
