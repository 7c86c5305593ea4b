/- Walk: ranging over a function (turned from the Flow seat's text PE). -/
import Derived.Test.YtpnkgjkoophckaaWI
namespace Go.Proofs.Ytpnkgjkoophckaa
open Go.RowKit Go.Shelf

/-- The two blocks of a loop: the rounds' deferred calls at D, the record behind it. -/
structure Book (D : Nat) (r : Loop) (W : World) : Prop where
  lp : W.heap[D + 1]? = some (.loop r)
  df : W.heap[D]? = some (.deferred (some []))
theorem Book.grown {D : Nat} {r : Loop} {W W' : World} {row : Option Nat} (h : Book D r W) (hg : W.grownBy W' row) (hr : ∀ q, row = some q → D + 1 < q) : Book D r W' := by
  have hl := (Array.getElem?_eq_some_iff.1 h.lp).1
  exact ⟨(hg.block _ hl (fun e => by have := hr _ e.symm; omega)).trans h.lp, (hg.block _ (by omega) (fun e => by have := hr _ e.symm; omega)).trans h.df⟩
theorem Book.keeps {D : Nat} {r : Loop} {W W' : World} (h : Book D r W) (hk : KeepsFrom D W W') : Book D r W' :=
  ⟨hk.same _ _ (by omega) h.lp rfl, hk.same _ _ (Nat.le_refl _) h.df rfl⟩
theorem Book.put {D : Nat} {r : Loop} {W : World} (h : Book D r W) (r' : Loop) : Book D r' (W.putObj (D + 1) (.loop r')) :=
  ⟨World.putObj_heap_same (Array.getElem?_eq_some_iff.1 h.lp).1, (World.putObj_heap_other (by omega)).trans h.df⟩
theorem YieldAt.wide {n m : Nat} {P : Program} {l : Nat} {args : Array Value} {W : World} {R : Ending → World → Prop} (h : YieldAt Fence.wide n P l args W R) : YieldAt Fence.wide m P l args W R := by
  obtain ⟨fn, tmps, assign, body, hy, hR⟩ := h
  exact ⟨fn, tmps, assign, body, hy, hR.1, fun c cs _ => hR.2 c cs (room_wide _)⟩
theorem below_grown {W W' : World} (h : Below W.heap.size W W') : W.grownBy W' none := ⟨h.os, h.tape, h.output, h.size, fun k hk _ => h.block k hk⟩
theorem rows_wide {l n : Nat} {P : Program} {row : String} {args : Array Value} {w : World} {R : Value → World → Prop} (h : Rows P row args w R) : RowsIn (Fence.wide.inRound l) n P row args w R :=
  fun c cs _ => let ⟨v, w', r, s⟩ := h c cs; ⟨v, w', r, stepsIn_wide.2 s⟩
theorem upon_wide {l n : Nat} {P : Program} {o : Oper} {a : Act} {next : Act → World → Prop} {Q : Exit → Act → World → Prop} (r : Result Next) (h : o.upon P a next Q r) : o.uponIn (Fence.wide.inRound l) n P a next Q r := by
  cases r with
  | ok x w' =>
    cases x <;> simp only [Oper.upon, Oper.uponIn] at h ⊢ <;>
      first
        | exact h
        | exact ⟨(fun e => by cases e), CallsIn.inRound l (callsIn_wide.2 h)⟩
        | exact ⟨(fun e => by cases e), rows_wide h⟩
        | exact h.elim
  | halt x w' => cases x <;> simp only [Oper.upon, Oper.uponIn] at h ⊢ <;> exact h
theorem op_wide {l n : Nat} {P : Program} {ops : Array Oper} {Q : Exit → Act → World → Prop} (hd : ∀ (i : Nat) (o : Oper), ops[i]? = some o → ∀ c, o.op ≠ Op.defer c) (hl : ¬ LetsOut Q) {i : Nat} {K : Act → World → Prop} {a : Act} {w : World} (h : wpOp P ops Q i K a w) : wpOpIn (Fence.wide.inRound l) n P ops Q i K a w := by
  unfold wpOp at h
  unfold wpOpIn
  cases ho : ops[i]? with
  | none => simpa [ho] using h
  | some o =>
    simp only [ho] at h ⊢
    by_cases hw : Region.wanted o (yielded ops a.tmps) = true
    · simp only [hw, if_true] at h ⊢
      rcases h with h | ⟨_, h⟩
      · refine ⟨fun _ _ => trivial, ?_⟩
        show o.uponIn _ n P a K Q ((o.semAt (some l) a.eval).run P w)
        rw [Oper.semAt_some l a.eval o (hd i o ho)]
        exact upon_wide _ h
      · exact absurd h hl
    · simp only [hw] at h ⊢
      exact ⟨fun _ _ => trivial, h⟩
theorem any_wide {l n : Nat} {P : Program} {md : Region.Mode} {ops : Array Oper} {Q : Exit → Act → World → Prop} (hd : ∀ (i : Nat) (o : Oper), ops[i]? = some o → ∀ c, o.op ≠ Op.defer c) (hl : ¬ LetsOut Q) :
    ∀ (fuel : Nat) (listed : Array Bool) (a : Act) (w : World), wpAny P md ops Q fuel listed a w → wpAnyIn (Fence.wide.inRound l) n P md ops Q fuel listed a w
  | 0, _, _, _, h => h
  | fuel + 1, _, _, _, h => ⟨h.1, fun i hi => wpOpIn_mono (fun a' w' h' => any_wide hd hl fuel _ a' w' h') (op_wide hd hl (h.2 i hi))⟩
/-- It is enough to walk the region as if it stood in no round. -/
theorem region_wide {l n : Nat} {P : Program} {id : Nat} {ops : Array Oper} {Q : Exit → Act → World → Prop} {a : Act} {w : World} (S : World → Prop) (hm : P.follows .mixedOrders = true) (hd : ∀ (i : Nat) (o : Oper), ops[i]? = some o → ∀ c, o.op ≠ Op.defer c)
    (hS : S w.drew) (h : S w.drew → wpAnyH P .any ops (Exit.then (fun a w => Q .normal a w) (fun _ _ _ => False)) S ops.size (Array.replicate ops.size false) a w.drew) : (Code.region id ops true).wpIn (Fence.wide.inRound l) n P Q a w := by
  refine wpIn_mono (wpIn_region_any hm (any_wide hd ?_ _ _ _ _ (wpAny_of_held _ _ _ _ (h hS)))) ?_
  · rintro ⟨_, _, h⟩; exact h
  · intro e a w hq; cases e <;> first | exact hq | exact hq.elim
theorem no_defer {ops : Array Oper} (h : ops.all (fun o => match o.op with | .defer _ => false | _ => true) = true) : ∀ (i : Nat) (o : Oper), ops[i]? = some o → ∀ c, o.op ≠ Op.defer c := by
  intro i o ho c hc
  rw [Array.all_eq_true] at h
  obtain ⟨hi, rfl⟩ := Array.getElem?_eq_some_iff.1 ho
  have := h i hi
  rw [hc] at this; cases this
/-- What the rounds keep: the blocks below N0 but for some. -/
structure Kx (N0 : Nat) (ex : Nat → Prop) (W W' : World) : Prop where
  size : W.heap.size ≤ W'.heap.size
  block : ∀ k, k < N0 → ¬ ex k → W'.heap[k]? = W.heap[k]?
theorem Kx.refl (N0 : Nat) (ex : Nat → Prop) (W : World) : Kx N0 ex W W := ⟨Nat.le_refl _, fun _ _ _ => rfl⟩
theorem Kx.trans {N0 : Nat} {ex : Nat → Prop} {A B C : World} (h : Kx N0 ex A B) (k : Kx N0 ex B C) : Kx N0 ex A C := ⟨Nat.le_trans h.size k.size, fun q h1 h2 => (k.block q h1 h2).trans (h.block q h1 h2)⟩
theorem Kx.below {N0 : Nat} {ex : Nat → Prop} {W W' : World} (hN : N0 ≤ W.heap.size) (h : Below W.heap.size W W') : Kx N0 ex W W' := ⟨h.size, fun k hk _ => h.block k (by omega)⟩
theorem Kx.put {N0 : Nat} {ex : Nat → Prop} (W : World) (l : Nat) (o' : Obj) (h : N0 ≤ l) : Kx N0 ex W (W.putObj l o') := ⟨by simp, fun k hk _ => World.putObj_heap_other (by omega)⟩
theorem Kx.fr {N0 : Nat} {ex ex' : Nat → Prop} {W W' : World} (hN : N0 ≤ W.heap.size) (h : Fr ex' W W') (hx : ∀ k, k < N0 → ex' k → ex k) : Kx N0 ex W W' := ⟨h.size, fun k hk hn => h.block k (by omega) (fun e => hn (hx k hk e))⟩
/-- The iterator gives enc 0 .. enc (N - 1), if each round goes on. -/
def SeqL (P : Program) (g : Nat) (lb : Array Value) (N : Nat) (enc : Nat → Array Value) (K : World → World → Prop) (w : World) : Prop :=
  ∀ (n l : Nat) (J : Nat → World → Prop) (W : World), Below w.heap.size w W → OwnFrom W.heap.size J →
    (∀ k W1, k < N → J k W1 → YieldAt Fence.wide n P l (enc k) W1 fun e W' => e = .returned (.bool true) ∧ J (k + 1) W' ∧ K W1 W') → J 0 W →
    CallsIn Fence.wide n P g (#[.func (.yield l) #[] #[]] ++ lb) W fun e W' => (∃ v, e = .returned v) ∧ J N W'
theorem listed_range {P : Program} {n : Nat} {g : Operand} {ps : Array Tmp} {assign body : Code} {Q : Exit → Act → World → Prop} {a : Act} {w : World} {gf : Nat} {lb : Array Value}
    (hg : a.eval g = .func (.func gf) #[] lb) (eg : ∀ args w, (callFunc gf args).run P w = .ok (.enter gf args) w)
    {N : Nat} {enc : Nat → Array Value} {K : World → World → Prop} (hseq : SeqL P gf lb N enc K w) (hps : ∀ k, (enc k).size = ps.size)
    (hKt : ∀ {A B C : World}, K A B → K B C → K A C) (hKb : ∀ (W : World) (l : Nat) (o' : Obj), w.heap.size ≤ l → K W (W.putObj l o'))
    (I : Nat → World → Prop) (hI : OwnFrom w.heap.size I) (h0 : I 0 w)
    (A : Nat → Act → World → Prop) (hA : ∀ k a', OwnFrom w.heap.size (fun (_ : Unit) W => A k a' W))
    (hassign : ∀ l k W, I k W → k < N → assign.wpIn (Fence.wide.inRound l) (n - 1) P (Exit.then (fun a' W' => K W W' ∧ KeepsFrom w.heap.size W W' ∧ A k a' W') (fun _ _ _ => False))
      { tmps := (ps.zip (enc k)).foldl (fun t (p, v) => t.setIfInBounds p v) a.tmps, defers := [] } W)
    (hbody : ∀ l k a' W, w.heap.size ≤ l → A k a' W → k < N →
      body.wpIn (Fence.wide.inRound l) (n - 1) P (fun e _ W' => e = .normal ∧ KeepsFrom w.heap.size W W' ∧ K W W' ∧ I (k + 1) W') a' W)
    (hdone : ∀ D W, w.heap.size ≤ D → I N W → W.heap[D]? = some (.deferred (some [])) → Q .normal { a with defers := { target := .collected D, args := #[] } :: a.defers } W) :
    (Code.rangeFunc g ps assign body).wpIn Fence.wide n P Q a w := by
  refine wpIn_rangeFunc fun fn hfn => ?_
  let rc : Loop := { state := .ready, pending := none, fn, tmps := a.tmps, params := ps, assign, body, defers := w.heap.size }
  have b0 : Book w.heap.size rc ((w.alloc (.deferred (some []))).alloc (.loop rc)) := by
    constructor
    · have := World.alloc_heap_new (w.alloc (.deferred (some []))) (.loop rc); rwa [World.size_alloc] at this
    · exact (Below.heap_alloc _ _ _ (by simp)).trans (World.alloc_heap_new w _)
  have hb : Below w.heap.size w ((w.alloc (.deferred (some []))).alloc (.loop rc)) := ((Below.refl _ w).alloc (Nat.le_refl _) _).alloc (by simp) _
  have hs : w.heap.size + 1 < ((w.alloc (.deferred (some []))).alloc (.loop rc)).heap.size := by simp
  refine ⟨w.heap.size + 1, [{ target := .collected w.heap.size, args := #[] }], (w.alloc (.deferred (some []))).alloc (.loop rc), { target := .fn (.func gf) lb, args := #[.func (.yield (w.heap.size + 1)) #[] #[]] }, (w.alloc (.deferred (some []))).alloc (.loop rc), gf,
    #[.func (.yield (w.heap.size + 1)) #[] #[]] ++ lb, (w.alloc (.deferred (some []))).alloc (.loop rc), run_enterLoop_outer fn a.tmps ps assign body, ?_, fun _ _ => trivial, ?_, fun h => (by cases h), ?_⟩
  · simp only [resolve, hg]
    simp [go_sem]
  · simp [invoke, go_sem, eg]
  refine (hseq (n - 1) (w.heap.size + 1) (fun k W => I k W ∧ Book w.heap.size rc W) _ hb ?_ ?_ ⟨hI.alloc _ (hI.alloc _ h0), b0⟩).mono ?_
  · intro s X Y row h1 h2 h3
    exact ⟨hI s X Y row h1.1 h2 (fun r e => ⟨by have := (h3 r e).1; simp at this; omega, (h3 r e).2⟩), h1.2.grown h2 (fun r e => by have := (h3 r e).1; simp at this; omega)⟩
  · rintro k W hlen ⟨hi, hbk⟩
    refine ⟨fn, _, assign, body, run_yield hbk.lp (hps k), roundIn_of_wpIn hfn ?_⟩
    refine wpIn_mono (hassign _ k W hi hlen) ?_
    intro e a' W1 hq
    cases e with
    | normal =>
      obtain ⟨k1, f1, hax⟩ := hq
      have bk1 := hbk.keeps f1
      refine ⟨_, run_beginRound bk1.lp rfl, ?_⟩
      have k2 := hKb W1 (w.heap.size + 1) (.loop { rc with state := .busy }) (by omega)
      have bk2 := bk1.put { rc with state := .busy }
      refine wpIn_mono (hbody _ k a' _ (by omega) ((hA k a').putObj (s := ()) _ hax (by omega) bk1.lp rfl) hlen) ?_
      rintro e a3 W3 ⟨rfl, f3, k3, hi3⟩
      have bk3 := bk2.keeps f3
      have k4 := hKb W3 (w.heap.size + 1) (.loop rc) (by omega)
      exact ⟨_, _, run_endRound none bk3.lp, rfl, ⟨hI.putObj _ hi3 (by omega) bk3.lp rfl, bk3.put _⟩, hKt (hKt (hKt k1 k2) k3) k4⟩
    | _ => exact hq.elim
  · rintro e W ⟨⟨v, rfl⟩, hi, hbk⟩
    refine ⟨none, _, run_endLoop hbk.lp (by simp [rc]), ?_⟩
    exact hdone _ _ (Nat.le_refl _) (hI.putObj _ hi (by omega) hbk.lp rfl) ((hbk.put _).df)
end Go.Proofs.Ytpnkgjkoophckaa
