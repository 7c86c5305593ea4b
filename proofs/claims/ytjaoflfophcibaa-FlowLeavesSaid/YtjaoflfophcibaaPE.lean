/- after at every cell. Printed by gen_fx.py. | Ranges over functions whose rounds may write a map of the call's own; the iterator cells. | bounded. | A region whose last operation waits for all the others: what the loads rest on need not hold behind it. | Rows of bounds in memory, cell by cell. -/
import Derived.Test.YtjaoflfophcibaaFW
import Derived.Test.YtjaoflfophcibaaFE
import Derived.Test.YtjaoflfophcibaaFG
namespace Go.Proofs.Ytjaoflfophcibaa
open Go.RowKit Go.Shelf

attribute [local go_sem ↓] Go.wp_at_zero Go.wp_at_succ
set_option maxRecDepth 100000 in
set_option maxHeartbeats 4000000 in
theorem after_last {t : Tb} (B bm n : Nat) (x : WV) (out : Nat → Nat → Bool) (c g : Nat) (s0 s1 : Int) (hc : c + 1 = t.nc) (hc4 : t.nc ≤ 4) (w : World) (hst : St w B bm n x t out) :
    Calls Try.prog 60 #[.pointer (some ⟨B, 0, none⟩), .agg #[.int .i64 c, .int .i64 g], .agg #[.int .i64 s0, .int .i64 s1]] w (GivesR w B bm n x t out (s0, s1)) := by
  have hB : B < w.heap.size := (Array.getElem?_eq_some_iff.1 hst.wb).1
  have hbm : bm < w.heap.size := hst.cm.lt
  have HSW := Lib.hid hst
  have HCB : Hid (∀ (X : World) (m : Nat), St X B bm m x t out → X.cell? ⟨B, 0, none⟩ = some (.slice x.ca t.nc x.cc)) := fun X m h => h.wb.cells.1
  have wnc : IntKind.i64.wrap ((t.nc : Int) - 1) = (t.nc : Int) - 1 := IntWalk.i64_in _ (by omega)
  have hcl : ((c : Int) == (t.nc : Int) - 1) = true := by simp; omega
  have HAM := Lib.hid (AF.made3 hst #[.int .i64 c, .int .i64 g] #[.int .i64 s0, .int .i64 s1] #[.int .i64 0, .int .i64 0] 39 29 29)
  clear hst hc hc4
  unfold GivesR
  simp only
  go_enter Try.func60, Try.ntmps60
  go_upto_region 1 with fail
  rw [show w.heap.size + 1 + 1 = w.heap.size + 2 from rfl]
  generalize ((w.alloc (.cells #[.int .i64 c, .int .i64 g] 39)).alloc (.cells #[.int .i64 s0, .int .i64 s1] 29)).alloc (.cells #[.int .i64 0, .int .i64 0] 29) = W0 at *
  have HAX : Hid (AF w W0.drew B bm (n) x t out [(w.heap.size, #[.int .i64 c, .int .i64 g], 39), (w.heap.size + 1, #[.int .i64 s0, .int .i64 s1], 29), (w.heap.size + 2, #[.int .i64 0, .int .i64 0], 29)]) := HAM.out.below hbm ((Below.refl _ _).drew)
  refine wp_region_held_drew (S := fun X => X.cell? ⟨w.heap.size, 0, none⟩ = some (.int .i64 c) ∧ X.cell? ⟨w.heap.size, 1, none⟩ = some (.int .i64 g) ∧ X.cell? ⟨w.heap.size + 1, 0, none⟩ = some (.int .i64 s0) ∧ X.cell? ⟨w.heap.size + 1, 1, none⟩ = some (.int .i64 s1) ∧ X.cell? ⟨B, 0, none⟩ = some (.slice x.ca t.nc x.cc)) (by kernel_rfl) (⟨HAX.out.cell (.head _) 0, HAX.out.cell (.head _) 1, HAX.out.cell (.tail _ (.head _)) 0, HAX.out.cell (.tail _ (.head _)) 1, HCB.out _ _ HAX.out.st⟩) (fun hS => ?_)
  generalize W0.drew = X at *
  refine tk [0, 1, 2, 3, 4, 5, 6, 7, 8] ?_
  repeat (refine tkH (oi := ⟨_, _, _, _, _, _⟩) (v := ?_) rfl (by kernel_rfl) (by rfl) (fun _ _ _ h => h) hS ?_ ?_; rotate_left; (· rintro W' ⟨z0, z1, z2, z3, z4⟩; go_simp; try with_reducible rfl); try simp only [Act.put, putA, putZ, putS])
  refine tk0 ?_
  refine tH 9 (oi := ⟨_, _, _, _, _, _⟩) (v := .bool true) rfl (by kernel_rfl) (by rfl) (fun _ _ _ h => h) hS ?_ ?_
  · rintro W' ⟨z0, z1, z2, z3, z4⟩; go_simp
  try simp only [Act.put, putA, putZ, putS]
  refine tH 10 (oi := ⟨_, _, _, _, _, _⟩) (v := ?_) rfl (by kernel_rfl) (by rfl) (fun _ _ _ h => h) hS ?_ ?_
  rotate_left
  · rintro W' ⟨z0, z1, z2, z3, z4⟩; go_simp; try with_reducible rfl
  try simp only [Act.put, putA, putZ, putS]
  refine wpAnyH_take (i := 11) (oi := ⟨some 23, _, _, _, _, _⟩) (v := undef) rfl (by kernel_rfl) (by kernel_rfl) (by kernel_rfl) (fun _ _ _ h => h) (Or.inr ⟨by rfl, rfl⟩) hS ?_
  try simp only [Act.put, putA, putZ, putS]
  refine wpAnyH_take (i := 12) (oi := ⟨some 24, _, _, _, _, _⟩) (v := undef) rfl (by kernel_rfl) (by kernel_rfl) (by kernel_rfl) (fun _ _ _ h => h) (Or.inr ⟨by rfl, rfl⟩) hS ?_
  try simp only [Act.put, putA, putZ, putS]
  refine tH 13 (oi := ⟨_, _, _, _, _, _⟩) (v := ?_) rfl (by kernel_rfl) (by rfl) (fun _ _ _ h => h) hS ?_ ?_
  rotate_left
  · rintro W' ⟨z0, z1, z2, z3, z4⟩; go_simp; try with_reducible rfl
  try simp only [Act.put, putA, putZ, putS]
  refine wpAnyH_done (by kernel_rfl) ?_ _
  have b0 := HAX.out.cell (.tail _ (.head _)) 0
  have b1 := HAX.out.cell (.tail _ (.head _)) 1
  have e0 := HAX.out.cell (.tail _ (.tail _ (.head _))) 0
  have e1 := HAX.out.cell (.tail _ (.tail _ (.head _))) 1
  have f0 := HAX.out.thaw (.tail _ (.tail _ (.head _))) 0
  have f1 := HAX.out.thaw (.tail _ (.tail _ (.head _))) 1
  have HA9 := Lib.hid (AF.set2 HSW.out HAX.out (.tail _ (.tail _ (.head _))) (.int .i64 s0) (.int .i64 s1) (L' := []) (List.forall_mem_nil _))
  go_wp2_with fail
  have c0' := HA9.out.cell (.head _) 0
  have c1' := HA9.out.cell (.head _) 1
  refine bodyPost_ret (v := .agg #[.int .i64 s0, .int .i64 s1]) (by simp [results, Try.results60, go_sem, c0', c1']) rfl ⟨rfl, HA9.out.st, HA9.out.fr⟩
theorem after_all {t : Tb} (hG : Gd t) (B bm : Nat) (x : WV) (out : Nat → Nat → Bool) (hne : ∀ c g, c < t.nc → g < t.ng → emptyR (t.up out c g) = false) :
    ∀ k c, c + k + 1 = t.nc → ∀ g, g < t.ng → ∀ s : R2, (0 ≤ s.1 ∧ s.1 ≤ s.2 ∧ s.2 ≤ 1048576) → ∀ n, n + 255 * k ≤ 90000 → ∀ W, St W B bm n x t out →
    Calls Try.prog 60 #[.pointer (some ⟨B, 0, none⟩), .agg #[.int .i64 c, .int .i64 g], .agg #[.int .i64 s.1, .int .i64 s.2]] W (GivesR W B bm (n + 255 * k) x t out (t.aft out k c g s)) := by
  have ng2 := hG.ng2
  have nc4 := hG.nc4
  intro k
  induction k with
  | zero => intro c hc g hg s hs n hn W hst; exact after_last B bm n x out c g s.1 s.2 (by omega) nc4 W hst
  | succ k ih =>
    intro c hc g hg s hs n hn W hst
    have hnx : t.nx g < t.ng := by unfold Tb.nx Tb.last; omega
    have hu := hne (c + 1) (t.nx g) (by omega) hnx
    have hb := up_bd t out (c + 1) (t.nx g)
    have he : emptyR s = false := by simp [emptyR]; omega
    have hf : (t.up out (c + 1) (t.nx g)).1 ≤ (t.up out (c + 1) (t.nx g)).2 := by simp [emptyR] at hu; exact hu
    have e : t.aft out (k + 1) c g s = trimR (t.r (g + 1)) (subR t g (t.nx g) (t.up out c) (minusR (t.aft out k (c + 1) (t.nx g) (t.up out (c + 1) (t.nx g))) (t.n (t.nx g))) (srcG t (t.nx g)).length) s := by
      simp only [Tb.aft]; rw [if_neg (by rw [he]; decide)]
    have ha := aft_bd t out k (c + 1) (t.nx g) (t.up out (c + 1) (t.nx g)) hb.1 (by omega) (by omega) hb.2
    have hr := fun W h => ih (c + 1) (by omega) (t.nx g) hnx (t.up out (c + 1) (t.nx g)) ⟨hb.1, hf, hb.2⟩ (n + 85) (by omega) W h
    rw [e]
    generalize t.aft out k (c + 1) (t.nx g) (t.up out (c + 1) (t.nx g)) = A at *
    exact (after_step hG B bm n (255 * k) x out c (c + 1) g (t.nx g) s.1 s.2 _ _ A.1 A.2 rfl (by omega) hg rfl hs (fun q hq => hne c q (by omega) hq) rfl ha (by omega) hr W hst).mono (fun _ _ h => h.mono (by omega))
end Go.Proofs.Ytjaoflfophcibaa

namespace Go.Proofs.Ytjaoflfophcibaa
open Go.RowKit Go.Shelf

/-- The two blocks of a loop: the rounds' deferred calls at D, the record behind it. -/
structure Book (D : Nat) (r : Loop) (W : World) : Prop where
  lp : W.heap[D + 1]? = some (.loop r)
  df : W.heap[D]? = some (.deferred (some []))
theorem Book.grown {D : Nat} {r : Loop} {W W' : World} {row : Option Nat} (h : Book D r W) (hg : W.grownBy W' row) (hr : ∀ q, row = some q → D + 1 < q) : Book D r W' := by
  have hl := (Array.getElem?_eq_some_iff.1 h.lp).1
  exact ⟨(hg.block _ hl (fun e => by have := hr _ e.symm; omega)).trans h.lp, (hg.block _ (by omega) (fun e => by have := hr _ e.symm; omega)).trans h.df⟩
theorem Book.keeps {D : Nat} {r : Loop} {W W' : World} (h : Book D r W) (hk : KeepsFrom D W W') : Book D r W' :=
  ⟨hk.same _ _ (by omega) h.lp rfl, hk.same _ _ (Nat.le_refl _) h.df rfl⟩
theorem Book.put {D : Nat} {r : Loop} {W : World} (h : Book D r W) (r' : Loop) : Book D r' (W.putObj (D + 1) (.loop r')) :=
  ⟨World.putObj_heap_same (Array.getElem?_eq_some_iff.1 h.lp).1, (World.putObj_heap_other (by omega)).trans h.df⟩
theorem YieldAt.wide {n m : Nat} {P : Program} {l : Nat} {args : Array Value} {W : World} {R : Ending → World → Prop} (h : YieldAt Fence.wide n P l args W R) : YieldAt Fence.wide m P l args W R := by
  obtain ⟨fn, tmps, assign, body, hy, hR⟩ := h
  exact ⟨fn, tmps, assign, body, hy, hR.1, fun c cs _ => hR.2 c cs (room_wide _)⟩
theorem below_grown {W W' : World} (h : Below W.heap.size W W') : W.grownBy W' none := ⟨h.os, h.tape, h.output, h.size, fun k hk _ => h.block k hk⟩
theorem rows_wide {l n : Nat} {P : Program} {row : String} {args : Array Value} {w : World} {R : Value → World → Prop} (h : Rows P row args w R) : RowsIn (Fence.wide.inRound l) n P row args w R :=
  fun c cs _ => let ⟨v, w', r, s⟩ := h c cs; ⟨v, w', r, stepsIn_wide.2 s⟩
theorem upon_wide {l n : Nat} {P : Program} {o : Oper} {a : Act} {next : Act → World → Prop} {Q : Exit → Act → World → Prop} (r : Result Next) (h : o.upon P a next Q r) : o.uponIn (Fence.wide.inRound l) n P a next Q r := by
  cases r with
  | ok x w' =>
    cases x <;> simp only [Oper.upon, Oper.uponIn] at h ⊢ <;>
      first
        | exact h
        | exact ⟨(fun e => by cases e), CallsIn.inRound l (callsIn_wide.2 h)⟩
        | exact ⟨(fun e => by cases e), rows_wide h⟩
        | exact h.elim
  | halt x w' => cases x <;> simp only [Oper.upon, Oper.uponIn] at h ⊢ <;> exact h
theorem op_wide {l n : Nat} {P : Program} {ops : Array Oper} {Q : Exit → Act → World → Prop} (hd : ∀ (i : Nat) (o : Oper), ops[i]? = some o → ∀ c, o.op ≠ Op.defer c) (hl : ¬ LetsOut Q) {i : Nat} {K : Act → World → Prop} {a : Act} {w : World} (h : wpOp P ops Q i K a w) : wpOpIn (Fence.wide.inRound l) n P ops Q i K a w := by
  unfold wpOp at h
  unfold wpOpIn
  cases ho : ops[i]? with
  | none => simpa [ho] using h
  | some o =>
    simp only [ho] at h ⊢
    by_cases hw : Region.wanted o (yielded ops a.tmps) = true
    · simp only [hw, if_true] at h ⊢
      rcases h with h | ⟨_, h⟩
      · refine ⟨fun _ _ => trivial, ?_⟩
        show o.uponIn _ n P a K Q ((o.semAt (some l) a.eval).run P w)
        rw [Oper.semAt_some l a.eval o (hd i o ho)]
        exact upon_wide _ h
      · exact absurd h hl
    · simp only [hw] at h ⊢
      exact ⟨fun _ _ => trivial, h⟩
theorem any_wide {l n : Nat} {P : Program} {md : Region.Mode} {ops : Array Oper} {Q : Exit → Act → World → Prop} (hd : ∀ (i : Nat) (o : Oper), ops[i]? = some o → ∀ c, o.op ≠ Op.defer c) (hl : ¬ LetsOut Q) :
    ∀ (fuel : Nat) (listed : Array Bool) (a : Act) (w : World), wpAny P md ops Q fuel listed a w → wpAnyIn (Fence.wide.inRound l) n P md ops Q fuel listed a w
  | 0, _, _, _, h => h
  | fuel + 1, _, _, _, h => ⟨h.1, fun i hi => wpOpIn_mono (fun a' w' h' => any_wide hd hl fuel _ a' w' h') (op_wide hd hl (h.2 i hi))⟩
/-- It is enough to walk the region as if it stood in no round. -/
theorem region_wide {l n : Nat} {P : Program} {id : Nat} {ops : Array Oper} {Q : Exit → Act → World → Prop} {a : Act} {w : World} (S : World → Prop) (hm : P.follows .mixedOrders = true) (hd : ∀ (i : Nat) (o : Oper), ops[i]? = some o → ∀ c, o.op ≠ Op.defer c)
    (hS : S w.drew) (h : S w.drew → wpAnyH P .any ops (Exit.then (fun a w => Q .normal a w) (fun _ _ _ => False)) S ops.size (Array.replicate ops.size false) a w.drew) : (Code.region id ops true).wpIn (Fence.wide.inRound l) n P Q a w := by
  refine wpIn_mono (wpIn_region_any hm (any_wide hd ?_ _ _ _ _ (wpAny_of_held _ _ _ _ (h hS)))) ?_
  · rintro ⟨_, _, h⟩; exact h
  · intro e a w hq; cases e <;> first | exact hq | exact hq.elim
theorem no_defer {ops : Array Oper} (h : ops.all (fun o => match o.op with | .defer _ => false | _ => true) = true) : ∀ (i : Nat) (o : Oper), ops[i]? = some o → ∀ c, o.op ≠ Op.defer c := by
  intro i o ho c hc
  rw [Array.all_eq_true] at h
  obtain ⟨hi, rfl⟩ := Array.getElem?_eq_some_iff.1 ho
  have := h i hi
  rw [hc] at this; cases this
/-- What the rounds keep: the blocks below N0 but for some. -/
structure Kx (N0 : Nat) (ex : Nat → Prop) (W W' : World) : Prop where
  size : W.heap.size ≤ W'.heap.size
  block : ∀ k, k < N0 → ¬ ex k → W'.heap[k]? = W.heap[k]?
theorem Kx.refl (N0 : Nat) (ex : Nat → Prop) (W : World) : Kx N0 ex W W := ⟨Nat.le_refl _, fun _ _ _ => rfl⟩
theorem Kx.trans {N0 : Nat} {ex : Nat → Prop} {A B C : World} (h : Kx N0 ex A B) (k : Kx N0 ex B C) : Kx N0 ex A C := ⟨Nat.le_trans h.size k.size, fun q h1 h2 => (k.block q h1 h2).trans (h.block q h1 h2)⟩
theorem Kx.below {N0 : Nat} {ex : Nat → Prop} {W W' : World} (hN : N0 ≤ W.heap.size) (h : Below W.heap.size W W') : Kx N0 ex W W' := ⟨h.size, fun k hk _ => h.block k (by omega)⟩
theorem Kx.put {N0 : Nat} {ex : Nat → Prop} (W : World) (l : Nat) (o' : Obj) (h : N0 ≤ l) : Kx N0 ex W (W.putObj l o') := ⟨by simp, fun k hk _ => World.putObj_heap_other (by omega)⟩
theorem Kx.fr {N0 : Nat} {ex ex' : Nat → Prop} {W W' : World} (hN : N0 ≤ W.heap.size) (h : Fr ex' W W') (hx : ∀ k, k < N0 → ex' k → ex k) : Kx N0 ex W W' := ⟨h.size, fun k hk hn => h.block k (by omega) (fun e => hn (hx k hk e))⟩
/-- The iterator gives enc 0 .. enc (N - 1), if each round goes on. -/
def SeqL (P : Program) (g : Nat) (lb : Array Value) (N : Nat) (enc : Nat → Array Value) (K : World → World → Prop) (w : World) : Prop :=
  ∀ (n l : Nat) (J : Nat → World → Prop) (W : World), Below w.heap.size w W → OwnFrom W.heap.size J →
    (∀ k W1, k < N → J k W1 → YieldAt Fence.wide n P l (enc k) W1 fun e W' => e = .returned (.bool true) ∧ J (k + 1) W' ∧ K W1 W') → J 0 W →
    CallsIn Fence.wide n P g (#[.func (.yield l) #[] #[]] ++ lb) W fun e W' => (∃ v, e = .returned v) ∧ J N W'
theorem listed_range {P : Program} {n : Nat} {g : Operand} {ps : Array Tmp} {assign body : Code} {Q : Exit → Act → World → Prop} {a : Act} {w : World} {gf : Nat} {lb : Array Value}
    (hg : a.eval g = .func (.func gf) #[] lb) (eg : ∀ args w, (callFunc gf args).run P w = .ok (.enter gf args) w)
    {N : Nat} {enc : Nat → Array Value} {K : World → World → Prop} (hseq : SeqL P gf lb N enc K w) (hps : ∀ k, (enc k).size = ps.size)
    (hKt : ∀ {A B C : World}, K A B → K B C → K A C) (hKb : ∀ (W : World) (l : Nat) (o' : Obj), w.heap.size ≤ l → K W (W.putObj l o'))
    (I : Nat → World → Prop) (hI : OwnFrom w.heap.size I) (h0 : I 0 w)
    (A : Nat → Act → World → Prop) (hA : ∀ k a', OwnFrom w.heap.size (fun (_ : Unit) W => A k a' W))
    (hassign : ∀ l k W, I k W → k < N → assign.wpIn (Fence.wide.inRound l) (n - 1) P (Exit.then (fun a' W' => K W W' ∧ KeepsFrom w.heap.size W W' ∧ A k a' W') (fun _ _ _ => False))
      { tmps := (ps.zip (enc k)).foldl (fun t (p, v) => t.setIfInBounds p v) a.tmps, defers := [] } W)
    (hbody : ∀ l k a' W, w.heap.size ≤ l → A k a' W → k < N →
      body.wpIn (Fence.wide.inRound l) (n - 1) P (fun e _ W' => e = .normal ∧ KeepsFrom w.heap.size W W' ∧ K W W' ∧ I (k + 1) W') a' W)
    (hdone : ∀ D W, w.heap.size ≤ D → I N W → W.heap[D]? = some (.deferred (some [])) → Q .normal { a with defers := { target := .collected D, args := #[] } :: a.defers } W) :
    (Code.rangeFunc g ps assign body).wpIn Fence.wide n P Q a w := by
  refine wpIn_rangeFunc fun fn hfn => ?_
  let rc : Loop := { state := .ready, pending := none, fn, tmps := a.tmps, params := ps, assign, body, defers := w.heap.size }
  have b0 : Book w.heap.size rc ((w.alloc (.deferred (some []))).alloc (.loop rc)) := by
    constructor
    · have := World.alloc_heap_new (w.alloc (.deferred (some []))) (.loop rc); rwa [World.size_alloc] at this
    · exact (Below.heap_alloc _ _ _ (by simp)).trans (World.alloc_heap_new w _)
  have hb : Below w.heap.size w ((w.alloc (.deferred (some []))).alloc (.loop rc)) := ((Below.refl _ w).alloc (Nat.le_refl _) _).alloc (by simp) _
  have hs : w.heap.size + 1 < ((w.alloc (.deferred (some []))).alloc (.loop rc)).heap.size := by simp
  refine ⟨w.heap.size + 1, [{ target := .collected w.heap.size, args := #[] }], (w.alloc (.deferred (some []))).alloc (.loop rc), { target := .fn (.func gf) lb, args := #[.func (.yield (w.heap.size + 1)) #[] #[]] }, (w.alloc (.deferred (some []))).alloc (.loop rc), gf,
    #[.func (.yield (w.heap.size + 1)) #[] #[]] ++ lb, (w.alloc (.deferred (some []))).alloc (.loop rc), run_enterLoop_outer fn a.tmps ps assign body, ?_, fun _ _ => trivial, ?_, fun h => (by cases h), ?_⟩
  · simp only [resolve, hg]
    simp [go_sem]
  · simp [invoke, go_sem, eg]
  refine (hseq (n - 1) (w.heap.size + 1) (fun k W => I k W ∧ Book w.heap.size rc W) _ hb ?_ ?_ ⟨hI.alloc _ (hI.alloc _ h0), b0⟩).mono ?_
  · intro s X Y row h1 h2 h3
    exact ⟨hI s X Y row h1.1 h2 (fun r e => ⟨by have := (h3 r e).1; simp at this; omega, (h3 r e).2⟩), h1.2.grown h2 (fun r e => by have := (h3 r e).1; simp at this; omega)⟩
  · rintro k W hlen ⟨hi, hbk⟩
    refine ⟨fn, _, assign, body, run_yield hbk.lp (hps k), roundIn_of_wpIn hfn ?_⟩
    refine wpIn_mono (hassign _ k W hi hlen) ?_
    intro e a' W1 hq
    cases e with
    | normal =>
      obtain ⟨k1, f1, hax⟩ := hq
      have bk1 := hbk.keeps f1
      refine ⟨_, run_beginRound bk1.lp rfl, ?_⟩
      have k2 := hKb W1 (w.heap.size + 1) (.loop { rc with state := .busy }) (by omega)
      have bk2 := bk1.put { rc with state := .busy }
      refine wpIn_mono (hbody _ k a' _ (by omega) ((hA k a').putObj (s := ()) _ hax (by omega) bk1.lp rfl) hlen) ?_
      rintro e a3 W3 ⟨rfl, f3, k3, hi3⟩
      have bk3 := bk2.keeps f3
      have k4 := hKb W3 (w.heap.size + 1) (.loop rc) (by omega)
      exact ⟨_, _, run_endRound none bk3.lp, rfl, ⟨hI.putObj _ hi3 (by omega) bk3.lp rfl, bk3.put _⟩, hKt (hKt (hKt k1 k2) k3) k4⟩
    | _ => exact hq.elim
  · rintro e W ⟨⟨v, rfl⟩, hi, hbk⟩
    refine ⟨none, _, run_endLoop hbk.lp (by simp [rc]), ?_⟩
    exact hdone _ _ (Nat.le_refl _) (hI.putObj _ hi (by omega) hbk.lp rfl) ((hbk.put _).df)
/-- The cells of a table, in turn. -/
def encC (ng k : Nat) : Array Value := #[.agg #[.int .i64 ((k / ng : Nat) : Int), .int .i64 ((k % ng : Nat) : Int)]]
/-- The table lies in a box, and its lists in the world. -/
def TBox (X : World) (Bt : Nat) (x : WV) (t : Tb) : Prop := X.heap[Bt]? = some (.cells #[x.cv t, x.bv t, x.rv t, x.nv t] 36 (0, 0)) ∧ WL X x t

attribute [local go_sem] Oper.semAt_some
set_option maxRecDepth 100000 in
set_option maxHeartbeats 2000000 in
theorem cells1_in (n l Bt N0 : Nat) (ex : Nat → Prop) (x : WV) (t : Tb) (hs : t.small) (hn4 : t.nc ≤ 4) (hg4 : t.ng ≤ 4) (J : Nat → World → Prop) (W : World) (hN : N0 ≤ W.heap.size)
    (hT : ∀ X, Kx N0 ex W X → TBox X Bt x t)
    (hJ : OwnFrom W.heap.size J)
    (hY : ∀ k W1, k < t.nc * t.ng → J k W1 → YieldAt Fence.wide (n - 1) Try.prog l (encC t.ng k) W1 fun e W' => e = .returned (.bool true) ∧ J (k + 1) W' ∧ Kx N0 ex W1 W') (h0 : J 0 W) :
    CallsIn Fence.wide n Try.prog 106 #[.func (.yield l) #[] #[], .pointer (some ⟨Bt, 0, none⟩)] W fun e W' => (∃ v, e = .returned v) ∧ J (t.nc * t.ng) W' := by
  have HS := Lib.hid hs
  have HT := Lib.hid hT
  have HY := Lib.hid hY
  have HJ := Lib.hid hJ
  have hngs := hs.ng
  have HC : Hid (∀ X, Kx N0 ex W X → X.cell? ⟨Bt, 0, none⟩ = some (x.cv t) ∧ X.cell? ⟨Bt, 1, none⟩ = some (x.bv t) ∧ X.cell? ⟨Bt, 2, none⟩ = some (x.rv t) ∧ X.cell? ⟨Bt, 3, none⟩ = some (x.nv t)) := fun X hX => cells4 (hT X hX).1
  obtain ⟨k0, k1, k2, k3⟩ := HC.out W (Kx.refl _ _ _)
  have HGR : Hid (∀ X, Kx N0 ex W X → Calls Try.prog 57 #[.agg #[x.cv t, x.bv t, x.rv t, x.nv t]] X fun e w' => e = .returned (.int .i64 (t.ng : Int)) ∧ Below X.heap.size X w') := fun X hX => groups_any _ t X (hT X hX).2.tb hs
  clear hs hT hY hJ
  unfold WV.cv WV.bv WV.rv WV.nv at *
  refine callsIn_of_wp Try.func106 rfl trivial ?_ rfl
  simp only [Try.ntmps106, List.size_toArray, List.length_cons, List.length_nil, Nat.reduceAdd, Nat.reduceSub, Array.replicate_succ, Array.replicate_zero, List.push_toArray, List.append_toArray, List.nil_append, List.cons_append]
  gi_wp2
  gi_loopw [8] (fun i wr => ∃ c : Nat, c ≤ t.nc ∧ i = .int .i64 c ∧ J (c * t.ng) wr ∧ Kx N0 ex W wr) (fun i _ => t.nc - (intOf i).toNat)
  case atStart => exact ⟨0, Nat.zero_le _, rfl, by rw [Nat.zero_mul]; exact h0, Kx.refl _ _ _⟩
  case round =>
    clear k0 k1 k2 k3
    obtain ⟨c, hc, rfl, hj, hk⟩ := hrel
    have HJ1 := Lib.hid hj; have HK := Lib.hid hk
    clear hj hk h0
    obtain ⟨k0, k1, k2, k3⟩ := HC.out wr HK.out
    by_cases hlt : c < t.nc
    · gi_wp2_with fail
      refine ⟨trivial, (fun h => by cases h), ?_⟩
      refine CallsIn.mono (callsIn_wide.2 (HGR.out wr HK.out)) ?_
      rintro _ w2 ⟨rfl, hb2⟩
      have hK2 : Kx N0 ex W w2 := HK.out.trans (Kx.below (Nat.le_trans hN HK.out.size) hb2)
      have hJ2 : J (c * t.ng) w2 := HJ.out _ wr w2 none HJ1.out (below_grown hb2) (fun r e => by cases e)
      clear hb2 k0 k1 k2 k3
      gi_wp2
      gi_loopw [13] (fun i wr => ∃ g : Nat, g ≤ t.ng ∧ i = .int .i64 g ∧ J (c * t.ng + g) wr ∧ Kx N0 ex W wr) (fun i _ => t.ng - (intOf i).toNat)
      case atStart => exact ⟨0, Nat.zero_le _, rfl, hJ2, hK2⟩
      case round =>
        clear hJ2 hK2 HJ1 HK
        obtain ⟨g, hg, rfl, hj, hk⟩ := hrel
        have HJ3 := Lib.hid hj; have HK3 := Lib.hid hk
        clear hj hk
        by_cases hlg : g < t.ng
        · have hin : c * t.ng + g < t.nc * t.ng := by
            have : (c + 1) * t.ng ≤ t.nc * t.ng := Nat.mul_le_mul_right _ hlt
            rw [Nat.succ_mul] at this; omega
          obtain ⟨fn, tmps, assign, body, hy, hR⟩ := HY.out _ _ hin HJ3.out
          have e1 : (c * t.ng + g) / t.ng = c := by rw [Nat.mul_comm, Nat.mul_add_div (by omega), Nat.div_eq_of_lt hlg]; omega
          have e2 : (c * t.ng + g) % t.ng = g := by rw [Nat.mul_comm, Nat.mul_add_mod, Nat.mod_eq_of_lt hlg]
          unfold encC at hy
          rw [e1, e2] at hy
          have HR := Lib.hid hR
          clear hR hin e1 e2
          gi_wp2
          refine ⟨(fun h => by cases h), ?_⟩
          refine HR.out.mono ?_
          rintro e W3 ⟨rfl, hJ4, hk4⟩
          have HJ4 := Lib.hid hJ4
          have HK4 := Lib.hid hk4
          clear hJ4 hk4 hy HR
          gi_wp2
          go_roundw
          case rel => exact ⟨g + 1, by omega, by go_num, HJ4.out, HK3.out.trans HK4.out⟩
          case measure => simp [intOf]; omega
        · obtain rfl : g = t.ng := by omega
          gi_wp2
          go_roundw
          case rel => exact ⟨c + 1, by omega, by go_num, by rw [Nat.succ_mul]; exact HJ3.out, HK3.out⟩
          case measure => simp [intOf]; omega
    · obtain rfl : c = t.nc := by omega
      gi_wp2
      go_end0
      exact ⟨⟨_, rfl⟩, HJ1.out⟩
theorem cells_listed (Bt N0 : Nat) (ex : Nat → Prop) (x : WV) (t : Tb) (hs : t.small) (hn4 : t.nc ≤ 4) (hg4 : t.ng ≤ 4) (w : World) (hN : N0 ≤ w.heap.size) (hT : ∀ X, Kx N0 ex w X → TBox X Bt x t) :
    SeqL Try.prog 106 #[.pointer (some ⟨Bt, 0, none⟩)] (t.nc * t.ng) (encC t.ng) (Kx N0 ex) w := fun n l J W hW hJ hY h0 =>
  cells1_in n l Bt N0 ex x t hs hn4 hg4 J W (Nat.le_trans hN hW.size) (fun X hX => hT X ((Kx.below hN hW).trans hX)) hJ (fun k W1 hk hj => YieldAt.wide (hY k W1 hk hj)) h0
/-- cells makes the iterator. -/
theorem cells_any (c b r n : Value) (w : World) :
    Calls Try.prog 76 #[.agg #[c, b, r, n]] w fun e w' => e = .returned (.func (.func 106) #[] #[.pointer (some ⟨w.heap.size, 0, none⟩)]) ∧ w' = w.alloc (.cells #[c, b, r, n] 36) := by
  go_enter Try.func76, Try.ntmps76
  go_wp2
  go_ret
  exact ⟨rfl, rfl⟩
end Go.Proofs.Ytjaoflfophcibaa

namespace Go.Proofs.Ytjaoflfophcibaa
open Go.RowKit Go.Shelf

def off0 : Nat → Nat → Bool := fun _ _ => false
theorem off0_L : outL off0 = [.bool false, .bool false, .bool false, .bool false, .bool false, .bool false, .bool false, .bool false, .bool false, .bool false, .bool false, .bool false, .bool false, .bool false, .bool false, .bool false] := rfl
/-- A fresh table at work, its counts compared. -/
def MadeW (w : World) (n : Nat) (x : WV) (t : Tb) (out : Nat → Nat → Bool) (a : Bool) (e : Ending) (w' : World) : Prop :=
  ∃ B bm, e = .returned (.tuple #[.pointer (if a then some ⟨B, 0, none⟩ else none), .int .i64 (if a then 0 else 9)]) ∧ St w' B bm n x t out ∧ w.heap.size ≤ B ∧ w.heap.size ≤ bm ∧ Below w.heap.size w w'
set_option maxRecDepth 100000 in
set_option maxHeartbeats 1000000 in
theorem bounded_bad (x : WV) (t : Tb) (hs : t.small) (w : World) (hl : WL w x t) (hf : t.fault ≠ 0) :
    Calls Try.prog 71 #[.agg #[x.cv t, x.bv t, x.rv t, x.nv t]] w fun e w' => e = .returned (.tuple #[.pointer none, .int .i64 t.fault]) ∧ Below w.heap.size w w' := by
  have HC : Hid (∀ X, Below w.heap.size w X → Calls Try.prog 47 #[.agg #[x.cv t, x.bv t, x.rv t, x.nv t]] X fun e w' => e = .returned (.int .i64 t.fault) ∧ Below X.heap.size X w') := fun X hX => check_any _ t X (hl.below hX).tb hs
  have hq : (t.fault != 0) = true := by simp [hf]
  clear hl hs hf
  generalize t.fault = f at *
  unfold WV.cv WV.bv WV.rv WV.nv at *
  go_enter Try.func71, Try.ntmps71
  go_wp2_with (go_at_call 47; refine (HC.out _ (below_alloc _ _)).mono ?_; rintro _ w1 ⟨rfl, hb1⟩)
  go_ret2
  exact ⟨rfl, below_step (below_alloc _ _) hb1⟩
set_option maxRecDepth 100000 in
set_option maxHeartbeats 1000000 in
theorem bounded_any (x : WV) (t : Tb) (hs : t.small) (w : World) (hl : WL w x t) (hf : t.fault = 0) (a : Bool) (ha : t.agree off0 = a) :
    Calls Try.prog 71 #[.agg #[x.cv t, x.bv t, x.rv t, x.nv t]] w (MadeW w 340 x t off0 a) := by
  have hG := Gd.of_fault hs hf
  have HC : Hid (∀ X, Below w.heap.size w X → Calls Try.prog 47 #[.agg #[x.cv t, x.bv t, x.rv t, x.nv t]] X fun e w' => e = .returned (.int .i64 0) ∧ Below X.heap.size X w') := fun X hX => by rw [← hf]; exact check_any _ t X (hl.below hX).tb hs
  have HW : Hid (∀ X, Below w.heap.size w X → Calls Try.prog 58 #[.agg #[x.cv t, x.bv t, x.rv t, x.nv t], .agg (outL off0).toArray] X fun e w' => ∃ B bm, e = .returned (.pointer (some ⟨B, 0, none⟩)) ∧ St w' B bm 0 x t off0 ∧ X.heap.size ≤ B ∧ X.heap.size ≤ bm ∧ Below X.heap.size X w') := fun X hX => work_any x t off0 X (hl.below hX)
  rw [off0_L] at HW
  have HA : Hid (∀ X B bm, St X B bm 0 x t off0 → Calls Try.prog 59 #[.pointer (some ⟨B, 0, none⟩)] X fun e w' => e = .returned (.bool a) ∧ St w' B bm 340 x t off0 ∧ Fr (fun q => q = bm) X w') := fun X B bm h => by
    rw [← ha]; exact (agree_all hG B bm x off0 0 (by omega) X h).mono (fun _ _ h => ⟨h.1, by simpa using h.2.1, h.2.2⟩)
  clear hl hs hf ha hG
  unfold WV.cv WV.bv WV.rv WV.nv at *
  cases a
  all_goals
    go_enter Try.func71, Try.ntmps71
    go_wp2_with (first | (go_at_call 47; refine (HC.out _ (below_alloc _ _)).mono ?_; rintro _ w1 ⟨rfl, hb1⟩; have HB1 := Lib.hid (below_step (below_alloc _ _) hb1); have hc0 := cell_of_row _ _ 0 _ _ _ ((hb1.block w.heap.size (by simp)).trans (heap_alloc_new w _)); have hc1 := cell_of_row _ _ 1 _ _ _ ((hb1.block w.heap.size (by simp)).trans (heap_alloc_new w _)); have hc2 := cell_of_row _ _ 2 _ _ _ ((hb1.block w.heap.size (by simp)).trans (heap_alloc_new w _)); have hc3 := cell_of_row _ _ 3 _ _ _ ((hb1.block w.heap.size (by simp)).trans (heap_alloc_new w _)); clear hb1) | (go_at_call 58; refine (HW.out _ HB1.out).mono ?_; rintro _ w2 ⟨B, bm, rfl, hs2, hB2, hm2, hb2⟩; have HS2 := Lib.hid hs2; have HB2 := Lib.hid (below_step HB1.out hb2); have hz1 := HB1.out.size; clear hs2 hb2) | (go_at_call 59; refine (HA.out _ _ _ HS2.out).mono ?_; rintro _ w3 ⟨rfl, hs3, hf3⟩; have HS3 := Lib.hid hs3; have HB3 : Hid (Below w.heap.size w w3) := HB2.out.trans (hf3.low HB2.out.size (fun q hq e => by omega)); clear hs3 hf3))
    go_ret2
    exact ⟨B, bm, rfl, HS3.out, by omega, by omega, HB3.out⟩
end Go.Proofs.Ytjaoflfophcibaa

namespace Go.Proofs.Ytjaoflfophcibaa

section
variable {P : Program} {ops : Array Oper} {Q : Exit → Act → World → Prop} {md : Region.Mode} {S : World → Prop}

/-- Number j waits for every other one. -/
def waitsAll (md : Region.Mode) (ops : Array Oper) (j : Nat) : Bool :=
  match ops[j]? with
  | none => false
  | some o => (List.range ops.size).all fun k => k == j || o.after.any fun e => Region.binds md e && e.on == k
theorem waitsAll_spec {i j : Nat} {o : Oper} (hj : ops[j]? = some o) (h : waitsAll md ops j = true) (hi : i < ops.size) (hne : i ≠ j) : ∃ e ∈ o.after, Region.binds md e = true ∧ e.on = i := by
  unfold waitsAll at h
  rw [hj] at h
  simp only [List.all_eq_true, List.mem_range, Bool.or_eq_true, beq_iff_eq] at h
  rcases h i hi with h | h
  · exact absurd h hne
  · rw [Array.any_eq_true] at h
    obtain ⟨q, hq, h⟩ := h
    simp only [Bool.and_eq_true, beq_iff_eq] at h
    exact ⟨o.after[q], Array.getElem_mem hq, h.1, h.2⟩
/-- Whatever comes up; S behind each operation but one that waits for all the others. -/
def wpAnyZ (P : Program) (md : Region.Mode) (ops : Array Oper) (Q : Exit → Act → World → Prop) (S : World → Prop) : Nat → Array Bool → Act → World → Prop
  | 0, l, a, w => Region.ready md ops l = [] ∧ Q .normal a w
  | f + 1, l, a, w =>
    (Region.ready md ops l = [] → Q .normal a w) ∧
    ∀ i ∈ Region.ready md ops l, wpOp P ops Q i (fun a' w' => (waitsAll md ops i = true ∨ S w') ∧ wpAnyZ P md ops Q S f (l.setIfInBounds i true) a' w') a w
theorem wpAny_of_Z : ∀ (f : Nat) (l : Array Bool) (a : Act) (w : World), wpAnyZ P md ops Q S f l a w → wpAny P md ops Q f l a w
  | 0, _, _, _, h => h
  | f + 1, _, _, _, h => ⟨h.1, fun i hi => wpOp_mono (fun a' w' h' => wpAny_of_Z f _ a' w' h'.2) (h.2 i hi)⟩
/-- An operation is taken ahead of the others. -/
theorem wpAnyZ_ahead {i : Nat} {oi : Oper} {v : Value} (hi : ops[i]? = some oi) (hsel : Region.noSelect ops = true) (hQ : ∀ c a w, Q (.panic c) (a.put oi.dst v) w → Q (.panic c) a w) :
    ∀ (f : Nat) (l : Array Bool) (a : Act) (w : World),
      (∀ j oj, ops[j]? = some oj → j ≠ i → l.getD j true = false → (∀ e ∈ oj.after, Region.binds md e = true → e.on ≠ i) → oi.apart ops oj = true) →
      i ∈ Region.ready md ops l → YieldsIf P ops S oi v a → S w → wpAnyZ P md ops Q S f (l.setIfInBounds i true) (a.put oi.dst v) w → wpAnyZ P md ops Q S (f + 1) l a w := by
  have hs := Region.noSelect_spec hsel
  have hil : i < ops.size := (Array.getElem?_eq_some_iff.1 hi).1
  intro f
  induction f with
  | zero =>
    intro l a w _ hr hy hS H
    refine ⟨fun h => absurd hr (by rw [h]; exact List.not_mem_nil), fun j hj => ?_⟩
    rcases Nat.decEq j i with hne | he
    · have h0 := ready_mono hj hne
      rw [H.1] at h0; exact absurd h0 List.not_mem_nil
    · subst he; exact hy.wpOp hi hS ⟨.inr hS, H⟩
  | succ f ih =>
    intro l a w hfree hr hy hS H
    refine ⟨fun h => absurd hr (by rw [h]; exact List.not_mem_nil), fun j hj => ?_⟩
    rcases Nat.decEq j i with hne | he
    · obtain ⟨hju, oj, hoj, hall⟩ := mem_ready.1 hj
      have hiu := (mem_ready.1 hr).1
      have hlist : ¬ l.getD i false = true := fun h => by
        rcases Nat.lt_or_ge i l.size with h' | h'
        · simp only [Array.getD, h', dif_pos] at hiu h; rw [hiu] at h; cases h
        · simp [Array.getD, Nat.not_lt.2 h'] at h
      have hno : ∀ e ∈ oj.after, Region.binds md e = true → e.on ≠ i := fun e he hb heq => hlist (heq ▸ hall e he hb)
      have hnl : ¬ waitsAll md ops j = true := fun h => by
        obtain ⟨e, he, hb, heq⟩ := waitsAll_spec hoj h hil (fun q => hne q.symm)
        exact hno e he hb heq
      have h2 := wpOp_putIf hoj (hfree j oj hoj hne hju hno) (fun cs b => hs i oi cs b hi) (fun cs b => hs j oj cs b hoj) hQ hy (H.2 j (ready_mono hj hne))
      refine wpOp_mono (fun a' w' h3 => ?_) h2
      obtain ⟨hy', hw', hz⟩ := h3
      have hS' : S w' := hw'.resolve_left hnl
      refine ⟨.inr hS', ih (l.setIfInBounds j true) a' w' (fun k ok hk hki hun hn => hfree k ok hk hki ?_ hn) (ready_mono hr (fun q => hne q.symm)) hy' hS' ?_⟩
      · rcases Nat.decEq j k with hjk | hjk
        · rwa [getD_set_ne true hjk] at hun
        · subst hjk; exact hju
      · rw [Array.setIfInBounds_comm _ _ hne]; exact hz
    · subst he; exact hy.wpOp hi hS ⟨.inr hS, H⟩
theorem wpAnyZ_take {i : Nat} {oi : Oper} {v : Value} {f : Nat} {l : Array Bool} {a : Act} {w : World} (hi : ops[i]? = some oi)
    (hs : Region.noSelect ops = true) (hf : Region.free md ops l i = true) (hr : (Region.ready md ops l).contains i = true)
    (hQ : ∀ c a w, Q (.panic c) (a.put oi.dst v) w → Q (.panic c) a w) (hy : YieldsIf P ops S oi v a) (hS : S w)
    (h : wpAnyZ P md ops Q S f (l.setIfInBounds i true) (a.put oi.dst v) w) : wpAnyZ P md ops Q S (f + 1) l a w :=
  wpAnyZ_ahead hi hs hQ f l a w (Region.free_spec hi hf) (by simpa using hr) hy hS h
theorem tZ (i : Nat) {oi : Oper} {v : Value} {f : Nat} {l : Array Bool} {a : Act} {w : World} (hi : ops[i]? = some oi) (hb : tB md ops l i = true) (hg : Region.wanted oi (yielded ops a.tmps) = true)
    (hQ : ∀ c a w, Q (.panic c) (a.put oi.dst v) w → Q (.panic c) a w) (hS : S w) (hy : ∀ w, S w → (execOp a.eval oi).run P w = .ok (.value v) w)
    (h : wpAnyZ P md ops Q S f (l.setIfInBounds i true) (a.put oi.dst v) w) : wpAnyZ P md ops Q S (f + 1) l a w := by
  unfold tB at hb
  simp only [Bool.and_eq_true] at hb
  exact wpAnyZ_take hi hb.1.1 hb.1.2 hb.2 hQ (.inl ⟨hg, hy⟩) hS h
theorem tkZ {i : Nat} {is : List Nat} {oi : Oper} {v : Value} {f : Nat} {l : Array Bool} {a : Act} {w : World} (hi : ops[i]? = some oi) (hb : tB md ops l i = true) (hg : Region.wanted oi (yielded ops a.tmps) = true)
    (hQ : ∀ c a w, Q (.panic c) (a.put oi.dst v) w → Q (.panic c) a w) (hS : S w) (hy : ∀ w, S w → (execOp a.eval oi).run P w = .ok (.value v) w)
    (h : Tk is (wpAnyZ P md ops Q S f (l.setIfInBounds i true) (a.put oi.dst v) w)) : Tk (i :: is) (wpAnyZ P md ops Q S (f + 1) l a w) := ⟨tZ i hi hb hg hQ hS hy h.out⟩
/-- Each of these comes up next. -/
def NextZ (P : Program) (md : Region.Mode) (ops : Array Oper) (Q : Exit → Act → World → Prop) (S : World → Prop) (f : Nat) (l : Array Bool) (a : Act) (w : World) (rs : List Nat) : Prop :=
  ∀ i ∈ rs, wpOp P ops Q i (fun a' w' => (waitsAll md ops i = true ∨ S w') ∧ wpAnyZ P md ops Q S f (l.setIfInBounds i true) a' w') a w
theorem NextZ.nil {f : Nat} {l : Array Bool} {a : Act} {w : World} : NextZ P md ops Q S f l a w [] := fun _ h => absurd h List.not_mem_nil
theorem NextZ.cons {f : Nat} {l : Array Bool} {a : Act} {w : World} {i : Nat} {o : Oper} {rs : List Nat} (ho : ops[i]? = some o)
    (h : ∀ K' : Act → World → Prop, Shut (∀ a w, S w → (S w → wpAnyZ P md ops Q S f (l.setIfInBounds i true) a w) → K' a w) → if Region.wanted o (yielded ops a.tmps) = true then Oper.wp P o a w K' Q else K' (a.put o.dst undef) w)
    (hs : NextZ P md ops Q S f l a w rs) : NextZ P md ops Q S f l a w (i :: rs) := fun j hj => by
  rcases List.mem_cons.1 hj with rfl | hj
  · exact wpOp_step ho (fun K' hK => h K' (fun a w hS hW => hK a w ⟨.inr hS, hW hS⟩))
  · exact hs j hj
/-- The one that waits for all the others comes up. -/
theorem NextZ.last {f : Nat} {l : Array Bool} {a : Act} {w : World} {i : Nat} {o : Oper} (ho : ops[i]? = some o) (hl : waitsAll md ops i = true)
    (h : ∀ K' : Act → World → Prop, Shut (∀ a w, wpAnyZ P md ops Q S f (l.setIfInBounds i true) a w → K' a w) → if Region.wanted o (yielded ops a.tmps) = true then Oper.wp P o a w K' Q else K' (a.put o.dst undef) w) :
    NextZ P md ops Q S f l a w [i] := fun j hj => by
  rw [List.mem_singleton] at hj
  subst hj
  exact wpOp_step ho (fun K' hK => h K' (fun a w hW => hK a w ⟨.inl hl, hW⟩))
theorem wpAnyZ_next {rs : List Nat} {f : Nat} {l : Array Bool} {a : Act} {w : World} (hr : Region.ready md ops l = rs) (hne : rs ≠ []) (h : NextZ P md ops Q S f l a w rs) : wpAnyZ P md ops Q S (f + 1) l a w :=
  ⟨fun h0 => absurd (hr ▸ h0) hne, by rw [hr]; exact h⟩
theorem wpAnyZ_done {l : Array Bool} {a : Act} {w : World} (hr : Region.ready md ops l = []) (h : Q .normal a w) : ∀ f, wpAnyZ P md ops Q S f l a w
  | 0 => ⟨hr, h⟩
  | _ + 1 => ⟨fun _ => h, by rw [hr]; exact fun _ h => absurd h List.not_mem_nil⟩
/-- The beginning. -/
theorem wp_region_Z {id : Nat} {a : Act} {w : World} (hm : P.follows .mixedOrders = true) (hS : S w.drew) (h : S w.drew → wpAnyZ P .any ops Q S ops.size (Array.replicate ops.size false) a w.drew) : (Code.region id ops true).wp P Q a w :=
  wp_region_any hm (wpAny_of_Z _ _ _ _ (h hS))
end
end Go.Proofs.Ytjaoflfophcibaa

namespace Go.Proofs.Ytjaoflfophcibaa
open Go.RowKit Go.Shelf

/-- The bounds of a size. -/
def bndR (t : Tb) (out : Nat → Nat → Bool) (c g : Nat) : R2 := t.aft out (t.nc - 1 - c) c g (t.up out c g)
def flatR (R : Nat → R2) (n : Nat) : List Value := (List.range n).flatMap fun g => [.int .i64 (R g).1, .int .i64 (R g).2]
theorem flatR_succ (R : Nat → R2) (n : Nat) : flatR R (n + 1) = flatR R n ++ [.int .i64 (R n).1, .int .i64 (R n).2] := by
  unfold flatR; rw [List.range_succ, List.flatMap_append]; rfl
theorem flatR_length (R : Nat → R2) (n : Nat) : (flatR R n).length = n * 2 := by
  induction n with
  | zero => rfl
  | succ n ih => rw [flatR_succ, List.length_append, ih]; simp; omega
theorem flatR_get (R : Nat → R2) (n k : Nat) (h : k < n) : (flatR R n)[k * 2]? = some (.int .i64 (R k).1) ∧ (flatR R n)[k * 2 + 1]? = some (.int .i64 (R k).2) := by
  induction n with
  | zero => omega
  | succ n ih =>
    rw [flatR_succ]
    have hl := flatR_length R n
    rcases Nat.lt_succ_iff_lt_or_eq.1 h with h | rfl
    · rw [List.getElem?_append_left (by omega), List.getElem?_append_left (by omega)]; exact ih h
    · rw [List.getElem?_append_right (by omega), List.getElem?_append_right (by omega), hl]
      simp
theorem flatR_one (R : Nat → R2) (n : Nat) : ∀ u ∈ flatR R n, u.oneCell' = true := by
  intro u hu
  simp only [flatR, List.mem_flatMap] at hu
  obtain ⟨g, _, h⟩ := hu
  simp at h
  rcases h with rfl | rfl <;> rfl
/-- An own row of ranges, read. -/
theorem RsAt.own {W : World} {base : Nat} {v : Value} {n : Nat} {R : Nat → R2} (h : W.ownsRow base 29 2 v n (flatR R n)) : RsAt W v n R := by
  rcases h.2 with ⟨rfl, rfl⟩ | ⟨g, cap, cur, rfl, _, hg, _⟩
  · exact .inl ⟨rfl, rfl⟩
  · refine .inr ⟨g, 0, cap, rfl, (Array.getElem?_eq_some_iff.1 hg).1, fun j hj => ?_⟩
    obtain ⟨h0, h1⟩ := flatR_get R n j hj
    rw [Nat.zero_add]
    exact ⟨(h.cellAt _ (by omega)).trans h0, (h.cellAt _ (by omega)).trans h1⟩
/-- How many cells of row c have come when k have. -/
def cntB (ng k c : Nat) : Nat := min ng (k - c * ng)
theorem cntB_same {ng c0 g0 c : Nat} (hg : g0 < ng) (hc : c ≠ c0) : cntB ng (c0 * ng + g0 + 1) c = cntB ng (c0 * ng + g0) c := by
  unfold cntB
  rcases Nat.lt_or_gt_of_ne hc with h | h
  · have h1 : (c + 1) * ng ≤ c0 * ng := Nat.mul_le_mul_right _ h
    rw [Nat.succ_mul] at h1; omega
  · have h1 : (c0 + 1) * ng ≤ c * ng := Nat.mul_le_mul_right _ h
    rw [Nat.succ_mul] at h1; omega
theorem cntB_at {ng c0 g0 : Nat} (hg : g0 < ng) : cntB ng (c0 * ng + g0) c0 = g0 ∧ cntB ng (c0 * ng + g0 + 1) c0 = g0 + 1 := by unfold cntB; omega
theorem cntB_end {ng nc c : Nat} (hc : c < nc) : cntB ng (nc * ng) c = ng := by
  unfold cntB
  have h1 : (c + 1) * ng ≤ nc * ng := Nat.mul_le_mul_right _ hc
  rw [Nat.succ_mul] at h1; omega
theorem cntB_zero (ng c : Nat) : cntB ng 0 c = 0 := by unfold cntB; omega
/-- The rows in memory when k cells have come: the row of rows at OB, the rows at sv 0 .. -/
structure RowsI (base : Nat) (W : World) (OB nc ng : Nat) (R : Nat → Nat → R2) (k : Nat) (sv : Nat → Value) : Prop where
  ob : W.ownsRow 0 34 1 (.slice (some ⟨OB, 0, none⟩) nc nc) nc ((List.range nc).map sv)
  row : ∀ c, c < nc → W.ownsRow base 29 2 (sv c) (cntB ng k c) (flatR (R c) (cntB ng k c))
  dis : ∀ c c' q, c < nc → c' < nc → c ≠ c' → (sv c).ownBlock = some q → (sv c').ownBlock ≠ some q
section
variable {base : Nat} {W X : World} {OB nc ng : Nat} {R : Nat → Nat → R2} {k : Nat} {sv : Nat → Value}
theorem RowsI.lt (h : RowsI base W OB nc ng R k sv) : OB < W.heap.size := own_lt h.ob rfl
theorem RowsI.fr {ex : Nat → Prop} (h : RowsI base W OB nc ng R k sv) (hf : Fr ex W X) (hx : ∀ b cs T, W.heap[b]? = some (.cells cs T (0, 0)) → ¬ ex b) : RowsI base X OB nc ng R k sv :=
  ⟨own_fr h.ob hf (fun g _ _ _ hc => hx g _ _ hc), fun c hc => own_fr (h.row c hc) hf (fun g _ _ _ hg => hx g _ _ hg), h.dis⟩
theorem RowsI.below (h : RowsI base W OB nc ng R k sv) (hb : Below W.heap.size W X) : RowsI base X OB nc ng R k sv := h.fr (Fr.below hb (fun _ => False)) (fun _ _ _ _ h => h)
theorem RowsI.at (h : RowsI base W OB nc ng R k sv) {c : Nat} (hc : c < nc) : W.cell? ⟨OB, c, none⟩ = some (sv c) ∧ W.frozen? ⟨OB, c, none⟩ = false := by
  refine ⟨(h.ob.cellAt c (by omega)).trans ?_, h.ob.frozenAt c⟩
  rw [List.getElem?_map, List.getElem?_range hc]; rfl
theorem RowsI.start (hob : W.ownsRow 0 34 1 (.slice (some ⟨OB, 0, none⟩) nc nc) nc (List.replicate nc (.slice none 0 0))) : RowsI base W OB nc ng R 0 (fun _ => .slice none 0 0) := by
  refine ⟨?_, fun c hc => ?_, fun c c' q _ _ _ h => by cases h⟩
  · have e : (List.range nc).map (fun _ : Nat => (Value.slice none 0 0)) = List.replicate nc (.slice none 0 0) := by rw [List.map_const']; simp
    rw [e]; exact hob
  · rw [cntB_zero]; exact World.ownsRow_nil _ _ _ _
theorem RowsI.step {Y : World} {c0 g0 : Nat} {v1 : Value} (h : RowsI base X OB nc ng R (c0 * ng + g0) sv) (hc : c0 < nc) (hg : g0 < ng) (hOB : OB < base)
    (hown : Y.ownsRow base 29 2 v1 (g0 + 1) (flatR (R c0) (g0 + 1))) (hgr : X.grownBy Y (sv c0).ownBlock) (hlt : v1.ownBlock = (sv c0).ownBlock ∨ v1.ownBlock = some X.heap.size) :
    RowsI base (Y.setCell ⟨OB, c0, none⟩ v1) OB nc ng R (c0 * ng + g0 + 1) (fun c => if c = c0 then v1 else sv c) := by
  have hoX : ∀ c, c < nc → ∀ q, (sv c).ownBlock = some q → base ≤ q ∧ q < X.heap.size := fun c hc q hq => (h.row c hc).lt q hq
  have hobY : Y.ownsRow 0 34 1 (.slice (some ⟨OB, 0, none⟩) nc nc) nc ((List.range nc).map sv) := h.ob.kept hgr (.inr fun e => by
    have := hoX c0 hc OB e.symm; omega)
  have hfY : Fr (fun q => q = OB) Y (Y.setCell ⟨OB, c0, none⟩ v1) := Fr.set Y OB c0 v1
  refine ⟨?_, fun c hc' => ?_, ?_⟩
  · have h1 := (hobY.stored c0 v1).1
    have e : ((List.range nc).map sv).set c0 v1 = (List.range nc).map (fun c => if c = c0 then v1 else sv c) := by
      apply List.ext_getElem?
      intro j
      rw [List.getElem?_set]
      by_cases hj : j < nc
      · rw [List.getElem?_map, List.getElem?_map, List.getElem?_range hj]
        by_cases e : c0 = j
        · subst e; simp [hj]
        · have e' : ¬ j = c0 := fun h => e h.symm
          simp [e, e']
      · by_cases e : c0 = j
        · omega
        · rw [if_neg e, List.getElem?_eq_none (by simp; omega), List.getElem?_eq_none (by simp; omega)]
    rw [e] at h1; exact h1
  · by_cases e : c = c0
    · subst e
      rw [if_pos rfl, (cntB_at hg).2]
      exact own_fr hown hfY (fun g' cur hv hb _ e => by subst e; omega)
    · rw [if_neg e, cntB_same hg e]
      refine own_fr ((h.row c hc').kept hgr ?_) hfY (fun g' cur hv hb _ e => by subst e; omega)
      rcases hq : (sv c).ownBlock with _ | q
      · exact .inl rfl
      · exact .inr (fun e2 => h.dis c c0 q hc' hc e hq e2.symm)
  · intro a b q ha hb hab hq
    by_cases e1 : a = c0
    · subst e1
      rw [if_pos rfl] at hq
      rw [if_neg (fun e => hab e.symm)]
      rcases hlt with e | e
      · rw [e] at hq; exact h.dis _ _ q ha hb hab hq
      · rw [e] at hq; cases hq
        intro e2; have := hoX b hb _ e2; omega
    · rw [if_neg e1] at hq
      by_cases e2 : b = c0
      · subst e2
        rw [if_pos rfl]
        rcases hlt with e | e
        · rw [e]; exact h.dis _ _ q ha hb hab hq
        · rw [e]; intro e3; cases e3; have := hoX a ha _ hq; omega
      · rw [if_neg e2]; exact h.dis _ _ q ha hb hab hq
theorem RowsI.done (h : RowsI base W OB nc ng R (nc * ng) sv) : RowsAt W (.slice (some ⟨OB, 0, none⟩) nc nc) nc (fun _ => ng) R := by
  refine .inr ⟨OB, 0, nc, rfl, h.lt, fun c hc => ⟨sv c, ?_, ?_⟩⟩
  · rw [Nat.zero_add]; exact (h.at hc).1
  · have h1 := h.row c hc
    rw [cntB_end hc] at h1
    exact RsAt.own h1
end
end Go.Proofs.Ytjaoflfophcibaa
