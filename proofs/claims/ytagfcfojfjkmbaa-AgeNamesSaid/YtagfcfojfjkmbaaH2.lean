/- Contract: Person, the reference's person turned into the program's. -/
import Derived.Test.YtagfcfojfjkmbaaH1
import Derived.OrdersHeld
import Derived.Deep.AppendLies
namespace Go.Proofs.Ytagfcfojfjkmbaa
open Go.RowKit Go.Shelf

theorem RlsAt.congr {w : World} {v : Value} {n : Nat} {R S : Nat → Rl} (h : RlsAt w v n R) (he : ∀ j, j < n → R j = S j) : RlsAt w v n S := by
  rcases h with h | ⟨b, off, cap, rfl, hb, hz⟩
  · exact .inl h
  · exact .inr ⟨b, off, cap, rfl, hb, fun j hj => by rw [← he j hj]; exact hz j hj⟩
theorem RcsAt.congr {w : World} {v : Value} {n : Nat} {R S : Nat → Rc} (h : RcsAt w v n R) (he : ∀ j, j < n → R j = S j) : RcsAt w v n S := by
  rcases h with h | ⟨b, off, cap, rfl, hb, hz⟩
  · exact .inl h
  · exact .inr ⟨b, off, cap, rfl, hb, fun j hj => by rw [← he j hj]; exact hz j hj⟩
theorem flatL_snoc (l : List Rl) (r : Rl) : flatL (l ++ [r]) = flatL l ++ [.int .i64 r.f, .int .i64 r.b, .int .i64 r.m, .int .i64 r.e] := by simp [flatL]
theorem flatC_snoc (l : List Rc) (r : Rc) : flatC (l ++ [r]) = flatC l ++ [.int .i64 r.day, .int .i64 r.rule, .int .i64 r.num] := by simp [flatC]
def rlTo (R : Nat → Rl) (k : Nat) : List Rl := (List.range k).map R
def rcTo (C : Nat → Rc) (k : Nat) : List Rc := (List.range k).map C
theorem rlTo_succ (R : Nat → Rl) (k : Nat) : rlTo R (k + 1) = rlTo R k ++ [R k] := by simp [rlTo, List.range_succ]
theorem rcTo_succ (C : Nat → Rc) (k : Nat) : rcTo C (k + 1) = rcTo C k ++ [C k] := by simp [rcTo, List.range_succ]
theorem rlTo_length (R : Nat → Rl) (k : Nat) : (rlTo R k).length = k := by simp [rlTo]
theorem rcTo_length (C : Nat → Rc) (k : Nat) : (rcTo C k).length = k := by simp [rcTo]
theorem LL.rls {W : World} {v : Value} {R : Nat → Rl} {n : Nat} (h : LL W v (rlTo R n)) : RlsAt W v n R := by
  have := h.at
  rw [rlTo_length] at this
  exact this.congr (fun j hj => by simp [rlTo, hj])
theorem CL.rcs {W : World} {v : Value} {C : Nat → Rc} {n : Nat} (h : CL W v (rcTo C n)) : RcsAt W v n C := by
  have := h.at
  rw [rcTo_length] at this
  exact this.congr (fun j hj => by simp [rcTo, hj])

/-- While the person is built: its rules av and records bv so far. -/
def PI (w : World) (p : Pers) (rv cv av bv : Value) (W : World) : Prop :=
  W.heap[w.heap.size]? = some (.cells #[.int .i64 p.lo, .int .i64 p.hi, rv, cv] 36 (0, 0)) ∧ W.heap[w.heap.size + 1]? = some (.cells #[.int .i64 0, .int .i64 0, .slice none 0 0, .slice none 0 0] 45 (0, 0)) ∧
  W.heap[w.heap.size + 2]? = some (.cells #[.int .i64 p.lo, .int .i64 p.hi, av, bv] 45 (0, 0)) ∧ Below w.heap.size w W
theorem PI.fr {w : World} {p : Pers} {rv cv av bv : Value} {W W' : World} {ex : Nat → Prop} (h : PI w p rv cv av bv W) (hf : Fr ex W W') (hx : ∀ q c t, ex q → W.heap[q]? = some (.cells c t (0, 0)) → t = 80 ∨ t = 109) (hlow : ∀ q, ex q → w.heap.size ≤ q) : PI w p rv cv av bv W' := by
  obtain ⟨h1, h2, h3, h4⟩ := h
  have go : ∀ (q : Nat) (c : Array Value) (t : TypeId), W.heap[q]? = some (Obj.cells c t (0, 0)) → t ≠ 80 → t ≠ 109 → W'.heap[q]? = some (Obj.cells c t (0, 0)) := fun q c t hq n1 n2 =>
    (hf.block _ (Array.getElem?_eq_some_iff.1 hq).1 (fun e => by rcases hx q c t e hq with e | e; exact n1 e; exact n2 e)).trans hq
  exact ⟨go _ _ _ h1 (by decide) (by decide), go _ _ _ h2 (by decide) (by decide), go _ _ _ h3 (by decide) (by decide), h4.trans (hf.low h4.size (fun q hq e => by have := hlow q e; omega))⟩
theorem PI.below {w : World} {p : Pers} {rv cv av bv : Value} {W W' : World} (h : PI w p rv cv av bv W) (hb : Below W.heap.size W W') : PI w p rv cv av bv W' :=
  h.fr (Fr.below hb (fun _ => False)) (fun _ _ _ e => e.elim) (fun _ e => e.elim)
theorem PI.set {w : World} {p : Pers} {rv cv av bv : Value} {W : World} (h : PI w p rv cv av bv W) (o : Nat) (u : Value) (c : Array Value) (hc : (#[.int .i64 p.lo, .int .i64 p.hi, av, bv] : Array Value).setIfInBounds o u = c) :
    (W.setCell ⟨w.heap.size + 2, o, none⟩ u).heap[w.heap.size]? = some (.cells #[.int .i64 p.lo, .int .i64 p.hi, rv, cv] 36 (0, 0)) ∧ (W.setCell ⟨w.heap.size + 2, o, none⟩ u).heap[w.heap.size + 1]? = some (.cells #[.int .i64 0, .int .i64 0, .slice none 0 0, .slice none 0 0] 45 (0, 0)) ∧ (W.setCell ⟨w.heap.size + 2, o, none⟩ u).heap[w.heap.size + 2]? = some (.cells c 45 (0, 0)) ∧ Below w.heap.size w (W.setCell ⟨w.heap.size + 2, o, none⟩ u) := by
  obtain ⟨h1, h2, h3, h4⟩ := h
  have hf := Fr.set W (w.heap.size + 2) o u
  have hs := (Array.getElem?_eq_some_iff.1 h3).1
  refine ⟨(hf.block _ (by omega) (by omega)).trans h1, (hf.block _ (by omega) (by omega)).trans h2, ?_, h4.trans (hf.low h4.size (fun q hq e => by omega))⟩
  rw [← hc]
  simp [World.setCell, Array.getElem?_modify, h3]
theorem LL.ex {W : World} {v : Value} {l : List Rl} (h : LL W v l) (q : Nat) (c : Array Value) (t : TypeId) (hq : v.ownBlock = some q) (hc : W.heap[q]? = some (Obj.cells c t (0, 0))) : t = 80 := by
  rcases h.2 with ⟨rfl, _⟩ | ⟨g, cap, cur, rfl, _, hg, _⟩
  · cases hq
  · cases hq; rw [hg] at hc; cases hc; rfl
theorem CL.ex {W : World} {v : Value} {l : List Rc} (h : CL W v l) (q : Nat) (c : Array Value) (t : TypeId) (hq : v.ownBlock = some q) (hc : W.heap[q]? = some (Obj.cells c t (0, 0))) : t = 109 := by
  rcases h.2 with ⟨rfl, _⟩ | ⟨g, cap, cur, rfl, _, hg, _⟩
  · cases hq
  · cases hq; rw [hg] at hc; cases hc; rfl
end Go.Proofs.Ytagfcfojfjkmbaa
