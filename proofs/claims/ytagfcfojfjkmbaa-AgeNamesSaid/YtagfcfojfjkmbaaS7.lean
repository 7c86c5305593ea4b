/- A map from queries to answers: its key's law; its elements' reader. -/
import Derived.Test.YtagfcfojfjkmbaaS6
import Derived.Maps.OwnSet
import Derived.Maps.OwnOps
namespace Go.Proofs.Ytagfcfojfjkmbaa
open Go.RowKit Go.Shelf Go.Maps

theorem qDeep : Try.prog.keyTypeAt (Try.prog.types.size + 1) 141 = true := by kernel_rfl
theorem qRow : 141 < Try.prog.types.size := of_decide_eq_true (by kernel_rfl)
theorem qWide : (match Try.prog.underlying 141 with | some (.array _ _) | some (.struct _) => true | _ => false) = true := by rw [Try.underlying141]
theorem qLaid : laidOutB Try.prog = true := by kernel_rfl
theorem qDeep3 : Try.prog.keyTypeAt 3 141 = true := by kernel_rfl
theorem qLaw : Keyed Try.prog 141 := Keyed.of_law (deep_law_laid qLaid (m := 3) (by omega) qRow qDeep3 (by rw [Try.underlying141]))
theorem qZero (w : World) : (zeroValue 143).run Try.prog w = .ok (.agg #[.bool false, .bool false]) w := by kernel_rfl
def qKey (f b m e n : Int) : Value := .agg #[.int .i64 f, .int .i64 b, .int .i64 m, .int .i64 e, .int .i64 n]
theorem wf64 {n : Int} (h : -1000 ≤ n ∧ n ≤ 1000) : (Lit.int .i64 n).wf = true := by
  have h1 : IntKind.i64.min ≤ -1000 := by decide
  have h2 : 1000 ≤ IntKind.i64.max := by decide
  simp only [Lit.wf, Bool.and_eq_true, decide_eq_true_eq]
  omega
theorem qSize : ∃ N, Try.prog.types.size + 1 = N + 1 + 1 + 1 := ⟨Try.prog.types.size - 2, by have : 2 < Try.prog.types.size := of_decide_eq_true (by kernel_rfl); omega⟩
theorem qFormed (f b m e n : Int) : (qKey f b m e n).formed Try.prog 141 = true := by kernel_rfl
theorem qKeyType : Try.prog.keyType 141 = true := by kernel_rfl
theorem qCells : Try.prog.cellsOf 141 = 5 ∧ Try.prog.cellsOf 80 = 4 ∧ Try.prog.cellsOf 3 = 1 := ⟨by kernel_rfl, by kernel_rfl, by kernel_rfl⟩
theorem qKeyOf (f b m e n : Int) (hr : okRule f b m e = true) (hn : 0 ≤ n ∧ n ≤ 140) : ∃ l, keyOf Try.prog 141 (qKey f b m e n) = some l := by
  obtain ⟨g0, g1, g2, g3, g4, g5, g6, g7⟩ := okRule_bd hr
  have w0 := wf64 (n := f) (by omega)
  have w1 := wf64 (n := b) (by omega)
  have w2 := wf64 (n := m) (by omega)
  have w3 := wf64 (n := e) (by omega)
  have w4 := wf64 (n := n) (by omega)
  obtain ⟨N, hN⟩ := qSize
  obtain ⟨c1, c2, c3⟩ := qCells
  unfold keyOf
  rw [Try.underlying141]
  simp only [qKeyType, qFormed, Bool.and_self, if_true, hN]
  refine ⟨.string (keyBytes [.int .i64 f, .int .i64 b, .int .i64 m, .int .i64 e, .int .i64 n]), ?_⟩
  rw [show Try.prog.keyLits (N + 1 + 1 + 1) 141 (qKey f b m e n).cells.toList = some [.int .i64 f, .int .i64 b, .int .i64 m, .int .i64 e, .int .i64 n] from ?_]
  · rfl
  · simp [qKey, Value.cells, Program.keyLits, Try.underlying141, Try.underlying80, Try.underlying3, c1, c2, c3, w0, w1, w2, w3, w4]
    rw [if_pos (by intro i hi; have : i = 0 ∨ i = 1 ∨ i = 2 ∨ i = 3 := by omega
                   rcases this with rfl | rfl | rfl | rfl <;> simp)]
    rfl

/-- How an answer reads: a struct of two bools. -/
def ansR (v : Value) : Option (DataW Unit × List MemPlace) :=
  match v with
  | .agg xs => (match xs.toList with | [.bool x, .bool y] => some (.agg [.lit (.bool x), .lit (.bool y)], []) | _ => none)
  | _ => none
theorem ansR_inv {v : Value} {z : DataW Unit × List MemPlace} (h : ansR v = some z) : ∃ x y, v = .agg #[.bool x, .bool y] ∧ z = (.agg [.lit (.bool x), .lit (.bool y)], []) := by
  cases v with
  | agg xs =>
    obtain ⟨l⟩ := xs
    match l, h with
    | [.bool x, .bool y], h => exact ⟨x, y, rfl, (Option.some.inj h).symm⟩
  | _ => simp [ansR] at h
theorem atKey_hasU {D : DataW Unit} {k : Lit} (h : Maps.has D k = true) (z z' : DataW Unit) : D.atKey k z = D.atKey k z' := by
  cases D with
  | map es =>
    simp only [DataW.atKey]
    cases hf : es.find? (fun p => p.1.sameKey k) with
    | some p => rfl
    | none =>
      simp only [Maps.has, List.any_eq_true] at h
      obtain ⟨p, hp, hk⟩ := h
      exact absurd hk (by simpa using List.find?_eq_none.1 hf p hp)
  | _ => simp [Maps.has] at h
/-- A map from queries of a rule to answers. -/
def QM (w : World) (f b m e : Int) (aI aO : Int → Bool) (bm n : Nat) : Prop :=
  ∃ D : DataW Unit, IsMap D ∧ w.ownsMap Try.prog 141 ansR bm n D ∧ ∀ z kl, keyOf Try.prog 141 (qKey f b m e z) = some kl → Maps.has D kl = true → ∀ z0, D.atKey kl z0 = .agg [.lit (.bool (aI z)), .lit (.bool (aO z))]
theorem QM.made (w : World) (f b m e : Int) (aI aO : Int → Bool) : QM (w.alloc (.map #[] 0)) f b m e aI aO w.heap.size 0 :=
  ⟨.map [], isMap_empty, World.ownsMap_made _ _ _ _, fun z kl _ h => by simp [Maps.has] at h⟩
theorem QM.kept {w w' : World} {f b m e : Int} {aI aO : Int → Bool} {bm n : Nat} {row : Option Nat} (h : QM w f b m e aI aO bm n) (hg : w.grownBy w' row) (hne : some bm ≠ row) : QM w' f b m e aI aO bm n := by
  obtain ⟨D, h1, h2, h3⟩ := h; exact ⟨D, h1, h2.kept hg hne, h3⟩
theorem QM.lt {w : World} {f b m e : Int} {aI aO : Int → Bool} {bm n : Nat} (h : QM w f b m e aI aO bm n) : bm < w.heap.size := by
  obtain ⟨D, h1, h2, h3⟩ := h; exact h2.lt
section
variable (w : World) {ops : Array Oper} {rest : List Oper} {o : Oper} {a : Act} {Q : Exit → Act → World → Prop}
theorem wpList_lookup_qm (hg : o.guard = none) (x y : Operand) (hop : o.op = Op.lookup 139 x y true) (f b m e z : Int) (hr : okRule f b m e = true) (hz : 0 ≤ z ∧ z ≤ 140) (aI aO : Int → Bool) (bm n : Nat)
    (hm : a.eval x = .map (some bm)) (hown : QM w f b m e aI aO bm n) (hx : a.eval y = qKey f b m e z)
    (hK : ∀ h : Bool, wpList Try.prog ops Q rest (a.put o.dst (.tuple #[.agg #[.bool (h && aI z), .bool (h && aO z)], .bool h])) w) :
    wpList Try.prog ops Q (o :: rest) a w := by
  obtain ⟨kl, hkey⟩ := qKeyOf f b m e z hr hz
  obtain ⟨D, h1, h2, h3⟩ := hown
  refine wpList_lookup_own_ok w hg x y 139 hop 141 143 qLaw Try.underlying139 ansR (qZero w) (.agg [.lit (.bool false), .lit (.bool false)]) [] rfl bm n D hm h2 _ kl hx hkey fun v ps hv => ?_
  obtain ⟨p, q, rfl, hpq⟩ := ansR_inv hv
  have hpq := congrArg Prod.fst hpq
  simp only at hpq
  have hh := hK (Maps.has D kl)
  cases hb : Maps.has D kl
  · rw [atKey_of_not_has hb] at hpq
    simp only [DataW.agg.injEq, List.cons.injEq, DataW.lit.injEq, Lit.bool.injEq, and_true] at hpq
    obtain ⟨rfl, rfl⟩ := hpq
    rw [hb] at hh
    exact hh
  · rw [h3 z kl hkey hb] at hpq
    simp only [DataW.agg.injEq, List.cons.injEq, DataW.lit.injEq, Lit.bool.injEq, and_true] at hpq
    obtain ⟨rfl, rfl⟩ := hpq
    rw [hb] at hh
    exact hh
theorem wpList_update_qm (hg : o.guard = none) (x y v : Operand) (hop : o.op = Op.mapUpdate 139 x y v) (f b m e z : Int) (hr : okRule f b m e = true) (hz : 0 ≤ z ∧ z ≤ 140) (aI aO : Int → Bool) (bm n : Nat) (hn : n < maxLen)
    (hm : a.eval x = .map (some bm)) (hown : QM w f b m e aI aO bm n) (hx : a.eval y = qKey f b m e z) (hv : a.eval v = .agg #[.bool (aI z), .bool (aO z)])
    (hK : ∀ w', QM w' f b m e aI aO bm (n + 1) → w.grownBy w' (some bm) → wpList Try.prog ops Q rest (a.put o.dst undef) w') :
    wpList Try.prog ops Q (o :: rest) a w := by
  obtain ⟨kl, hkey⟩ := qKeyOf f b m e z hr hz
  obtain ⟨D, h1, h2, h3⟩ := hown
  refine wpList_mapUpdate_own w hg x y v 139 hop 141 143 qLaw Try.underlying139 ansR bm n D hm h2 hn _ _ kl hx hv hkey (.agg [.lit (.bool (aI z)), .lit (.bool (aO z))]) [] rfl fun w' hw hgr => hK w' ⟨_, h1.put _ _, hw, fun z' kl' hk' hh z0 => ?_⟩ hgr
  by_cases e : kl' = kl
  · subst e
    have := qLaw.inj hk' hkey
    simp only [qKey, Value.agg.injEq, Array.mk.injEq, List.cons.injEq, Value.int.injEq, true_and, and_true] at this
    subst this
    rw [atKey_put_same h1 (qLaw.key hkey)]
  · rw [has_put_other e] at hh
    rw [atKey_put_other e]
    exact h3 z' kl' hk' hh z0
end
end Go.Proofs.Ytagfcfojfjkmbaa
