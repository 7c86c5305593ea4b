/- Link: a set of numbers as a map (map[int]bool), with its size. -/
import Derived.Test.YtgbdbikjckfgmaaGreatOJ
import Derived.Maps.Views
import Derived.Maps.Keyed
namespace Go.Proofs.YtgbdbikjckfgmaaGreat
open Go.RowKit Go.Shelf Go.Maps

def rng64 (k : Int) : Prop := (Lit.int .i64 k).wf = true
theorem iKeyed : Keyed Tryz.prog 3 := int_keyed Tryz.underlying3
theorem iKeyOf {k : Int} (h : rng64 k) : keyOf Tryz.prog 3 (.int .i64 k) = some (.int .i64 k) := keyOf_int_mk Tryz.underlying3 h
/-- A set of numbers: its members, its size. -/
def IMD (D : DataW Unit) (F : Int → Bool) (n : Nat) : Prop :=
  Tidy D ∧ size D = n ∧ ∀ k, rng64 k → D.atKey (.int .i64 k) (.lit (.bool false)) = .lit (.bool (F k)) ∧ has D (.int .i64 k) = F k
def IM (w : World) (F : Int → Bool) (bm n : Nat) : Prop := ∃ D : DataW Unit, IMD D F n ∧ w.ownsMap Tryz.prog 3 blR bm n D
theorem IM.made (w : World) : IM (w.alloc (.map #[] 0)) (fun _ => false) w.heap.size 0 :=
  ⟨.map [], ⟨tidy_empty, rfl, fun _ _ => ⟨rfl, rfl⟩⟩, World.ownsMap_made _ _ _ _⟩
theorem IM.kept {w w' : World} {F : Int → Bool} {bm n : Nat} {row : Option Nat} (h : IM w F bm n) (hg : w.grownBy w' row) (hne : some bm ≠ row) : IM w' F bm n := by
  obtain ⟨D, h1, h2⟩ := h; exact ⟨D, h1, h2.kept hg hne⟩
theorem IM.lt {w : World} {F : Int → Bool} {bm n : Nat} (h : IM w F bm n) : bm < w.heap.size := by
  obtain ⟨D, h1, h2⟩ := h; exact h2.lt
theorem IM.below {w w' : World} {F : Int → Bool} {bm n : Nat} (h : IM w F bm n) (hb : Below w.heap.size w w') : IM w' F bm n :=
  h.kept (row := none) ⟨hb.1, hb.2, hb.3, hb.size, fun k hk _ => hb.block k hk⟩ (by simp)
theorem IM.look {F : Int → Bool} {k : Int} (hk : rng64 k) {W : World} {bm m : Nat} (h : IM W F bm m) :
    (Instr.lookup 144 (.map (some bm)) (.int .i64 k) false).run Tryz.prog W = .ok (.bool (F k)) W := by
  obtain ⟨D, hD, hW⟩ := h
  obtain ⟨es, clock, hb, F', _, rfl⟩ := hW
  have hF := (hD.2.2 k hk).1
  rcases Maps.fit_look false iKeyed Tryz.underlying144 (cZero W) hb F' (iKeyOf hk) with ⟨hrun, _, hat⟩ | ⟨e0, y, _, _, hrun, hRv, hat, _⟩
  · rw [hat] at hF
    simp only [DataW.lit.injEq, Lit.bool.injEq] at hF
    rw [hrun, ← hF]; rfl
  · rw [hat] at hF
    obtain ⟨x, hx, rfl⟩ := blR_inv hRv
    simp only [DataW.lit.injEq, Lit.bool.injEq] at hF
    rw [hrun, hx, hF]; rfl
theorem IM.len {F : Int → Bool} {W : World} {bm m : Nat} (h : IM W F bm m) (ty : TypeId) : (Builtin.len_ #[144] ty #[.map (some bm)]).run Tryz.prog W = .ok (.int .i64 (m : Int)) W := by
  obtain ⟨D, hD, hW⟩ := h
  rw [hW.len Tryz.underlying144 ty, hD.2.1]
def addI (F : Int → Bool) (k x : Int) : Bool := F x || decide (x = k)
theorem IM.put {F : Int → Bool} {k : Int} (hk : rng64 k) {w : World} {bm n : Nat} (h : IM w F bm n) (hF : F k = false) (hn : n < maxLen) :
    ∃ w', (Instr.mapUpdate 144 (.map (some bm)) (.int .i64 k) (.bool true)).run Tryz.prog w = .ok () w' ∧ IM w' (addI F k) bm (n + 1) ∧ w.grownBy w' (some bm) := by
  obtain ⟨D, ⟨h1, h3, h4⟩, h2⟩ := h
  obtain ⟨w', hrun, r1, r2⟩ := h2.update iKeyed Tryz.underlying144 hn (iKeyOf hk) (val := .bool true) (d := .lit (.bool true)) (ps := []) rfl
  refine ⟨w', hrun, ⟨_, ⟨h1.put (iKeyed.key (iKeyOf hk)) _, ?_, fun x hx => ?_⟩, r1⟩, r2⟩
  · rw [size_put h1, (h4 k hk).2, hF, h3]; rfl
  · unfold addI
    by_cases e : x = k
    · subst e
      rw [atKey_put_same h1.isMap (iKeyed.key (iKeyOf hx)), has_put_same h1.isMap (iKeyed.key (iKeyOf hx))]
      simp
    · have hne : (Lit.int .i64 x) ≠ .int .i64 k := fun h => e (by injection h)
      rw [atKey_put_other hne, has_put_other hne, decide_eq_false e, Bool.or_false]
      exact h4 x hx
theorem wpList_update_im {ops : Array Oper} {rest : List Oper} {o : Oper} {a : Act} {w : World} {Q : Exit → Act → World → Prop} (hg : o.guard = none) (x y v : Operand) (hop : o.op = Op.mapUpdate 144 x y v) {k : Int} (hk : rng64 k) (F : Int → Bool) (bm n : Nat) (hF : F k = false) (hn : n < maxLen)
    (hm : a.eval x = .map (some bm)) (hown : IM w F bm n) (hx : a.eval y = .int .i64 k) (hv : a.eval v = .bool true)
    (hK : ∀ w', IM w' (addI F k) bm (n + 1) → w.grownBy w' (some bm) → wpList Tryz.prog ops Q rest (a.put o.dst undef) w') : wpList Tryz.prog ops Q (o :: rest) a w := by
  refine wpList_plain hg fun K' hK' => ?_
  obtain ⟨w', hrun, r1, r2⟩ := hown.put hk hF hn
  unfold Oper.wp
  simp [execOp, hop, hm, hx, hv, hrun, Result.andThen]
  exact hK' _ _ (hK w' r1 r2)
theorem wpList_len_im {ops : Array Oper} {rest : List Oper} {o : Oper} {a : Act} {w : World} {Q : Exit → Act → World → Prop} (hg : o.guard = none) (x : Operand) (hop : o.op = Op.call { callee := Callee.builtin Builtin.len, args := #[x], argTypes := #[144] }) (F : Int → Bool) (bm n : Nat)
    (hm : a.eval x = .map (some bm)) (hown : IM w F bm n) (hK : wpList Tryz.prog ops Q rest (a.put o.dst (.int .i64 (n : Int))) w) : wpList Tryz.prog ops Q (o :: rest) a w := by
  refine wpList_plain hg fun K' hK' => ?_
  unfold Oper.wp
  simp [execOp, hop, resolve, invoke, builtin, hm, hown.len o.type, Result.andThen]
  exact hK' _ _ hK
end Go.Proofs.YtgbdbikjckfgmaaGreat
