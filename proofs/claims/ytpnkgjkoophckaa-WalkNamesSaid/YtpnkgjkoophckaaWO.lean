/- Walk: the map of tours (turned from the Flow seat's text PB); plain: how a tour goes on. -/
import Derived.Test.YtpnkgjkoophckaaWM
import Derived.Test.YtpnkgjkoophckaaWN
import Derived.Maps.OwnSet
import Derived.Maps.OwnOps
namespace Go.Proofs.Ytpnkgjkoophckaa
open Go.RowKit Go.Shelf Go.Maps

theorem cRow : 164 < Try.prog.types.size := of_decide_eq_true (by kernel_rfl)
theorem cDeep3 : Try.prog.keyTypeAt 3 164 = true := by kernel_rfl
theorem cLaw : Keyed Try.prog 164 := Keyed.of_law (deep_law_laid Try.laidOut (m := 3) (by omega) cRow cDeep3 (by rw [Try.underlying164]))
theorem cZero (w : World) : (zeroValue 161).run Try.prog w = .ok (.agg #[.int .i64 0, .int .i64 0]) w := by kernel_rfl
def cKey (c g : Int) : Value := .agg #[.int .i64 c, .int .i64 g]
theorem wf64 {n : Int} (h : -1000 ≤ n ∧ n ≤ 1000) : (Lit.int .i64 n).wf = true := by
  have h1 : IntKind.i64.min ≤ -1000 := by decide
  have h2 : 1000 ≤ IntKind.i64.max := by decide
  simp only [Lit.wf, Bool.and_eq_true, decide_eq_true_eq]
  omega
theorem cSize : ∃ N, Try.prog.types.size + 1 = N + 1 + 1 + 1 := ⟨Try.prog.types.size - 2, by have : 2 < Try.prog.types.size := of_decide_eq_true (by kernel_rfl); omega⟩
theorem cFormed (c g : Int) : (cKey c g).formed Try.prog 164 = true := by kernel_rfl
theorem cKeyType : Try.prog.keyType 164 = true := by kernel_rfl
theorem cCells : Try.prog.cellsOf 164 = 2 ∧ Try.prog.cellsOf 3 = 1 ∧ Try.prog.cellsOf 124 = 1 := ⟨by kernel_rfl, by kernel_rfl, by kernel_rfl⟩
theorem cKeyOf (c g : Int) (hc : 0 ≤ c ∧ c ≤ 300) (hg : 0 ≤ g ∧ g ≤ 300) : ∃ l, keyOf Try.prog 164 (cKey c g) = some l := by
  have w0 := wf64 (n := c) (by omega)
  have w1 := wf64 (n := g) (by omega)
  obtain ⟨N, hN⟩ := cSize
  obtain ⟨c1, c3, c4⟩ := cCells
  unfold keyOf
  rw [Try.underlying164]
  simp only [cKeyType, cFormed, Bool.and_self, if_true, hN]
  refine ⟨.string (keyBytes [.int .i64 c, .int .i64 g]), ?_⟩
  rw [show Try.prog.keyLits (N + 1 + 1 + 1) 164 (cKey c g).cells.toList = some [.int .i64 c, .int .i64 g] from ?_]
  · rfl
  · simp [cKey, Value.cells, Program.keyLits, Try.underlying164, Try.underlying3, Try.underlying124, c1, c3, c4, w0, w1]

/-- How a range reads: a struct of two ints. -/
def rgR (v : Value) : Option (DataW Unit × List MemPlace) :=
  match v with
  | .agg xs => (match xs.toList with | [.int .i64 x, .int .i64 y] => some (.agg [.lit (.int .i64 x), .lit (.int .i64 y)], []) | _ => none)
  | _ => none
theorem rgR_inv {v : Value} {z : DataW Unit × List MemPlace} (h : rgR v = some z) : ∃ x y, v = .agg #[.int .i64 x, .int .i64 y] ∧ z = (.agg [.lit (.int .i64 x), .lit (.int .i64 y)], []) := by
  cases v with
  | agg xs =>
    obtain ⟨l⟩ := xs
    match l, h with
    | [.int .i64 x, .int .i64 y], h => exact ⟨x, y, rfl, (Option.some.inj h).symm⟩
  | _ => simp [rgR] at h
/-- A map from cells to ranges: each key that is there has its range by F. -/
def CMD (D : DataW Unit) (F : Int → Int → R2) : Prop :=
  IsMap D ∧ ∀ c g kl, keyOf Try.prog 164 (cKey c g) = some kl → Maps.has D kl = true → ∀ z0, D.atKey kl z0 = .agg [.lit (.int .i64 (F c g).1), .lit (.int .i64 (F c g).2)]
def CM (w : World) (F : Int → Int → R2) (bm n : Nat) : Prop := ∃ D : DataW Unit, CMD D F ∧ w.ownsMap Try.prog 164 rgR bm n D
theorem CM.made (w : World) (F : Int → Int → R2) : CM (w.alloc (.map #[] 0)) F w.heap.size 0 :=
  ⟨.map [], ⟨isMap_empty, fun c g kl _ h => by simp [Maps.has] at h⟩, World.ownsMap_made _ _ _ _⟩
theorem CM.kept {w w' : World} {F : Int → Int → R2} {bm n : Nat} {row : Option Nat} (h : CM w F bm n) (hg : w.grownBy w' row) (hne : some bm ≠ row) : CM w' F bm n := by
  obtain ⟨D, h1, h2⟩ := h; exact ⟨D, h1, h2.kept hg hne⟩
theorem CM.lt {w : World} {F : Int → Int → R2} {bm n : Nat} (h : CM w F bm n) : bm < w.heap.size := by
  obtain ⟨D, h1, h2⟩ := h; exact h2.lt
theorem CM.mono {w : World} {F : Int → Int → R2} {bm n n' : Nat} (h : CM w F bm n) (hn : n ≤ n') : CM w F bm n' := by
  obtain ⟨D, h1, h2⟩ := h; exact ⟨D, h1, h2.mono hn⟩
theorem CM.below {w w' : World} {F : Int → Int → R2} {bm n : Nat} (h : CM w F bm n) (hb : Below w.heap.size w w') : CM w' F bm n :=
  h.kept (row := none) ⟨hb.1, hb.2, hb.3, hb.size, fun k hk _ => hb.block k hk⟩ (by simp)
theorem CM.setCell {w : World} {F : Int → Int → R2} {bm n : Nat} (h : CM w F bm n) {p : Addr} (hp : p.block ≠ bm) (u : Value) : CM (w.setCell p u) F bm n :=
  h.kept (row := some p.block) ⟨rfl, rfl, rfl, by simp [World.setCell], fun k _ hk => Below.heap_setCell _ _ _ _ (fun e => hk (by rw [e]))⟩ (fun e => hp (Option.some.inj e).symm)
/-- What a look-up in the map D gives, in whatever world holds it. -/
theorem look_cm {D : DataW Unit} {F : Int → Int → R2} (hD : CMD D F) {c g : Int} (hc : 0 ≤ c ∧ c ≤ 300) (hg : 0 ≤ g ∧ g ≤ 300) :
    ∃ h : Bool, ∀ (W : World) (bm m : Nat), W.ownsMap Try.prog 164 rgR bm m D →
      (Instr.lookup 133 (.map (some bm)) (cKey c g) true).run Try.prog W = .ok (.tuple #[.agg #[.int .i64 (if h then (F c g).1 else 0), .int .i64 (if h then (F c g).2 else 0)], .bool h]) W := by
  obtain ⟨kl, hkey⟩ := cKeyOf c g hc hg
  refine ⟨Maps.has D kl, fun W bm m hW => ?_⟩
  obtain ⟨v, ps, hrun, hv⟩ := hW.look_ok cLaw Try.underlying133 (cZero W) (zd := .agg [.lit (.int .i64 0), .lit (.int .i64 0)]) (zp := []) rfl hkey
  rw [hrun]
  obtain ⟨p, q, rfl, hpq⟩ := rgR_inv hv
  have hpq := congrArg Prod.fst hpq
  simp only at hpq
  cases hb : Maps.has D kl
  · rw [atKey_of_not_has hb] at hpq
    simp only [DataW.agg.injEq, List.cons.injEq, DataW.lit.injEq, Lit.int.injEq, and_true, true_and] at hpq
    obtain ⟨rfl, rfl⟩ := hpq
    rfl
  · rw [hD.2 c g kl hkey hb] at hpq
    simp only [DataW.agg.injEq, List.cons.injEq, DataW.lit.injEq, Lit.int.injEq, and_true, true_and] at hpq
    obtain ⟨rfl, rfl⟩ := hpq
    rfl
/-- A store into the map, in a region that draws. -/
theorem step_update_cm {ops : Array Oper} {o : Oper} {a : Act} {K : Act → World → Prop} {Q : Exit → Act → World → Prop} {E : Prop} {w : World} (hgd : o.guard = none) (x y v : Operand) (hop : o.op = Op.mapUpdate 133 x y v) (c g : Int) (hc : 0 ≤ c ∧ c ≤ 300) (hg : 0 ≤ g ∧ g ≤ 300) (F : Int → Int → R2) (bm n : Nat) (hn : n < maxLen)
    (hm : a.eval x = .map (some bm)) (hown : CM w F bm n) (hx : a.eval y = cKey c g) (hv : a.eval v = .agg #[.int .i64 (F c g).1, .int .i64 (F c g).2])
    (hK : ∀ w', CM w' F bm (n + 1) → w.grownBy w' (some bm) → K (a.put o.dst undef) w') :
    if Region.wanted o (yielded ops a.tmps) = true then Oper.wp Try.prog o a w K Q else E := by
  have hw : Region.wanted o (yielded ops a.tmps) = true := by simp [Region.wanted, hgd]
  rw [if_pos hw]
  obtain ⟨kl, hkey⟩ := cKeyOf c g hc hg
  obtain ⟨D, ⟨h1, h3⟩, h2⟩ := hown
  obtain ⟨w', hrun, r1, r2⟩ := h2.update cLaw Try.underlying133 hn hkey (val := .agg #[.int .i64 (F c g).1, .int .i64 (F c g).2]) (d := .agg [.lit (.int .i64 (F c g).1), .lit (.int .i64 (F c g).2)]) (ps := []) rfl
  have hC : CM w' F bm (n + 1) := ⟨_, ⟨h1.put _ _, fun c' g' kl' hk' hh z0 => by
    by_cases e : kl' = kl
    · subst e
      have := cLaw.inj hk' hkey
      simp only [cKey, Value.agg.injEq, Array.mk.injEq, List.cons.injEq, Value.int.injEq, true_and, and_true] at this
      obtain ⟨rfl, rfl⟩ := this
      rw [atKey_put_same h1 (cLaw.key hkey)]
    · rw [has_put_other e] at hh
      rw [atKey_put_other e]
      exact h3 c' g' kl' hk' hh z0⟩, r1⟩
  unfold Oper.wp
  simp [execOp, hop, hm, hx, hv, hrun, Result.andThen]
  exact hK w' hC r2

/-- The first place of a list at which a time is smallest, and this time; far and -1: none is below far. -/
def bestL (v : Nat → Int) (L : List Nat) : R2 := L.foldl (fun b n => if v n < b.1 then (v n, (n : Int)) else b) (1048576, -1)
theorem bestL_snoc (v : Nat → Int) (L : List Nat) (n : Nat) : bestL v (L ++ [n]) = if v n < (bestL v L).1 then (v n, (n : Int)) else bestL v L := by unfold bestL; rw [List.foldl_append]; rfl
theorem bestL_congr {v v' : Nat → Int} {L : List Nat} (h : ∀ n, n ∈ L → v n = v' n) : bestL v L = bestL v' L := by
  unfold bestL
  have : ∀ (L : List Nat) (b : R2), (∀ n, n ∈ L → v n = v' n) → L.foldl (fun b n => if v n < b.1 then (v n, (n : Int)) else b) b = L.foldl (fun b n => if v' n < b.1 then (v' n, (n : Int)) else b) b := by
    intro L
    induction L with
    | nil => intro b _; rfl
    | cons a L ih =>
      intro b h
      simp only [List.foldl_cons]
      rw [h a (.head _)]
      exact ih _ (fun n hn => h n (.tail _ hn))
  exact this L _ h
/-- How a tour goes on from a place: the time to its end, and the next place. -/
def restF (t : Nat → Nat → Int) : Nat → Nat → Nat → R2
  | 0, a, _ => (t a 0, 0)
  | k + 1, a, s => if s = 0 then (t a 0, 0) else bestL (fun n => t a n + (restF t k n (s - 2 ^ n)).1) (plc s)
def rest (t : Nat → Nat → Int) (a s : Nat) : R2 := restF t s a s
theorem restF_eq (t : Nat → Nat → Int) : ∀ (k a s : Nat), s ≤ k → restF t k a s = restF t s a s
  | 0, a, s, h => by obtain rfl : s = 0 := by omega
                     rfl
  | k + 1, a, s, h => by
    cases s with
    | zero => simp [restF]
    | succ s =>
      simp only [restF, if_neg (Nat.succ_ne_zero s)]
      refine bestL_congr fun n hn => ?_
      have hb := (plc_mem.1 hn).2
      have h2 := testBit_le hb
      have h3 : 1 ≤ 2 ^ n := Nat.one_le_two_pow
      rw [restF_eq t k n (s + 1 - 2 ^ n) (by omega), restF_eq t s n (s + 1 - 2 ^ n) (by omega)]
theorem rest_zero (t : Nat → Nat → Int) (a : Nat) : rest t a 0 = (t a 0, 0) := rfl
theorem rest_eq (t : Nat → Nat → Int) (a : Nat) {s : Nat} (hs : s ≠ 0) : rest t a s = bestL (fun n => t a n + (rest t n (s - 2 ^ n)).1) (plc s) := by
  unfold rest
  cases s with
  | zero => exact absurd rfl hs
  | succ s =>
    simp only [restF, if_neg (Nat.succ_ne_zero s)]
    refine bestL_congr fun n hn => ?_
    have hb := (plc_mem.1 hn).2
    have h2 := testBit_le hb
    have h3 : 1 ≤ 2 ^ n := Nat.one_le_two_pow
    rw [restF_eq t s n (s + 1 - 2 ^ n) (by omega)]
theorem bestL_le (v : Nat → Int) (L : List Nat) : (bestL v L).1 ≤ 1048576 := by
  rcases List.eq_nil_or_concat L with rfl | ⟨L, n, rfl⟩
  · exact Int.le_refl _
  · rw [List.concat_eq_append, bestL_snoc]
    have := bestL_le v L
    split
    · simp only; omega
    · exact this
termination_by L.length
decreasing_by simp_all
theorem bestL_ge (v : Nat → Int) {L : List Nat} (h : ∀ n, n ∈ L → 0 ≤ v n) : 0 ≤ (bestL v L).1 := by
  rcases List.eq_nil_or_concat L with rfl | ⟨L, n, rfl⟩
  · exact (by decide : (0 : Int) ≤ 1048576)
  · rw [List.concat_eq_append] at h ⊢
    rw [bestL_snoc]
    have := bestL_ge v (L := L) (fun k hk => h k (List.mem_append_left _ hk))
    split
    · exact h n (by simp)
    · exact this
termination_by L.length
decreasing_by simp_all
theorem bestL_next (v : Nat → Int) (L : List Nat) : (bestL v L).2 = -1 ∨ ∃ n, n ∈ L ∧ (bestL v L).2 = (n : Int) ∧ (bestL v L).1 = v n := by
  rcases List.eq_nil_or_concat L with rfl | ⟨L, n, rfl⟩
  · exact .inl rfl
  · rw [List.concat_eq_append, bestL_snoc]
    split
    · exact .inr ⟨n, by simp, rfl, rfl⟩
    · rcases bestL_next v L with h | ⟨k, hk, h⟩
      · exact .inl h
      · exact .inr ⟨k, List.mem_append_left _ hk, h⟩
termination_by L.length
decreasing_by simp_all
/-- Times of ways between places below nw. -/
def TmBd (nw : Nat) (t : Nat → Nat → Int) : Prop := ∀ a b, a < nw → b < nw → 0 ≤ t a b ∧ t a b ≤ 1048576
theorem sub_sub {s nw n : Nat} (hs : s < 2 ^ nw) (hb : s.testBit n = true) : n < nw := by
  rcases Nat.lt_or_ge n nw with h | h
  · exact h
  · rw [Nat.testBit_lt_two_pow (Nat.lt_of_lt_of_le hs (Nat.pow_le_pow_right (by decide) h))] at hb; cases hb
theorem rest_bd {nw : Nat} {t : Nat → Nat → Int} (ht : TmBd nw t) (h0 : 0 < nw) : ∀ (k s a : Nat), s ≤ k → s < 2 ^ nw → a < nw → 0 ≤ (rest t a s).1 ∧ (rest t a s).1 ≤ 1048576
  | 0, s, a, hk, _, ha => by obtain rfl : s = 0 := by omega
                             exact ht a 0 ha h0
  | k + 1, s, a, hk, hs, ha => by
    by_cases e : s = 0
    · subst e; exact ht a 0 ha h0
    · rw [rest_eq t a e]
      refine ⟨bestL_ge _ fun n hn => ?_, bestL_le _ _⟩
      have hb := (plc_mem.1 hn).2
      have h2 := testBit_le hb
      have h3 : 1 ≤ 2 ^ n := Nat.one_le_two_pow
      have h4 := sub_sub hs hb
      have h5 := (rest_bd ht h0 k (s - 2 ^ n) n (by omega) (by omega) h4).1
      have h6 := (ht a n ha h4).1
      omega
end Go.Proofs.Ytpnkgjkoophckaa
