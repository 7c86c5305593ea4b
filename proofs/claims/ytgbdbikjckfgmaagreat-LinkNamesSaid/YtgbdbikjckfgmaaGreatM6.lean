/- Link: the moves as a map. | Link: the questions. | Link: the question of places; all questions of two entries. | Link: all questions. | Link: the candidates of an old entry, one by one. | Link: AppendSeq, Collect. | Link: a file at work. -/
import Derived.Test.YtgbdbikjckfgmaaGreatM3
import Derived.Maps.OwnSet
import Derived.Maps.OwnOps
import Derived.Test.YtgbdbikjckfgmaaGreatM5
import Derived.Test.YtgbdbikjckfgmaaGreatM4
import Derived.Test.YtgbdbikjckfgmaaGreatMJ
namespace Go.Proofs.YtgbdbikjckfgmaaGreat
open Go.RowKit Go.Shelf Go.Maps

theorem cRow : 110 < Tryz.prog.types.size := of_decide_eq_true (by kernel_rfl)
theorem cDeep3 : Tryz.prog.keyTypeAt 3 110 = true := by kernel_rfl
theorem cLaw : Keyed Tryz.prog 110 := Keyed.of_law (deep_law_laid Tryz.laidOut (m := 3) (by omega) cRow cDeep3 (by rw [Tryz.underlying110]))
theorem cZero (w : World) : (zeroValue 4).run Tryz.prog w = .ok (.bool false) w := by kernel_rfl
def mKey (c g : Int) : Value := .agg #[.int .i64 c, .int .i64 g]
theorem wf64 {n : Int} (h : -1000 ≤ n ∧ n ≤ 1000) : (Lit.int .i64 n).wf = true := by
  have h1 : IntKind.i64.min ≤ -1000 := by decide
  have h2 : 1000 ≤ IntKind.i64.max := by decide
  simp only [Lit.wf, Bool.and_eq_true, decide_eq_true_eq]
  omega
theorem cSize : ∃ N, Tryz.prog.types.size + 1 = N + 1 + 1 + 1 := ⟨Tryz.prog.types.size - 2, by have : 2 < Tryz.prog.types.size := of_decide_eq_true (by kernel_rfl); omega⟩
theorem cFormed (c g : Int) : (mKey c g).formed Tryz.prog 110 = true := by kernel_rfl
theorem cKeyType : Tryz.prog.keyType 110 = true := by kernel_rfl
theorem cCells : Tryz.prog.cellsOf 110 = 2 ∧ Tryz.prog.cellsOf 3 = 1 := ⟨by kernel_rfl, by kernel_rfl⟩
theorem mKeyOf (c g : Int) (hc : 0 ≤ c ∧ c ≤ 140) (hg : 0 ≤ g ∧ g ≤ 140) : ∃ l, keyOf Tryz.prog 110 (mKey c g) = some l := by
  have w0 := wf64 (n := c) (by omega)
  have w1 := wf64 (n := g) (by omega)
  obtain ⟨N, hN⟩ := cSize
  obtain ⟨c1, c3⟩ := cCells
  unfold keyOf
  rw [Tryz.underlying110]
  simp only [cKeyType, cFormed, Bool.and_self, if_true, hN]
  refine ⟨.string (keyBytes [.int .i64 c, .int .i64 g]), ?_⟩
  rw [show Tryz.prog.keyLits (N + 1 + 1 + 1) 110 (mKey c g).cells.toList = some [.int .i64 c, .int .i64 g] from ?_]
  · rfl
  · simp [mKey, Value.cells, Program.keyLits, Tryz.underlying110, Tryz.underlying3, c1, c3, w0, w1]
/-- How a bool reads. -/
def blR (v : Value) : Option (DataW Unit × List MemPlace) :=
  match v with
  | .bool x => some (.lit (.bool x), [])
  | _ => none
theorem blR_inv {v : Value} {z : DataW Unit × List MemPlace} (h : blR v = some z) : ∃ x, v = .bool x ∧ z = (.lit (.bool x), []) := by
  cases v with
  | bool x => exact ⟨x, rfl, (Option.some.inj h).symm⟩
  | _ => simp [blR] at h
/-- A set of moves. -/
def MMD (D : DataW Unit) (F : Int → Int → Bool) : Prop :=
  IsMap D ∧ ∀ c g kl, keyOf Tryz.prog 110 (mKey c g) = some kl → D.atKey kl (.lit (.bool false)) = .lit (.bool (F c g))
def MM (w : World) (F : Int → Int → Bool) (bm n : Nat) : Prop := ∃ D : DataW Unit, MMD D F ∧ w.ownsMap Tryz.prog 110 blR bm n D
theorem MM.made (w : World) : MM (w.alloc (.map #[] 0)) (fun _ _ => false) w.heap.size 0 :=
  ⟨.map [], ⟨isMap_empty, fun _ _ _ _ => rfl⟩, World.ownsMap_made _ _ _ _⟩
theorem MM.kept {w w' : World} {F : Int → Int → Bool} {bm n : Nat} {row : Option Nat} (h : MM w F bm n) (hg : w.grownBy w' row) (hne : some bm ≠ row) : MM w' F bm n := by
  obtain ⟨D, h1, h2⟩ := h; exact ⟨D, h1, h2.kept hg hne⟩
theorem MM.lt {w : World} {F : Int → Int → Bool} {bm n : Nat} (h : MM w F bm n) : bm < w.heap.size := by
  obtain ⟨D, h1, h2⟩ := h; exact h2.lt
theorem MM.below {w w' : World} {F : Int → Int → Bool} {bm n : Nat} (h : MM w F bm n) (hb : Below w.heap.size w w') : MM w' F bm n :=
  h.kept (row := none) ⟨hb.1, hb.2, hb.3, hb.size, fun k hk _ => hb.block k hk⟩ (by simp)
theorem MM.fr {ex : Nat → Prop} {w w' : World} {F : Int → Int → Bool} {bm n : Nat} (h : MM w F bm n) (hf : Fr ex w w') (hx : ¬ ex bm) : MM w' F bm n := by
  obtain ⟨D, h1, es, clock, hb, F', hs, hD⟩ := h
  exact ⟨D, h1, es, clock, (hf.block _ (Array.getElem?_eq_some_iff.1 hb).1 hx).trans hb, F', hs, hD⟩
theorem MM.look {F : Int → Int → Bool} {c g : Int} (hc : 0 ≤ c ∧ c ≤ 140) (hg : 0 ≤ g ∧ g ≤ 140) {W : World} {bm m : Nat} (h : MM W F bm m) :
    (Instr.lookup 129 (.map (some bm)) (mKey c g) false).run Tryz.prog W = .ok (.bool (F c g)) W := by
  obtain ⟨kl, hkey⟩ := mKeyOf c g hc hg
  obtain ⟨D, hD, hW⟩ := h
  obtain ⟨es, clock, hb, F', _, rfl⟩ := hW
  have hF := hD.2 c g kl hkey
  rcases Maps.fit_look false cLaw Tryz.underlying129 (cZero W) hb F' hkey with ⟨hrun, _, hat⟩ | ⟨e0, y, _, _, hrun, hRv, hat, _⟩
  · rw [hat] at hF
    simp only [DataW.lit.injEq, Lit.bool.injEq] at hF
    rw [hrun, ← hF]; rfl
  · rw [hat] at hF
    obtain ⟨x, hx, rfl⟩ := blR_inv hRv
    simp only [DataW.lit.injEq, Lit.bool.injEq] at hF
    rw [hrun, hx, hF]; rfl
def addM (F : Int → Int → Bool) (p q : Int) (c g : Int) : Bool := F c g || (decide (c = p) && decide (g = q))
theorem step_update_mm {ops : Array Oper} {o : Oper} {a : Act} {K : Act → World → Prop} {Q : Exit → Act → World → Prop} {E : Prop} {w : World} (hgd : o.guard = none) (x y v : Operand) (hop : o.op = Op.mapUpdate 129 x y v) (c g : Int) (hc : 0 ≤ c ∧ c ≤ 140) (hg : 0 ≤ g ∧ g ≤ 140) (F : Int → Int → Bool) (bm n : Nat) (hn : n < maxLen)
    (hm : a.eval x = .map (some bm)) (hown : MM w F bm n) (hx : a.eval y = mKey c g) (hv : a.eval v = .bool true)
    (hK : ∀ w', MM w' (addM F c g) bm (n + 1) → w.grownBy w' (some bm) → K (a.put o.dst undef) w') :
    if Region.wanted o (yielded ops a.tmps) = true then Oper.wp Tryz.prog o a w K Q else E := by
  have hw : Region.wanted o (yielded ops a.tmps) = true := by simp [Region.wanted, hgd]
  rw [if_pos hw]
  obtain ⟨kl, hkey⟩ := mKeyOf c g hc hg
  obtain ⟨D, ⟨h1, h3⟩, h2⟩ := hown
  obtain ⟨w', hrun, r1, r2⟩ := h2.update cLaw Tryz.underlying129 hn hkey (val := .bool true) (d := .lit (.bool true)) (ps := []) rfl
  have hC : MM w' (addM F c g) bm (n + 1) := ⟨_, ⟨h1.put _ _, fun c' g' kl' hk' => by
    unfold addM
    by_cases e : kl' = kl
    · subst e
      have := cLaw.inj hk' hkey
      simp only [mKey, Value.agg.injEq, Array.mk.injEq, List.cons.injEq, Value.int.injEq, true_and, and_true] at this
      obtain ⟨rfl, rfl⟩ := this
      rw [atKey_put_same h1 (cLaw.key hkey)]
      simp
    · rw [atKey_put_other e, h3 c' g' kl' hk']
      have hne : ¬ (c' = c ∧ g' = g) := fun h => e (by
        obtain ⟨rfl, rfl⟩ := h
        rw [hkey] at hk'; exact (Option.some.inj hk').symm)
      rw [show (decide (c' = c) && decide (g' = g)) = false by
        rw [Bool.and_eq_false_iff, decide_eq_false_iff_not, decide_eq_false_iff_not]
        exact Classical.not_and_iff_not_or_not.1 hne, Bool.or_false]⟩, r1⟩
  unfold Oper.wp
  simp [execOp, hop, hm, hx, hv, hrun, Result.andThen]
  exact hK w' hC r2
end Go.Proofs.YtgbdbikjckfgmaaGreat

namespace Go.Proofs.YtgbdbikjckfgmaaGreat
open Go.RowKit Go.Shelf

theorem hasN_all (z : Nat → Int) (n : Nat) (x : Int) : (!hasN z n x) = allB (fun j => !(z j == x)) n := by unfold hasN; simp
set_option maxHeartbeats 2000000 in
theorem sexes_any (wp : Value) (a b : En) (ra ca na rb cb nb : Value) (w : World) : Calls Tryz.prog 146 #[wp, enV a ra ca na, enV b rb cb nb] w fun e w' => e = .returned (.bool (sexB a b)) ∧ Below w.heap.size w w' := by
  have HS : Hid (sexB a b = ((a.sex == b.sex) || (a.sex == 2) || (b.sex == 2))) := rfl
  have HB := Lib.hid (((below_alloc w (.cells #[.int .i64 a.p.lo, .int .i64 a.p.hi, ra, ca, .int .i64 a.sex, na, .int .i64 a.pl] 100)).alloc (by simp) (.cells #[.int .i64 b.p.lo, .int .i64 b.p.hi, rb, cb, .int .i64 b.sex, nb, .int .i64 b.pl] 100)))
  unfold enV
  generalize a.sex = x at *
  generalize b.sex = y at *
  generalize a.p.lo = alo at *
  generalize a.p.hi = ahi at *
  generalize a.pl = apl at *
  generalize b.p.lo = blo at *
  generalize b.p.hi = bhi at *
  generalize b.pl = bpl at *
  cases h1 : (x == y)
  · cases h2 : (x == 2)
    · go_enter Tryz.func146, Tryz.ntmps146
      go_wp2
      go_ret
      exact ⟨ret_bool (by rw [HS.out, h1, h2]; simp), HB.out⟩
    · go_enter Tryz.func146, Tryz.ntmps146
      go_wp2
      go_ret
      exact ⟨ret_bool (by rw [HS.out, h1, h2]; simp), HB.out⟩
  · go_enter Tryz.func146, Tryz.ntmps146
    go_wp2
    go_ret
    exact ⟨ret_bool (by rw [HS.out, h1]; simp), HB.out⟩
set_option maxHeartbeats 2000000 in
theorem closure_names (c : Nat) (x : Int) (a : Option Addr) (n cap : Nat) (z : Nat → Int) (w : World) (hn : n ≤ 100000) (hz : IntsIn w (.slice a n cap) n z) (hc : w.cell? ⟨c, 5, none⟩ = some (.slice a n cap)) :
    Calls Tryz.prog 153 #[.int .i64 x, .pointer (some ⟨c, 0, none⟩)] w fun e w' => e = .returned (.bool (hasN z n x)) ∧ w = w' := by
  have HC := Lib.hid (containsI_any a n cap z x w hn hz)
  clear hz
  go_enter Tryz.func153, Tryz.ntmps153
  go_wp2_with (go_at_call 76; refine HC.out.mono ?_; rintro _ _ ⟨rfl, rfl⟩)
  go_ret
  exact ⟨rfl, rfl⟩
set_option maxHeartbeats 2000000 in
theorem indexFunc_names (c n m : Nat) (a sa : Option Addr) (cap sc : Nat) (z y : Nat → Int) (w : World) (hlen : m ≤ 100000) (hn : n ≤ 100000) (hz : IntsIn w (.slice a n cap) n z) (hc : w.cell? ⟨c, 5, none⟩ = some (.slice a n cap)) (hy : IntsIn w (.slice sa m sc) m y) :
    Calls Tryz.prog 139 #[.slice sa m sc, .func (.func 153) #[] #[.pointer (some ⟨c, 0, none⟩)]] w fun e w' => ∃ r : Int, e = .returned (.int .i64 r) ∧ decide (0 ≤ r) = (!allB (fun j => !hasN z n (y j)) m) ∧ w = w' := by
  have HY := Lib.hid hy
  have HV := Lib.hid (fun x => closure_names c x a n cap z w hn hz hc)
  clear hy hz hc
  have HP : Hid (∀ e w', Post1 (!allB (fun j => !hasN z n (y j)) m) w e w' → ∃ r : Int, e = .returned (.int .i64 r) ∧ decide (0 ≤ r) = (!allB (fun j => !hasN z n (y j)) m) ∧ w = w') := fun _ _ h => h
  refine Calls.mono (R := Post1 (!allB (fun j => !hasN z n (y j)) m) w) ?_ HP.out
  clear HP
  go_enter Tryz.func139, Tryz.ntmps139
  go_wp2
  go_loop [8] (fun i => ∃ k : Nat, k ≤ m ∧ i = .int .i64 k ∧ ∀ q, q < k → (!hasN z n (y q)) = true) (fun i => m - (intOf i).toNat)
  case atStart => exact ⟨0, Nat.zero_le _, rfl, fun q h => absurd h (Nat.not_lt_zero _)⟩
  case round =>
    obtain ⟨k, hk, rfl, hall⟩ := hrel
    have HA := Lib.hid hall; clear hall
    by_cases hlt : k < m
    · obtain ⟨b, off, rfl, hb, x0⟩ := HY.out.at (k := k) hlt
      have HVK := Lib.hid (HV.out (y k))
      cases hin : hasN z n (y k)
      · have HE : Hid ((!hasN z n (y k)) = true) := by unfold Hid; rw [hin]; rfl
        rw [hin] at HVK
        clear hin
        go_wp2_with (go_at_call 153; refine HVK.out.mono ?_; rintro _ _ ⟨rfl, rfl⟩)
        go_round
        case rel => exact ⟨k + 1, by omega, by go_num, (fun q hq => by rcases Nat.lt_succ_iff_lt_or_eq.1 hq with h | rfl; exact HA.out q h; exact HE.out)⟩
        case measure => simp [intOf]; omega
      · have HE : Hid (allB (fun j => !hasN z n (y j)) m = false) := allB_false hlt (by rw [hin]; rfl)
        rw [hin] at HVK
        clear hin
        go_wp2_with (go_at_call 153; refine HVK.out.mono ?_; rintro _ _ ⟨rfl, rfl⟩)
        go_ret
        exact ⟨k, rfl, by rw [HE.out]; simp, rfl⟩
    · obtain rfl : k = m := by omega
      have HE : Hid (allB (fun j => !hasN z n (y j)) k = true) := allB_true HA.out
      go_wp2
      go_ret
      exact ⟨-1, rfl, by rw [HE.out]; rfl, rfl⟩
set_option maxHeartbeats 2000000 in
theorem containsFunc_names (c n m : Nat) (a sa : Option Addr) (cap sc : Nat) (z y : Nat → Int) (w : World) (hlen : m ≤ 100000) (hn : n ≤ 100000) (hz : IntsIn w (.slice a n cap) n z) (hc : w.cell? ⟨c, 5, none⟩ = some (.slice a n cap)) (hy : IntsIn w (.slice sa m sc) m y) :
    Calls Tryz.prog 116 #[.slice sa m sc, .func (.func 153) #[] #[.pointer (some ⟨c, 0, none⟩)]] w fun e w' => e = .returned (.bool (!allB (fun j => !hasN z n (y j)) m)) ∧ w = w' := by
  have HI := Lib.hid (indexFunc_names c n m a sa cap sc z y w hlen hn hz hc hy); clear hz hc hy
  go_enter Tryz.func116, Tryz.ntmps116
  go_wp2_with (go_at_call 139; refine HI.out.mono ?_; rintro _ _ ⟨r, rfl, hr, rfl⟩; have HR := Lib.hid hr; clear hr)
  go_ret
  exact ⟨ret_bool HR.out, rfl⟩
set_option maxHeartbeats 2000000 in
theorem names_any (wp : Value) (a b : En) (ra ca na rb cb nb : Value) (w : World) (ha : QP w ra ca na a) (hb : QP w rb cb nb b) : Calls Tryz.prog 147 #[wp, enV a ra ca na, enV b rb cb nb] w fun e w' => e = .returned (.bool (nameB a b)) ∧ Below w.heap.size w w' := by
  obtain ⟨sa, sc, rfl⟩ := ha.2.2.1.slice
  obtain ⟨ta, tc, rfl⟩ := hb.2.2.1.slice
  have HE : Hid ((!allB (fun j => !hasN b.z b.nn (a.z j)) a.nn) = nameB a b) := by
    unfold Hid nameB
    simp only [hasN_all]
  have HA := Lib.hid (((BF.base w).alloc #[.int .i64 a.p.lo, .int .i64 a.p.hi, ra, ca, .int .i64 a.sex, .slice sa a.nn sc, .int .i64 a.pl] 100).alloc #[.int .i64 b.p.lo, .int .i64 b.p.hi, rb, cb, .int .i64 b.sex, .slice ta b.nn tc, .int .i64 b.pl] 100)
  rw [World.size_alloc] at HA
  have HC := Lib.hid (containsFunc_names (w.heap.size + 1) b.nn a.nn ta sa tc sc b.z a.z _ ha.2.2.2.2.2 hb.2.2.2.2.2 (hb.2.2.1.below HA.out.fr) (HA.out.cell (.head _) 5) (ha.2.2.1.below HA.out.fr))
  have HB := Lib.hid HA.out.fr
  clear ha hb HA
  unfold enV
  generalize nameB a b = r at *
  generalize a.sex = x at *
  generalize b.sex = y at *
  generalize a.p.lo = alo at *
  generalize a.p.hi = ahi at *
  generalize a.pl = apl at *
  generalize b.p.lo = blo at *
  generalize b.p.hi = bhi at *
  generalize b.pl = bpl at *
  generalize a.nn = an at *
  generalize b.nn = bn at *
  go_enter Tryz.func147, Tryz.ntmps147
  go_wp2_with fail
  refine HC.out.mono ?_
  rintro _ _ ⟨rfl, rfl⟩
  go_wp2_with fail
  go_ret
  exact ⟨ret_bool HE.out, HB.out⟩
set_option maxHeartbeats 2000000 in
theorem ages_sm (wp : Value) (a b : En) (ra ca na rb cb nb : Value) (w : World) (ha : QP w ra ca na a) (hb : QP w rb cb nb b) (ka : a.p.fault = 0) (kb : b.p.fault = 0) : Calls Tryz.prog 149 #[wp, enV a ra ca na, enV b rb cb nb] w fun e w' => e = .returned (.bool (ageB a b)) ∧ Below w.heap.size w w' := by
  have HA := Lib.hid (((BF.base w).alloc #[.int .i64 a.p.lo, .int .i64 a.p.hi, ra, ca, .int .i64 a.sex, na, .int .i64 a.pl] 100).alloc #[.int .i64 b.p.lo, .int .i64 b.p.hi, rb, cb, .int .i64 b.sex, nb, .int .i64 b.pl] 100)
  have HC := Lib.hid (same_any _ _ a.p b.p _ (ha.pers.below HA.out.fr) (hb.pers.below HA.out.fr) ha.2.2.2.1 ha.2.2.2.2.1 hb.2.2.2.1 hb.2.2.2.2.1)
  have HE : Hid (decide (0 < (sharedL a.p b.p).length) = ageB a b) := by unfold Hid ageB sharedL; rw [if_pos ⟨ka, kb⟩]
  have HB := Lib.hid HA.out.fr
  rw [HE.out] at HC
  clear ha hb HA ka kb HE
  unfold enV
  generalize ageB a b = r at *
  generalize sharedE a.p b.p = se at *
  generalize a.sex = x at *
  generalize b.sex = y at *
  generalize a.p.lo = alo at *
  generalize a.p.hi = ahi at *
  generalize a.pl = apl at *
  generalize b.p.lo = blo at *
  generalize b.p.hi = bhi at *
  generalize b.pl = bpl at *
  go_enter Tryz.func149, Tryz.ntmps149
  go_wp2_with fail
  refine HC.out.mono ?_
  rintro _ w1 ⟨rfl, hb1⟩
  have HB1 := Lib.hid (below_step HB.out hb1)
  clear hb1
  go_wp2_with fail
  go_ret
  exact ⟨rfl, HB1.out⟩
end Go.Proofs.YtgbdbikjckfgmaaGreat

namespace Go.Proofs.YtgbdbikjckfgmaaGreat
open Go.RowKit Go.Shelf

set_option maxRecDepth 100000 in
set_option maxHeartbeats 4000000 in
theorem places_any (B bm n : Nat) (F : Int → Int → Bool) (a b : En) (ra ca na rb cb nb : Value) (w : World) (hB : w.cell? ⟨B, 3, none⟩ = some (.map (some bm))) (hm : MM w F bm n) (ha : 0 ≤ a.pl ∧ a.pl ≤ 9) (hb : 0 ≤ b.pl ∧ b.pl ≤ 9) :
    Calls Tryz.prog 148 #[.pointer (some ⟨B, 0, none⟩), enV a ra ca na, enV b rb cb nb] w fun e w' => e = .returned (.bool ((a.pl == b.pl) || F a.pl b.pl)) ∧ Below w.heap.size w w' := by
  have hl := World.block_lt_of_cell? _ _ hB
  have HA := Lib.hid (((BF.base w).alloc #[.int .i64 a.p.lo, .int .i64 a.p.hi, ra, ca, .int .i64 a.sex, na, .int .i64 a.pl] 100).alloc #[.int .i64 b.p.lo, .int .i64 b.p.hi, rb, cb, .int .i64 b.sex, nb, .int .i64 b.pl] 100)
  rw [World.size_alloc] at HA
  have HX := Lib.hid (HA.out.below (Below.refl _ _).drew)
  have k0 := HX.out.cell (.tail _ (.head _)) 6
  have k1 := HX.out.cell (.head _) 6
  have k2 := kept HX.out.fr hl hB
  have k3 := (hm.below HX.out.fr).look (c := a.pl) (g := b.pl) ⟨by omega, by omega⟩ ⟨by omega, by omega⟩
  unfold mKey at k3
  clear hB hm ha hb
  unfold enV
  generalize F a.pl b.pl = r at *
  generalize a.sex = sx at *
  generalize b.sex = sy at *
  generalize a.p.lo = alo at *
  generalize a.p.hi = ahi at *
  generalize a.pl = x at *
  generalize b.p.lo = blo at *
  generalize b.p.hi = bhi at *
  generalize b.pl = y at *
  cases h1 : (x == y)
  · have H1 := Lib.hid h1
    go_enter Tryz.func148, Tryz.ntmps148
    go_wp2_with fail
    refine wp_region_Z (S := fun X => X.cell? ⟨w.heap.size, 6, none⟩ = some (.int .i64 x) ∧ X.cell? ⟨w.heap.size + 1, 6, none⟩ = some (.int .i64 y) ∧ X.cell? ⟨B, 3, none⟩ = some (.map (some bm)) ∧ (Instr.lookup 129 (.map (some bm)) (.agg #[.int .i64 x, .int .i64 y]) false).run Tryz.prog X = .ok (.bool r) X) (by kernel_rfl) ⟨k0, k1, k2, k3⟩ (fun hS => ?_)
    generalize ((w.alloc (.cells #[.int .i64 alo, .int .i64 ahi, ra, ca, .int .i64 sx, na, .int .i64 x] 100)).alloc (.cells #[.int .i64 blo, .int .i64 bhi, rb, cb, .int .i64 sy, nb, .int .i64 y] 100)).drew = X at *
    refine tk [0, 1, 2, 3, 4, 5, 6, 7, 8, 9, 10, 11, 12, 13, 14, 15, 16, 17] ?_
    repeat (refine tkZ (oi := ⟨_, _, _, _, _, _⟩) (v := ?_) rfl (by kernel_rfl) (by rfl) (fun _ _ _ h => h) hS ?_ ?_; rotate_left; (· rintro W' ⟨z0, z1, z2, z3⟩; go_simp; try with_reducible rfl); try simp only [Act.put, putA, putZ, putS])
    refine tk0 ?_
    refine wpAnyZ_done (by kernel_rfl) ?_ _
    go_wp2_with fail
    go_ret
    exact ⟨ret_bool (by simp), HX.out.fr⟩
  · have H1 := Lib.hid h1
    go_enter Tryz.func148, Tryz.ntmps148
    go_wp2_with fail
    go_quiet (fail)
    have HB := Lib.hid (HA.out.fr)
    go_wp2_with fail
    go_ret
    exact ⟨ret_bool (by simp), HB.out.trans (below_drewS _ _ _)⟩
/-- The questions. -/
def qV (j : Nat) : Value := .func (.func (if j = 0 then 146 else if j = 1 then 147 else if j = 2 then 148 else 149)) #[] #[]
def qB (f : Fl) (a b : En) (j : Nat) : Bool := if j = 0 then sexB a b else if j = 1 then nameB a b else if j = 2 then f.plB a b else ageB a b
theorem qB_all (f : Fl) (a b : En) : allB (qB f a b) 4 = f.pairB a b := by
  unfold allB Fl.pairB
  simp [List.range, List.range.loop, qB, Bool.and_assoc]
/-- Two entries before the questions. -/
structure QE (W : World) (f : Fl) (Bw Ba Bb B bm n : Nat) (a b : En) (ra ca na rb cb nb : Value) : Prop where
  w : W.cell? ⟨Bw, 0, none⟩ = some (.pointer (some ⟨B, 0, none⟩))
  m : W.cell? ⟨B, 3, none⟩ = some (.map (some bm))
  mm : MM W f.movB bm n
  ea : En7 W Ba 0 a ra ca na
  qa : QP W ra ca na a
  eb : En7 W Bb 0 b rb cb nb
  qb : QP W rb cb nb b
theorem QE.below {W W' : World} {f : Fl} {Bw Ba Bb B bm n : Nat} {a b : En} {ra ca na rb cb nb : Value} (h : QE W f Bw Ba Bb B bm n a b ra ca na rb cb nb) (hB : Below W.heap.size W W') : QE W' f Bw Ba Bb B bm n a b ra ca na rb cb nb :=
  ⟨below_cell hB _ _ h.w, below_cell hB _ _ h.m, h.mm.below hB, h.ea.below (World.block_lt_of_cell? _ _ h.ea.1) hB, QP.k _ _ _ _ _ _ h.qa hB, h.eb.below (World.block_lt_of_cell? _ _ h.eb.1) hB, QP.k _ _ _ _ _ _ h.qb hB⟩
structure Ok2 (a b : En) : Prop where
  ap : 0 ≤ a.pl ∧ a.pl ≤ 9
  bp : 0 ≤ b.pl ∧ b.pl ≤ 9
  af : a.p.fault = 0
  bf : b.p.fault = 0
set_option maxRecDepth 100000 in
set_option maxHeartbeats 8000000 in
theorem cq_any {f : Fl} {Bw Ba Bb B bm n : Nat} {a b : En} {ra ca na rb cb nb : Value} (ok : Ok2 a b) (w : World) (h : QE w f Bw Ba Bb B bm n a b ra ca na rb cb nb) (j : Nat) (hj : j < 4) :
    Calls Tryz.prog 136 #[.agg #[qV j], .pointer (some ⟨Bw, 0, none⟩), .pointer (some ⟨Ba, 0, none⟩), .pointer (some ⟨Bb, 0, none⟩)] w fun e w' => e = .returned (.bool (qB f a b j)) ∧ Below w.heap.size w w' := by
  obtain ⟨va, vc, rfl⟩ := h.qa.2.2.1.slice
  obtain ⟨vra, vrc, rfl⟩ := h.qa.1.slice
  obtain ⟨vca, vcc, rfl⟩ := h.qa.2.1.slice
  obtain ⟨ua, uc, rfl⟩ := h.qb.2.2.1.slice
  obtain ⟨ura, urc, rfl⟩ := h.qb.1.slice
  obtain ⟨uca, ucc, rfl⟩ := h.qb.2.1.slice
  have hb0 := below_alloc w (.cells #[qV j] 188)
  have H2 := h.below hb0
  have HS := Lib.hid (sexes_any (.pointer (some ⟨B, 0, none⟩)) a b (.slice vra a.p.nr vrc) (.slice vca a.p.nc vcc) (.slice va a.nn vc) (.slice ura b.p.nr urc) (.slice uca b.p.nc ucc) (.slice ua b.nn uc) (w.alloc (.cells #[qV j] 188)))
  have HN := Lib.hid (names_any (.pointer (some ⟨B, 0, none⟩)) a b _ _ _ _ _ _ _ H2.qa H2.qb)
  have HP := Lib.hid (places_any B bm n f.movB a b (.slice vra a.p.nr vrc) (.slice vca a.p.nc vcc) (.slice va a.nn vc) (.slice ura b.p.nr urc) (.slice uca b.p.nc ucc) (.slice ua b.nn uc) _ H2.m H2.mm ok.ap ok.bp)
  have HG := Lib.hid (ages_sm (.pointer (some ⟨B, 0, none⟩)) a b _ _ _ _ _ _ _ H2.qa H2.qb ok.af ok.bf)
  have HPE : Hid (f.plB a b = ((a.pl == b.pl) || f.movB a.pl b.pl)) := rfl
  have hwl := World.block_lt_of_cell? _ _ h.w
  have hal := World.block_lt_of_cell? _ _ h.ea.1
  have hbl := World.block_lt_of_cell? _ _ h.eb.1
  obtain ⟨y0, y1, y2, y3, y4, y5, y6⟩ := h.ea
  obtain ⟨x0, x1, x2, x3, x4, x5, x6⟩ := h.eb
  have hww := h.w
  have HB := Lib.hid hb0
  clear h H2 ok hb0
  unfold enV at HS HN HP HG
  rw [← HPE.out] at HP
  have hcase : j = 0 ∨ j = 1 ∨ j = 2 ∨ j = 3 := by omega
  have HQ0 : Hid (qB f a b 0 = sexB a b) := rfl
  have HQ1 : Hid (qB f a b 1 = nameB a b) := rfl
  have HQ2 : Hid (qB f a b 2 = f.plB a b) := rfl
  have HQ3 : Hid (qB f a b 3 = ageB a b) := rfl
  have HV0 : Hid (qV 0 = .func (.func 146) #[] #[]) := rfl
  have HV1 : Hid (qV 1 = .func (.func 147) #[] #[]) := rfl
  have HV2 : Hid (qV 2 = .func (.func 148) #[] #[]) := rfl
  have HV3 : Hid (qV 3 = .func (.func 149) #[] #[]) := rfl
  clear hj
  generalize a.sex = sx at *
  generalize b.sex = sy at *
  generalize a.p.lo = alo at *
  generalize a.p.hi = ahi at *
  generalize a.pl = x at *
  generalize b.p.lo = blo at *
  generalize b.p.hi = bhi at *
  generalize b.pl = y at *
  generalize a.nn = an at *
  generalize b.nn = bn at *
  generalize a.p.nr = anr at *
  generalize b.p.nr = bnr at *
  generalize a.p.nc = anc at *
  generalize b.p.nc = bnc at *
  rcases hcase with rfl | rfl | rfl | rfl
  · rw [HV0.out] at HS HB ⊢
    rw [HQ0.out]
    clear HN HP HG HV0 HV1 HV2 HV3
    go_enter Tryz.func136, Tryz.ntmps136
    go_wp2_with fail
    refine HS.out.mono ?_
    rintro _ w1 ⟨rfl, hb1⟩
    have HB1 := Lib.hid (below_step HB.out hb1)
    clear hb1
    go_wp2_with fail
    go_ret
    exact ⟨rfl, HB1.out⟩
  · rw [HV1.out] at HN HB ⊢
    rw [HQ1.out]
    clear HS HP HG HV0 HV1 HV2 HV3
    go_enter Tryz.func136, Tryz.ntmps136
    go_wp2_with fail
    refine HN.out.mono ?_
    rintro _ w1 ⟨rfl, hb1⟩
    have HB1 := Lib.hid (below_step HB.out hb1)
    clear hb1
    go_wp2_with fail
    go_ret
    exact ⟨rfl, HB1.out⟩
  · rw [HV2.out] at HP HB ⊢
    rw [HQ2.out]
    clear HS HN HG HV0 HV1 HV2 HV3
    go_enter Tryz.func136, Tryz.ntmps136
    go_wp2_with fail
    refine HP.out.mono ?_
    rintro _ w1 ⟨rfl, hb1⟩
    have HB1 := Lib.hid (below_step HB.out hb1)
    clear hb1
    go_wp2_with fail
    go_ret
    exact ⟨rfl, HB1.out⟩
  · rw [HV3.out] at HG HB ⊢
    rw [HQ3.out]
    clear HS HN HP HV0 HV1 HV2 HV3
    go_enter Tryz.func136, Tryz.ntmps136
    go_wp2_with fail
    refine HG.out.mono ?_
    rintro _ w1 ⟨rfl, hb1⟩
    have HB1 := Lib.hid (below_step HB.out hb1)
    clear hb1
    go_wp2_with fail
    go_ret
    exact ⟨rfl, HB1.out⟩
end Go.Proofs.YtgbdbikjckfgmaaGreat

namespace Go.Proofs.YtgbdbikjckfgmaaGreat
open Go.RowKit Go.Shelf

section
variable {f : Fl} {Bw Ba Bb B bm n : Nat} {a b : En} {ra ca na rb cb nb : Value}
set_option maxHeartbeats 2000000 in
theorem closure_q (ok : Ok2 a b) (c : Nat) (w : World) (h : QE w f Bw Ba Bb B bm n a b ra ca na rb cb nb) (hc : w.cell? ⟨c, 0, none⟩ = some (.func (.func 136) #[] #[.pointer (some ⟨Bw, 0, none⟩), .pointer (some ⟨Ba, 0, none⟩), .pointer (some ⟨Bb, 0, none⟩)])) (j : Nat) (hj : j < 4) :
    Calls Tryz.prog 145 #[.agg #[qV j], .pointer (some ⟨c, 0, none⟩)] w fun e w' => e = .returned (.bool (!qB f a b j)) ∧ Below w.heap.size w w' := by
  have hl := World.block_lt_of_cell? _ _ hc
  have HC := Lib.hid (cq_any ok _ (h.below (below_alloc w (.cells #[qV j] 188))) j hj)
  clear h ok
  generalize qB f a b j = r at *
  have hv : ∃ F, qV j = .func (.func F) #[] #[] := ⟨_, rfl⟩
  obtain ⟨F, hF⟩ := hv
  rw [hF] at HC ⊢
  clear hF hj
  go_enter Tryz.func145, Tryz.ntmps145
  go_wp2_with fail
  refine HC.out.mono ?_
  rintro _ w1 ⟨rfl, hb1⟩
  have HB1 := Lib.hid (below_step (below_alloc _ _) hb1)
  clear hb1
  go_wp2_with fail
  go_ret
  exact ⟨rfl, HB1.out⟩
set_option maxHeartbeats 2000000 in
theorem indexFunc_q (ok : Ok2 a b) (c qb : Nat) (w : World) (h : QE w f Bw Ba Bb B bm n a b ra ca na rb cb nb) (hc : w.cell? ⟨c, 0, none⟩ = some (.func (.func 136) #[] #[.pointer (some ⟨Bw, 0, none⟩), .pointer (some ⟨Ba, 0, none⟩), .pointer (some ⟨Bb, 0, none⟩)])) (hq : ∀ j, j < 4 → w.cell? ⟨qb, j, none⟩ = some (qV j)) :
    Calls Tryz.prog 152 #[.slice (some ⟨qb, 0, none⟩) 4 4, .func (.func 145) #[] #[.pointer (some ⟨c, 0, none⟩)]] w (IdxP (qB f a b) 4 w) := by
  have HQ := Lib.hid hq
  have HV := Lib.hid (fun W (hW : Below w.heap.size w W) j hj => closure_q ok c W (h.below hW) (below_cell hW _ _ hc) j hj)
  clear hc h ok hq
  generalize qB f a b = p at *
  go_enter Tryz.func152, Tryz.ntmps152
  go_wp2
  go_loopw [8] (fun i wr => ∃ k : Nat, k ≤ 4 ∧ i = .int .i64 k ∧ (∀ j, j < k → p j = true) ∧ Below w.heap.size w wr) (fun i _ => 4 - (intOf i).toNat)
  case atStart => exact ⟨0, Nat.zero_le _, rfl, fun q h => absurd h (Nat.not_lt_zero _), Below.refl _ _⟩
  case round =>
    obtain ⟨k, hk, rfl, hall, hbl⟩ := hrel
    have HA := Lib.hid hall; clear hall
    have HB := Lib.hid hbl; clear hbl
    by_cases hlt : k < 4
    · have x0 := below_cell HB.out _ _ (HQ.out k hlt)
      have HVK := Lib.hid (HV.out wr HB.out k hlt)
      have ki : (0 : Int) ≤ (k : Int) := by omega
      have kj : (k : Int) < 4 := by omega
      generalize qV k = qv at *
      cases hin : p k
      · have HI := Lib.hid hin
        rw [hin] at HVK
        clear hin
        go_wp2_with (go_at_call 145; refine HVK.out.mono ?_; rintro r w2 ⟨rfl, hb2⟩)
        go_ret
        exact ⟨_, rfl, by rw [allB_false hlt HI.out]; simp, HB.out.trans (hb2.mono HB.out.size)⟩
      · have HI := Lib.hid hin
        rw [hin] at HVK
        clear hin
        go_wp2_with (go_at_call 145; refine HVK.out.mono ?_; rintro r w2 ⟨rfl, hb2⟩)
        go_roundw
        case rel => exact ⟨k + 1, by omega, by go_num, (fun q hq => by rcases Nat.lt_succ_iff_lt_or_eq.1 hq with h | rfl; exact HA.out q h; exact HI.out), HB.out.trans (hb2.mono HB.out.size)⟩
        case measure => simp [intOf]; omega
    · have hk4 : k = 4 := by omega
      have hk4i : (k : Int) = 4 := by omega
      rw [hk4i]
      rw [hk4] at HA
      clear hk4 hk4i hk hlt
      go_wp2
      go_ret
      exact ⟨_, rfl, by rw [allB_true HA.out]; rfl, HB.out⟩
set_option maxHeartbeats 2000000 in
theorem containsFunc_q (ok : Ok2 a b) (c qb : Nat) (w : World) (h : QE w f Bw Ba Bb B bm n a b ra ca na rb cb nb) (hc : w.cell? ⟨c, 0, none⟩ = some (.func (.func 136) #[] #[.pointer (some ⟨Bw, 0, none⟩), .pointer (some ⟨Ba, 0, none⟩), .pointer (some ⟨Bb, 0, none⟩)])) (hq : ∀ j, j < 4 → w.cell? ⟨qb, j, none⟩ = some (qV j)) :
    Calls Tryz.prog 144 #[.slice (some ⟨qb, 0, none⟩) 4 4, .func (.func 145) #[] #[.pointer (some ⟨c, 0, none⟩)]] w fun e w' => e = .returned (.bool (!f.pairB a b)) ∧ Below w.heap.size w w' := by
  have HI := Lib.hid (indexFunc_q ok c qb w h hc hq); clear hc hq h ok
  have HE := Lib.hid (qB_all f a b)
  generalize qB f a b = p at *
  generalize f.pairB a b = r at *
  go_enter Tryz.func144, Tryz.ntmps144
  go_wp2_with (go_at_call 152; refine HI.out.mono ?_; rintro _ w' ⟨r, rfl, hr, hb⟩; have HR := Lib.hid hr; clear hr)
  go_ret
  exact ⟨ret_bool (by have := HR.out; rw [HE.out] at this; exact this), hb⟩
set_option maxHeartbeats 2000000 in
theorem all_q (ok : Ok2 a b) (qb : Nat) (w : World) (h : QE w f Bw Ba Bb B bm n a b ra ca na rb cb nb) (hq : ∀ j, j < 4 → w.cell? ⟨qb, j, none⟩ = some (qV j)) :
    Calls Tryz.prog 134 #[.slice (some ⟨qb, 0, none⟩) 4 4, .func (.func 136) #[] #[.pointer (some ⟨Bw, 0, none⟩), .pointer (some ⟨Ba, 0, none⟩), .pointer (some ⟨Bb, 0, none⟩)]] w fun e w' => e = .returned (.bool (f.pairB a b)) ∧ Below w.heap.size w w' := by
  have hb0 := below_alloc w (.cells #[.func (.func 136) #[] #[.pointer (some ⟨Bw, 0, none⟩), .pointer (some ⟨Ba, 0, none⟩), .pointer (some ⟨Bb, 0, none⟩)]] 191)
  have HI := Lib.hid (containsFunc_q ok w.heap.size qb _ (h.below hb0) (box_cell _ _ _) (fun j hj => below_cell hb0 _ _ (hq j hj)))
  have HB := Lib.hid hb0
  clear h hq ok hb0
  generalize f.pairB a b = r at *
  go_enter Tryz.func134, Tryz.ntmps134
  go_wp2_with fail
  refine HI.out.mono ?_
  rintro _ w1 ⟨rfl, hb⟩
  have HB1 := Lib.hid (below_step HB.out hb)
  clear hb
  go_wp2_with fail
  go_ret
  exact ⟨ret_bool (by simp), HB1.out⟩
end
theorem questions_any (w : World) : Calls Tryz.prog 135 #[] w fun e w' => e = .returned (.slice (some ⟨w.heap.size, 0, none⟩) 4 4) ∧ w' = w.alloc (.cells #[qV 0, qV 1, qV 2, qV 3] 188) := by
  go_enter Tryz.func135, Tryz.ntmps135
  go_wp2
  go_ret
  exact ⟨rfl, rfl⟩
theorem candidates_any (B : Nat) (e : En) (rv cv nv : Value) (w : World) : Calls Tryz.prog 108 #[.pointer (some ⟨B, 0, none⟩), enV e rv cv nv] w fun r w' => r = .returned (.func (.func 133) #[] #[.pointer (some ⟨w.heap.size, 0, none⟩), .pointer (some ⟨w.heap.size + 1, 0, none⟩)]) ∧
    w' = (w.alloc (.cells #[.pointer (some ⟨B, 0, none⟩)] 114)).alloc (.cells #[.int .i64 e.p.lo, .int .i64 e.p.hi, rv, cv, .int .i64 e.sex, nv, .int .i64 e.pl] 100) := by
  unfold enV
  go_enter Tryz.func108, Tryz.ntmps108
  go_wp2
  go_ret
  exact ⟨rfl, rfl⟩
end Go.Proofs.YtgbdbikjckfgmaaGreat

namespace Go.Proofs.YtgbdbikjckfgmaaGreat
open Go.RowKit Go.Shelf
attribute [local go_sem] Oper.semAt_some

/-- What stands around the candidates of an entry. -/
structure CE (W : World) (f : Fl) (Bw Ba B bm n : Nat) (x : WkV) (a : En) (ra ca na : Value) : Prop where
  w : W.cell? ⟨Bw, 0, none⟩ = some (.pointer (some ⟨B, 0, none⟩))
  c1 : W.cell? ⟨B, 1, none⟩ = some (.slice x.na f.nw x.nc)
  m : W.cell? ⟨B, 3, none⟩ = some (.map (some bm))
  mm : MM W f.movB bm n
  ea : En7 W Ba 0 a ra ca na
  qa : QP W ra ca na a
  es : EsQ QP W (.slice x.na f.nw x.nc) f.nw f.N
theorem CE.below {W W' : World} {f : Fl} {Bw Ba B bm n : Nat} {x : WkV} {a : En} {ra ca na : Value} (h : CE W f Bw Ba B bm n x a ra ca na) (hB : Below W.heap.size W W') : CE W' f Bw Ba B bm n x a ra ca na :=
  ⟨below_cell hB _ _ h.w, below_cell hB _ _ h.c1, below_cell hB _ _ h.m, h.mm.below hB, h.ea.below (World.block_lt_of_cell? _ _ h.ea.1) hB, QP.k _ _ _ _ _ _ h.qa hB, h.es.below QP.k hB⟩
def candL (f : Fl) (a : En) (k : Nat) : List Nat := (List.range k).filter fun j => f.pairB a (f.N j)
theorem candL_yes {f : Fl} {a : En} {k : Nat} (h : f.pairB a (f.N k) = true) : candL f a (k + 1) = candL f a k ++ [k] := by
  unfold candL; rw [List.range_succ, List.filter_append]; simp [h]
theorem candL_no {f : Fl} {a : En} {k : Nat} (h : f.pairB a (f.N k) = false) : candL f a (k + 1) = candL f a k := by
  unfold candL; rw [List.range_succ, List.filter_append]; simp [h]
theorem candL_len (f : Fl) (a : En) (k : Nat) : (candL f a k).length ≤ k := Nat.le_trans (List.length_filter_le _ _) (by simp)
def encK (k : Nat) : Array Value := #[.int .i64 (k : Int)]
theorem OwnFrom.low {α : Type} {B : Nat} {J : List α → World → Prop} (hJ : OwnFrom B J) {s : List α} {W W' : World} (h : J s W) (hb : Below W.heap.size W W') : J s W' := hJ _ W W' none h (below_grown hb) (fun r e => by cases e)
set_option maxRecDepth 100000 in
set_option maxHeartbeats 8000000 in
theorem cand_all {f : Fl} {Bw Ba B bm m : Nat} {x : WkV} {a : En} {ra ca na : Value} (w : World) (h : CE w f Bw Ba B bm m x a ra ca na) (hnw : f.nw ≤ 8) (ok : ∀ k, k < f.nw → Ok2 a (f.N k)) :
    SeqAll Tryz.prog 133 #[.pointer (some ⟨Bw, 0, none⟩), .pointer (some ⟨Ba, 0, none⟩)] encK (Below w.heap.size) (fun xs => xs = candL f a f.nw) f.nw w := fun n l J W hW hJ hY h0 => by
  have HCE := Lib.hid h
  have HOK := Lib.hid ok
  have HY := Lib.hid hY
  have HJ := Lib.hid hJ
  have HW := Lib.hid hW
  have HLEN := Lib.hid (candL_len f a)
  have HYS := Lib.hid (fun k => candL_yes (f := f) (a := a) (k := k))
  have HNS := Lib.hid (fun k => candL_no (f := f) (a := a) (k := k))
  have hc := h.below hW
  have d0 := hc.w
  have d1 := hc.c1
  clear h ok hY hJ hW hc
  generalize hnwe : f.nw = nw at *
  have HNW := Lib.hid hnwe
  clear hnwe
  refine callsIn_of_wp Tryz.func133 rfl trivial ?_ rfl
  simp only [Tryz.ntmps133, List.size_toArray, List.length_cons, List.length_nil, Nat.reduceAdd, Nat.reduceSub, Array.replicate_succ, Array.replicate_zero, List.push_toArray, List.append_toArray, List.nil_append, List.cons_append]
  gi_wp2
  gi_loopw [12] (fun i wr => ∃ k : Nat, i = .int .i64 (k : Int) ∧ k ≤ nw ∧ J (candL f a k) wr ∧ Below w.heap.size w wr) (fun i _ => (nw - (intOf i).toNat))
  case atStart => exact ⟨0, rfl, Nat.zero_le _, h0, HW.out⟩
  case round =>
    obtain ⟨k, rfl, hk, hJs, hbl⟩ := hrel
    have HB := Lib.hid hbl
    have HJS := Lib.hid hJs
    clear hJs hbl
    by_cases hlt : k < nw
    · have hce := HCE.out.below HB.out
      obtain ⟨b, off, rv, cv, nv, hxa, hb, e7, hq⟩ := hce.es.at (k := k) (by rw [HNW.out]; exact hlt)
      obtain ⟨va, vc, rfl⟩ := hq.2.2.1.slice
      obtain ⟨vra, vrc, rfl⟩ := hq.1.slice
      obtain ⟨vca, vcc, rfl⟩ := hq.2.1.slice
      obtain ⟨x0, x1, x2, x3, x4, x5, x6⟩ := e7
      have HC := Lib.hid hce
      have HQ := Lib.hid hq
      have HOKK := Lib.hid (HOK.out k hlt)
      clear hce hq
      have ki : (0 : Int) ≤ (k : Int) := by omega
      have kj : (k : Int) < (nw : Int) := by omega
      rw [hxa]
      have HEA := Lib.hid (heap_alloc_new wr (.cells #[.int .i64 (f.N k).p.lo, .int .i64 (f.N k).p.hi, .slice vra (f.N k).p.nr vrc, .slice vca (f.N k).p.nc vcc, .int .i64 (f.N k).sex, .slice va (f.N k).nn vc, .int .i64 (f.N k).pl] 100))
      have HBA := Lib.hid (below_alloc wr (.cells #[.int .i64 (f.N k).p.lo, .int .i64 (f.N k).p.hi, .slice vra (f.N k).p.nr vrc, .slice vca (f.N k).p.nc vcc, .int .i64 (f.N k).sex, .slice va (f.N k).nn vc, .int .i64 (f.N k).pl] 100))
      have HQE : Hid (∀ X, Below (wr.heap.size + 1) (wr.alloc (.cells #[.int .i64 (f.N k).p.lo, .int .i64 (f.N k).p.hi, .slice vra (f.N k).p.nr vrc, .slice vca (f.N k).p.nc vcc, .int .i64 (f.N k).sex, .slice va (f.N k).nn vc, .int .i64 (f.N k).pl] 100)) X → QE X f Bw Ba wr.heap.size B bm m a (f.N k) ra ca na (.slice vra (f.N k).p.nr vrc) (.slice vca (f.N k).p.nc vcc) (.slice va (f.N k).nn vc)) := fun X hX => by
        have hb2 : Below wr.heap.size wr X := HBA.out.trans (hX.mono (by omega))
        have hc2 := HC.out.below hb2
        have hblk : X.heap[wr.heap.size]? = some (.cells #[.int .i64 (f.N k).p.lo, .int .i64 (f.N k).p.hi, .slice vra (f.N k).p.nr vrc, .slice vca (f.N k).p.nc vcc, .int .i64 (f.N k).sex, .slice va (f.N k).nn vc, .int .i64 (f.N k).pl] 100 (0, 0)) := (hX.block _ (by omega)).trans HEA.out
        exact ⟨hc2.w, hc2.m, hc2.mm, hc2.ea, hc2.qa, ⟨cell_of_row _ _ 0 _ _ _ hblk, cell_of_row _ _ 1 _ _ _ hblk, cell_of_row _ _ 2 _ _ _ hblk, cell_of_row _ _ 3 _ _ _ hblk, cell_of_row _ _ 4 _ _ _ hblk, cell_of_row _ _ 5 _ _ _ hblk, cell_of_row _ _ 6 _ _ _ hblk⟩, QP.k _ _ _ _ _ _ HQ.out hb2⟩
      have HYK := Lib.hid (HYS.out k)
      have HNK := Lib.hid (HNS.out k)
      have HAQ := Lib.hid (fun qb X hX hq => all_q HOKK.out qb X (HQE.out X hX) hq)
      clear HC HQ HEA HQE HOKK
      generalize f.pairB a (f.N k) = pr at *
      generalize (f.N k).p.lo = lo at *
      generalize (f.N k).p.hi = hi at *
      generalize (f.N k).p.nr = nr at *
      generalize (f.N k).p.nc = nc at *
      generalize (f.N k).sex = sx at *
      generalize (f.N k).nn = nn at *
      generalize (f.N k).pl = pl at *
      gi_wp2
      refine ⟨trivial, fun h => (by cases h), ?_⟩
      refine CallsIn.mono (callsIn_wide.2 (questions_any _)) ?_
      rintro _ w2 ⟨rfl, hw2⟩
      have hz1 : (wr.alloc (.cells #[.int .i64 lo, .int .i64 hi, .slice vra nr vrc, .slice vca nc vcc, .int .i64 sx, .slice va nn vc, .int .i64 pl] 100)).heap.size = wr.heap.size + 1 := by simp
      have HB2 : Hid (Below (wr.heap.size + 1) (wr.alloc (.cells #[.int .i64 lo, .int .i64 hi, .slice vra nr vrc, .slice vca nc vcc, .int .i64 sx, .slice va nn vc, .int .i64 pl] 100)) w2) := by
        rw [hw2, ← hz1]; exact below_alloc _ _
      have HQB : Hid (∀ j, j < 4 → w2.cell? ⟨wr.heap.size + 1, j, none⟩ = some (qV j)) := fun j hj => by
        have hblk := heap_alloc_new (wr.alloc (.cells #[.int .i64 lo, .int .i64 hi, .slice vra nr vrc, .slice vca nc vcc, .int .i64 sx, .slice va nn vc, .int .i64 pl] 100)) (.cells #[qV 0, qV 1, qV 2, qV 3] 188)
        rw [← hw2, hz1] at hblk
        rw [cell_of_row _ _ j _ _ _ hblk]
        rcases (show j = 0 ∨ j = 1 ∨ j = 2 ∨ j = 3 by omega) with rfl | rfl | rfl | rfl <;> rfl
      clear hw2
      rw [hz1]
      clear hz1
      gi_wp2
      refine ⟨trivial, fun h => (by cases h), ?_⟩
      refine CallsIn.mono (callsIn_wide.2 (HAQ.out (wr.heap.size + 1) w2 HB2.out HQB.out)) ?_
      rintro _ w3 ⟨rfl, hb3⟩
      have HB3 : Hid (Below wr.heap.size wr w3) := (HBA.out.trans (HB2.out.mono (by omega))).trans (hb3.mono (by have := HB2.out.size; have := HBA.out.size; omega))
      have HJ3 := Lib.hid (OwnFrom.low HJ.out HJS.out HB3.out)
      have HB4 := Lib.hid (HB.out.trans (HB3.out.mono HB.out.size))
      clear hb3 HB2 HBA HQB HAQ
      cases pr
      · have HN2 := Lib.hid (HNK.out rfl)
        gi_wp2
        refine ⟨fun _ h => (by cases h), ?_⟩
        gi_wp2
        go_roundw
        case rel => exact ⟨k + 1, by go_num, by omega, by rw [HN2.out]; exact HJ3.out, HB4.out⟩
        case measure => simp [intOf]; omega
      · have HY2 := Lib.hid (HYK.out rfl)
        obtain ⟨fn, tmps, assign, body, hy, hR⟩ := HY.out _ k w3 HJ3.out (by have := HLEN.out k; omega)
        dsimp only [encK] at hy
        have HR := Lib.hid hR; clear hR
        gi_wp2
        refine ⟨fun h => (by cases h), ?_⟩
        refine RoundIn.mono (R := _) (show RoundIn Fence.wide (n - 1) _ _ _ _ _ _ _ _ from ⟨HR.out.1, fun c cs _ => HR.out.2 c cs (room_wide _)⟩) ?_
        rintro e W3 ⟨rfl, hJ3, hk3, _⟩
        have HJ5 := Lib.hid hJ3
        have HB5 := Lib.hid (HB4.out.trans hk3)
        clear hJ3 hk3
        gi_wp2
        go_roundw
        case rel => exact ⟨k + 1, by go_num, by omega, by rw [HY2.out]; exact HJ5.out, HB5.out⟩
        case measure => simp [intOf]; omega
    · obtain rfl : k = nw := by omega
      gi_wp2
      go_end0
      exact ⟨⟨_, rfl⟩, _, rfl, HJS.out⟩
end Go.Proofs.YtgbdbikjckfgmaaGreat

namespace Go.Proofs.YtgbdbikjckfgmaaGreat
open Go.RowKit Go.Shelf
attribute [local go_sem] Oper.semAt_some

def kV (k : Nat) : Value := .int .i64 (k : Int)
theorem SeqAll.low {α : Type} {P : Program} {g : Nat} {lb : Array Value} {encs : α → Array Value} {K : World → World → Prop} {S : List α → Prop} {N : Nat} {w w1 : World} (h : SeqAll P g lb encs K S N w) (hb : Below w.heap.size w w1) : SeqAll P g lb encs K S N w1 :=
  fun n l J W hW hJ hY h0 => h n l J W (hb.trans (hW.mono hb.size)) hJ hY h0
/-- What has been collected. -/
def CI (Bs : Nat) (Wb : World) (pre : List Nat) (W : World) : Prop :=
  ∃ v, W.heap[Bs]? = some (.cells #[v] 47 (0, 0)) ∧ W.ownsRow Wb.heap.size 3 1 v pre.length (pre.map kV) ∧ Fr (fun q => q = Bs) Wb W
theorem CI.own (Bs : Nat) (Wb : World) : OwnFrom Wb.heap.size (CI Bs Wb) := by
  rintro s W W' row ⟨lv, h1, h2, h3⟩ hg hr
  have hne : ∀ q c t fr, W.heap[q]? = some (.cells c t fr) → ¬ row = some q := fun q c t fr hq e => by
    obtain ⟨_, o, ho, hc⟩ := hr q e; rw [hq] at ho; cases ho; cases hc
  have hg' := Fr.grown hg
  refine ⟨lv, (hg'.block _ (Array.getElem?_eq_some_iff.1 h1).1 (hne _ _ _ _ h1)).trans h1, own_fr h2 hg' (fun g cur _ _ hc => hne _ _ _ _ hc), ?_⟩
  refine ⟨hg'.os.trans h3.os, hg'.tape.trans h3.tape, hg'.output.trans h3.output, Nat.le_trans h3.size hg'.size, fun q hq he => ?_⟩
  exact (hg'.block q (Nat.lt_of_lt_of_le hq h3.size) (fun e => by have := (hr q e).1; omega)).trans (h3.block q hq he)
theorem CI.step {Bs B0 : Nat} {Wb W X W2 : World} {pre : List Nat} {x : Nat} {lv v' : Value} (hBs : Bs < Wb.heap.size) (hB0 : B0 ≤ Bs)
    (h1 : W.heap[Bs]? = some (.cells #[lv] 47 (0, 0))) (h2 : W.ownsRow Wb.heap.size 3 1 lv pre.length (pre.map kV)) (h3 : Fr (fun q => q = Bs) Wb W) (hX : Below W.heap.size W X)
    (g1 : W2.ownsRow Wb.heap.size 3 1 v' (pre.length + 1) (pre.map kV ++ [kV x])) (g2 : X.grownBy W2 lv.ownBlock) :
    KeepsOthers W (W2.setCell ⟨Bs, 0, none⟩ v') ∧ Below B0 W (W2.setCell ⟨Bs, 0, none⟩ v') ∧ CI Bs Wb (pre ++ [x]) (W2.setCell ⟨Bs, 0, none⟩ v') := by
  have hl : ∀ q, lv.ownBlock = some q → Wb.heap.size ≤ q ∧ ∃ cur, W.heap[q]? = some (.cells cur 3 (0, 0)) := fun q hq => by
    rcases h2.2 with ⟨rfl, _⟩ | ⟨g, cap, cur, rfl, hg, hc, _⟩
    · cases hq
    · cases hq; exact ⟨hg, cur, hc⟩
  have hsB := (Array.getElem?_eq_some_iff.1 h1).1
  have fX : Fr (fun q => lv.ownBlock = some q) W W2 := (Fr.below hX _).trans (Fr.grown g2)
  have k1 : W2.heap[Bs]? = some (.cells #[lv] 47 (0, 0)) := (fX.block _ hsB (fun e => by have := (hl _ e).1; omega)).trans h1
  have f2 := Fr.set W2 Bs 0 v'
  have k2 := set_one (u := v') k1
  have f : Fr (fun q => q = Bs ∨ lv.ownBlock = some q) W (W2.setCell ⟨Bs, 0, none⟩ v') := (fX.mono (fun _ _ h => .inr h)).trans (f2.mono (fun _ _ h => .inl h))
  refine ⟨⟨f.size, fun k o hk ho => ?_⟩, f.low (by omega) (fun q hq e => ?_), v', k2, ?_, ?_⟩
  · refine (f.block k (Array.getElem?_eq_some_iff.1 hk).1 ?_).trans hk
    rintro (rfl | h)
    · rw [h1] at hk; cases hk; cases ho
    · obtain ⟨_, cur, hc⟩ := hl _ h; rw [hc] at hk; cases hk; cases ho
  · rcases e with e | e
    · omega
    · have := (hl _ e).1; omega
  · rw [List.map_append, List.length_append]
    refine own_fr g1 f2 ?_
    rintro g cur hg hb _ rfl
    omega
  · refine ⟨f.os.trans h3.os, f.tape.trans h3.tape, f.output.trans h3.output, Nat.le_trans h3.size f.size, fun q hq he => ?_⟩
    refine (f.block q (Nat.lt_of_lt_of_le hq h3.size) ?_).trans (h3.block q hq he)
    rintro (h | h)
    · exact he h
    · have := (hl _ h).1; omega
set_option maxRecDepth 100000 in
set_option maxHeartbeats 8000000 in
theorem appendSeq_any (Bw Ba N : Nat) (xs : List Nat) (w : World) (hN : N ≤ 1000) (hseq : SeqAll Tryz.prog 133 #[.pointer (some ⟨Bw, 0, none⟩), .pointer (some ⟨Ba, 0, none⟩)] encK (Below w.heap.size) (fun l => l = xs) N w) :
    Calls Tryz.prog 132 #[.slice none 0 0, .func (.func 133) #[] #[.pointer (some ⟨Bw, 0, none⟩), .pointer (some ⟨Ba, 0, none⟩)]] w fun e w' => ∃ v, e = .returned v ∧ w'.ownsRow w.heap.size 3 1 v xs.length (xs.map kV) ∧ Below w.heap.size w w' := by
  obtain ⟨i0, hi0, hz0, hz1, hz2⟩ := info_parts Tryz.infoInt
  have HSEQ := Lib.hid (hseq.low (below_alloc w (.cells #[.slice none 0 0] 47)))
  clear hseq
  refine callsIn_wide.1 (callsIn_of_wp_marks (n := 0) Tryz.func132 rfl trivial ?_ rfl)
  simp only [Tryz.ntmps132, List.size_toArray, List.length_cons, List.length_nil, Nat.reduceAdd, Nat.reduceSub, Array.replicate_succ, Array.replicate_zero, List.push_toArray, List.append_toArray, List.nil_append, List.cons_append]
  refine wpIn_wide.2 ?_
  go_wp2
  have hblk := heap_alloc_new w (.cells #[.slice none 0 0] 47)
  have hz : w.heap.size < (w.alloc (.cells #[.slice none 0 0] 47)).heap.size := by simp
  have HB0 := Lib.hid (below_alloc w (.cells #[.slice none 0 0] 47))
  generalize w.alloc (.cells #[.slice none 0 0] 47) = Wb at *
  refine wpIn_wide.1 (wide_range (n := 0) (gf := 133) (lb := #[.pointer (some ⟨Bw, 0, none⟩), .pointer (some ⟨Ba, 0, none⟩)]) rfl (enters_of Tryz.func133 (by kernel_rfl) rfl)
    HSEQ.out (fun _ => rfl) (fun h1 h2 => h1.trans h2) (fun W l o o' hl ho hc hw => ⟨rfl, rfl, rfl, by simp, fun q hq => World.putObj_heap_other (by omega)⟩) (CI w.heap.size Wb) (CI.own _ _) ⟨_, hblk, World.ownsRow_nil _ _ _ _, Fr.refl _ _⟩
    (fun pre x a' W' => CI w.heap.size Wb pre W' ∧ a' = { tmps := #[.slice none 0 0, .func (.func 133) #[] #[.pointer (some ⟨Bw, 0, none⟩), .pointer (some ⟨Ba, 0, none⟩)], .pointer (some ⟨w.heap.size, 0, none⟩), undef, .slice none 0 0, .int .i64 (x : Int), .func (.func 133) #[] #[.pointer (some ⟨Bw, 0, none⟩), .pointer (some ⟨Ba, 0, none⟩)], .int .i64 (x : Int), undef, undef, undef, undef, undef], defers := [] })
    ?hA ?assign ?body ?done)
  case hA =>
    rintro pre x a' s X Y row ⟨hs, rfl⟩ hg hr
    exact ⟨CI.own _ _ _ X Y row hs hg hr, rfl⟩
  case assign =>
    rintro l1 pre x W1 hy hlen
    have HY := Lib.hid hy
    clear hy
    simp only [encK]
    gi_wp2
    exact ⟨Below.refl _ _, KeepsOthers.refl _, HY.out, trivial⟩
  case body =>
    rintro l1 pre x a' W1 hl ⟨r, hr⟩ ⟨⟨lv, y1, y2, y3⟩, rfl⟩ hlen
    obtain ⟨la, lc, rfl⟩ := own_slice' y2
    have z0 : W1.cell? ⟨w.heap.size, 0, none⟩ = some (.slice la pre.length lc) := cell_of_row _ _ 0 _ _ _ y1
    have hWs := y3.size
    have hW1 := (Array.getElem?_eq_some_iff.1 y1).1
    have hbx := below_alloc W1 (.cells #[kV x] 3)
    have HST := Lib.hid (fun (v' : Value) (W2 : World) g1 g2 => CI.step (x := x) (v' := v') (W2 := W2) (B0 := w.heap.size) (by omega) (Nat.le_refl _) y1 y2 y3 hbx g1 g2)
    have HFZ := Lib.hid (fun (W2 : World) (hg : (W1.alloc (.cells #[kV x] 3)).grownBy W2 (Value.slice la pre.length lc).ownBlock) => grown_block hg hbx hW1 (fun q hq e => by have := own_low y2 hq; omega) y1)
    have HO := Lib.hid (World.ownsRow.alloc y2 (.cells #[kV x] 3))
    have HNW := Lib.hid (World.news_of_block (heap_alloc_new W1 (.cells #[kV x] 3)))
    clear y1 y2 y3 hbx
    gi_wp2_with (gi_at_builtin; refine wpListIn_append_own _ rfl (.tmp 8) (.tmp 10) 47 rfl Wb.heap.size 3 i0 (.int .i64 0) 1 8 Tryz.underlying47 hi0 hz0 hz1 hz2 rfl (by decide) (.slice la pre.length lc) pre.length (pre.map kV) rfl HO.out ⟨W1.heap.size, 0, none⟩ 1 1 [kV x] rfl rfl ?c1 ?c2 ?c3 ?c4 ?c5 ?_)
    case c1 => exact fun j u h => h
    case c2 => rfl
    case c3 => unfold maxLen; omega
    case c4 => omega
    case c5 => omega
    intro v' W2 hown hgr _
    have hk := HFZ.out W2 hgr
    have k0 : W2.cell? ⟨w.heap.size, 0, none⟩ = some (.slice la pre.length lc) := cell_of_row _ _ 0 _ _ _ hk
    have k1 : W2.frozen? ⟨w.heap.size, 0, none⟩ = false := frozen_of_row _ _ 0 _ _ hk
    have HE := Lib.hid (HST.out v' W2 hown hgr)
    obtain ⟨a', c', rfl⟩ := own_slice' hown
    clear hown hgr hk HST HFZ
    gi_wp2
    exact HE.out
  case done =>
    rintro D ys W5 hD rfl ⟨lv, y1, y2, y3⟩ hK
    obtain ⟨la, lc, rfl⟩ := own_slice' y2
    have z0 : W5.cell? ⟨w.heap.size, 0, none⟩ = some (.slice la ys.length lc) := cell_of_row _ _ 0 _ _ _ y1
    have HO := Lib.hid y2
    have hlo := fun q (hq : (Value.slice la ys.length lc).ownBlock = some q) => own_low y2 hq
    have HB := Lib.hid (HB0.out.trans ((y3.low (n := w.heap.size) (by omega) (fun q hq e => by omega))))
    have HK := Lib.hid hK
    have HL := Lib.hid hlo
    clear y1 y2 y3 hK hlo
    go_wp2
    refine ⟨by simp, .inl ⟨_, _, rfl, run_takeDeferred HK.out, ?_⟩⟩
    refine ⟨_, results_tmp rfl _ _ _, _, rfl, own_mono (own_fr HO.out (Fr.put _ D _) ?_) (by omega), HB.out.trans ((Fr.put W5 D _).low (by have := HB.out.size; omega) (fun q hq e => by omega))⟩
    rintro g cur hg _ hc rfl
    rw [HK.out] at hc
    cases hc
set_option maxHeartbeats 2000000 in
theorem collect_any (Bw Ba N : Nat) (xs : List Nat) (w : World) (hN : N ≤ 1000) (hseq : SeqAll Tryz.prog 133 #[.pointer (some ⟨Bw, 0, none⟩), .pointer (some ⟨Ba, 0, none⟩)] encK (Below w.heap.size) (fun l => l = xs) N w) :
    Calls Tryz.prog 107 #[.func (.func 133) #[] #[.pointer (some ⟨Bw, 0, none⟩), .pointer (some ⟨Ba, 0, none⟩)]] w fun e w' => ∃ v, e = .returned v ∧ w'.ownsRow w.heap.size 3 1 v xs.length (xs.map kV) ∧ Below w.heap.size w w' := by
  have HC := Lib.hid (appendSeq_any Bw Ba N xs w hN hseq)
  clear hseq
  go_enter Tryz.func107, Tryz.ntmps107
  go_wp2_with fail
  refine HC.out.mono ?_
  rintro _ w1 ⟨v, rfl, ho, hb⟩
  have HO := Lib.hid ho; have HB := Lib.hid hb
  clear ho hb
  go_wp2_with fail
  go_ret
  exact ⟨_, rfl, HO.out, HB.out⟩
end Go.Proofs.YtgbdbikjckfgmaaGreat

namespace Go.Proofs.YtgbdbikjckfgmaaGreat
open Go.RowKit Go.Shelf

set_option maxHeartbeats 2000000 in
theorem work_bad (x : FV) (f : Fl) (w : World) (h : FlQ QP w x f) (h1 : f.no ≤ 100000) (h2 : f.nw ≤ 100000) (h3 : f.nm ≤ 100000) (hf : f.fault ≠ 0) :
    Calls Tryz.prog 72 #[.agg #[.slice x.oa f.no x.oc, .slice x.na f.nw x.nc, .slice x.ma f.nm x.mc]] w fun e w' => e = .returned (.tuple #[.pointer none, .int .i64 f.fault]) ∧ Below w.heap.size w w' := by
  have hb0 := below_alloc w (.cells #[.slice x.oa f.no x.oc, .slice x.na f.nw x.nc, .slice x.ma f.nm x.mc] 33)
  have HC := Lib.hid (checkFile_any x f _ (h.below QP.k hb0) h1 h2 h3)
  have HB := Lib.hid hb0
  have hf1 : (f.fault != 0) = true := by simp [hf]
  clear h hf h1 h2 h3 hb0
  generalize f.fault = ft at *
  generalize f.no = no at *
  generalize f.nw = nw at *
  generalize f.nm = nm at *
  go_enter Tryz.func72, Tryz.ntmps72
  go_wp2_with fail
  refine HC.out.mono ?_
  rintro _ w1 ⟨rfl, hb⟩
  have HB1 := Lib.hid (below_step HB.out hb)
  clear hb
  go_wp2_with fail
  go_ret2
  exact ⟨rfl, HB1.out⟩
theorem Tryz.infoRow : (Tryz.prog.info? 47).map (fun i => (i.zero, i.size, i.bytes)) = some (some (.slice none 0 0), 1, 24) := by kernel_rfl
def movK (f : Fl) (k : Nat) (c g : Int) : Bool := !allB (fun j => !(f.mf j == c && f.mt j == g)) k
theorem movK_zero (f : Fl) : movK f 0 = fun _ _ => false := rfl
theorem movK_all (f : Fl) : movK f f.nm = f.movB := rfl
theorem allB_succ (p : Nat → Bool) (k : Nat) : allB p (k + 1) = (allB p k && p k) := by
  unfold allB; rw [List.range_succ, List.all_append]; simp
theorem movK_succ (f : Fl) (k : Nat) : addM (movK f k) (f.mf k) (f.mt k) = movK f (k + 1) := by
  funext c g
  unfold addM movK
  rw [allB_succ]
  have e : (decide (c = f.mf k) && decide (g = f.mt k)) = (f.mf k == c && f.mt k == g) := by
    rw [Bool.eq_iff_iff]
    simp only [Bool.and_eq_true, decide_eq_true_eq, beq_iff_eq]
    exact ⟨fun h => ⟨h.1.symm, h.2.symm⟩, fun h => ⟨h.1.symm, h.2.symm⟩⟩
  rw [e]
  generalize allB (fun j => !(f.mf j == c && f.mt j == g)) k = A
  generalize (f.mf k == c && f.mt k == g) = p
  cases A <;> cases p <;> rfl
theorem candL_P {f : Fl} {i : Nat} (hi : i < f.no) : candL f (f.O i) f.nw = f.P i := by
  unfold candL Fl.P
  refine List.filter_congr fun k hk => ?_
  have := List.mem_range.1 hk
  simp [Fl.g, hi, this]
theorem OkF.two {f : Fl} (h : OkF f) {i k : Nat} (hi : i < f.no) (hk : k < f.nw) : Ok2 (f.O i) (f.N k) := by
  obtain ⟨_, a2, a3⟩ := h.o hi
  obtain ⟨_, b2, b3⟩ := h.n hk
  unfold En.ok at a3 b3
  simp only [Bool.and_eq_true] at a3 b3
  have a4 := a3.2
  have b4 := b3.2
  unfold inB at a4 b4
  simp only [Bool.and_eq_true, decide_eq_true_eq] at a4 b4
  exact ⟨a4, b4, a2, b2⟩
theorem OkF.moves {f : Fl} (h : OkF f) {k : Nat} (hk : k < f.nm) : (0 ≤ f.mf k ∧ f.mf k ≤ 140) ∧ 0 ≤ f.mt k ∧ f.mt k ≤ 140 := by
  have := h.m k hk
  unfold Fl.mok inB at this
  simp only [Bool.and_eq_true, decide_eq_true_eq] at this
  omega
theorem iL_kV (l : List Nat) : l.map kV = iL (nz l) l.length := by
  unfold iL
  refine List.ext_getElem (by simp) fun j h1 h2 => ?_
  have hj : j < l.length := by simpa using h1
  simp [kV, nz, hj]
/-- The pairs as rows of the call's own. -/
structure WRows (W : World) (base : Nat) (pa : Option Addr) (pc k : Nat) (svs : Nat → Value) (P : Nat → List Nat) : Prop where
  own : W.ownsRow base 47 1 (.slice pa k pc) k ((List.range k).map svs)
  row : ∀ j, j < k → W.ownsRow base 3 1 (svs j) (P j).length ((P j).map kV)
theorem WRows.fr {W W' : World} {base : Nat} {pa : Option Addr} {pc k : Nat} {svs : Nat → Value} {P : Nat → List Nat} {ex : Nat → Prop} (h : WRows W base pa pc k svs P) (hf : Fr ex W W') (h1 : ∀ g cur, W.heap[g]? = some (.cells cur 47 (0, 0)) → base ≤ g → ¬ ex g) (h2 : ∀ g cur, W.heap[g]? = some (.cells cur 3 (0, 0)) → base ≤ g → ¬ ex g) : WRows W' base pa pc k svs P :=
  ⟨own_fr h.own hf (fun g cur _ hb hc => h1 g cur hc hb), fun j hj => own_fr (h.row j hj) hf (fun g cur _ hb hc => h2 g cur hc hb)⟩
theorem WRows.below {W W' : World} {base : Nat} {pa : Option Addr} {pc k : Nat} {svs : Nat → Value} {P : Nat → List Nat} (h : WRows W base pa pc k svs P) (hb : Below W.heap.size W W') : WRows W' base pa pc k svs P :=
  h.fr (Fr.below hb (fun _ => False)) (fun _ _ _ _ e => e) (fun _ _ _ _ e => e)
theorem WRows.rows {W : World} {base : Nat} {pa : Option Addr} {pc k : Nat} {svs : Nat → Value} {P : Nat → List Nat} (h : WRows W base pa pc k svs P) : RowsAt W (.slice pa k pc) k P := by
  rcases Nat.eq_zero_or_pos k with rfl | hk
  · exact .inl ⟨_, _, rfl, rfl⟩
  · obtain ⟨g, rfl⟩ := own_somep h.own hk
    refine .inr ⟨g, 0, pc, rfl, own_lt h.own rfl, fun i hi => ?_⟩
    obtain ⟨a, c, e⟩ := own_slice' (h.row i hi)
    refine ⟨a, c, ?_, ?_⟩
    · have := h.own.cells (g := g) rfl i (svs i) (by simp [hi])
      rw [addr_add] at this
      rw [this, e]
    · rw [← e]
      have := h.row i hi
      rw [iL_kV] at this
      exact (IntsAt.own this).toIn
theorem WRows.app {W X Y : World} {base : Nat} {pa pa' : Option Addr} {pc pc' k : Nat} {svs : Nat → Value} {v : Value} {P : Nat → List Nat} (h : WRows W base pa pc k svs P) (hX : Below W.heap.size W X) (hv : X.ownsRow base 3 1 v (P k).length ((P k).map kV)) (ho : Y.ownsRow base 47 1 (.slice pa' (k + 1) pc') (k + 1) ((List.range k).map svs ++ [v])) (hg : X.grownBy Y (Value.slice pa k pc).ownBlock) : WRows Y base pa' pc' (k + 1) (putL svs k v) P := by
  have hx := h.below hX
  have hne : ∀ g cur, X.heap[g]? = some (.cells cur 3 (0, 0)) → base ≤ g → ¬ (Value.slice pa k pc).ownBlock = some g := fun g cur hc _ e => by
    rcases hx.own.2 with ⟨e1, _⟩ | ⟨g', cap, cur', e1, _, hb, _⟩
    · rw [e1] at e; cases e
    · rw [e1] at e; cases e; rw [hb] at hc; cases hc
  have hm : (List.range (k + 1)).map (putL svs k v) = (List.range k).map svs ++ [v] := by
    rw [List.range_succ, List.map_append]
    congr 1
    · exact List.map_congr_left fun j hj => putL_ne (by have := List.mem_range.1 hj; omega)
    · simp [putL_same]
  refine ⟨by rw [hm]; exact ho, fun j hj => ?_⟩
  rcases Nat.lt_succ_iff_lt_or_eq.1 hj with hj | rfl
  · rw [putL_ne (by omega)]
    exact own_fr (hx.row j hj) (Fr.grown hg) (fun g cur _ hb hc => hne g cur hc hb)
  · rw [putL_same]
    exact own_fr hv (Fr.grown hg) (fun g cur _ hb hc => hne g cur hc hb)
theorem MM.ne_row {W : World} {F : Int → Int → Bool} {bm n m base size : Nat} {E : TypeId} {v : Value} {xs : List Value} (h : MM W F bm n) (ho : W.ownsRow base E size v m xs) : some bm ≠ v.ownBlock := fun e => by
  obtain ⟨D, _, es, clock, hb, _⟩ := h
  rcases ho.2 with ⟨rfl, _⟩ | ⟨g, cap, cur, rfl, _, hg, _⟩
  · cases e
  · cases e; rw [hb] at hg; cases hg
set_option maxRecDepth 100000 in
set_option maxHeartbeats 16000000 in
theorem work_ok (x : FV) (f : Fl) (w : World) (h : FlQ QP w x f) (hf : f.fault = 0) :
    Calls Tryz.prog 72 #[.agg #[.slice x.oa f.no x.oc, .slice x.na f.nw x.nc, .slice x.ma f.nm x.mc]] w fun e w' => ∃ B, e = .returned (.tuple #[.pointer (some ⟨B, 0, none⟩), .int .i64 0]) ∧ WkF w' B f ∧ Below w.heap.size w w' := by
  obtain ⟨i0, hi0, hiz0, hiz1, hiz2⟩ := info_parts Tryz.infoRow
  obtain ⟨oa, oc, na, nc, ma, mc⟩ := x
  have OK := Lib.hid (Fl.ok hf)
  have hno := OK.out.no
  have hnw := OK.out.nw
  have hnm := OK.out.nm
  have HA0 := Lib.hid ((BF.base w).alloc #[.slice oa f.no oc, .slice na f.nw nc, .slice ma f.nm mc] 33)
  have HC := Lib.hid (checkFile_any ⟨oa, oc, na, nc, ma, mc⟩ f _ (h.below QP.k HA0.out.fr) (by omega) (by omega) (by omega))
  rw [hf] at HC
  have HN := Lib.hid (fun W (hW : Below w.heap.size w W) => h.n.below QP.k hW)
  simp only at *
  have HEND : Hid (∀ (W : World) (B : Nat) (xv : WkV), WkAt W B xv f.no f.nw f.P → WkF W B f) := fun W B xv h => ⟨xv, h⟩
  have HM0 := Lib.hid (movK_zero f)
  have HMS := Lib.hid (movK_succ f)
  have HMA := Lib.hid (movK_all f)
  have HMV := Lib.hid (fun k hk => OK.out.moves (k := k) hk)
  have HM := Lib.hid (fun W (hW : Below w.heap.size w W) => h.m.below hW)
  have HO := Lib.hid (fun W (hW : Below w.heap.size w W) => h.o.below QP.k hW)
  clear h hf
  generalize hnoe : f.no = no at *
  generalize hnwe : f.nw = nw at *
  generalize hnme : f.nm = nm at *
  have HNO := Lib.hid hnoe; have HNW := Lib.hid hnwe; have HNM := Lib.hid hnme
  clear hnoe hnwe hnme
  have hmm := @run_makeMap Tryz.prog
  go_enter Tryz.func72, Tryz.ntmps72
  go_wp2_with fail
  refine HC.out.mono ?_
  rintro _ w1 ⟨rfl, hb⟩
  have HA1 := Lib.hid (HA0.out.below hb)
  clear hb HA0 HC
  have k0 := HA1.out.cell (.head _) 0
  have k1 := HA1.out.cell (.head _) 1
  have k2 := HA1.out.cell (.head _) 2
  have hlF := (HA1.out.lt (.head _)).2
  go_wp2_with fail
  have HA2 := Lib.hid ((HA1.out.below (below_alloc w1 (.map #[] 0))).alloc #[.slice oa no oc, .slice na nw nc, .slice ma nm mc, .map (some w1.heap.size), .slice none 0 0] 131)
  rw [World.size_alloc] at HA2
  have HMM0 := Lib.hid ((MM.made w1).below (below_alloc (w1.alloc (.map #[] 0)) (.cells #[.slice oa no oc, .slice na nw nc, .slice ma nm mc, .map (some w1.heap.size), .slice none 0 0] 131)))
  rw [← HM0.out] at HMM0
  clear HA1 k0 k1 k2 hmm HM0
  generalize ((w1.alloc (.map #[] 0)).alloc (.cells #[.slice oa no oc, .slice na nw nc, .slice ma nm mc, .map (some w1.heap.size), .slice none 0 0] 131)) = w2 at *
  generalize w1.heap.size = bm at *
  go_loopw [22] (fun i wr => ∃ k : Nat, i = .int .i64 (k : Int) ∧ k ≤ nm ∧ BF w wr [(bm + 1, #[.slice oa no oc, .slice na nw nc, .slice ma nm mc, .map (some bm), .slice none 0 0], 131), (w.heap.size, #[.slice oa no oc, .slice na nw nc, .slice ma nm mc], 33)] ∧ MM wr (movK f k) bm k) (fun i _ => nm - (intOf i).toNat)
  case atStart => exact ⟨0, rfl, Nat.zero_le _, HA2.out, HMM0.out⟩
  case round =>
    clear HA2 HMM0
    obtain ⟨k, rfl, hk, hbf, hmm⟩ := hrel
    rename World => wx
    have HA := Lib.hid hbf
    have HQ := Lib.hid hmm
    clear hbf hmm
    by_cases hlt : k < nm
    · obtain ⟨b, off, rfl, hb, x0, x1⟩ := (HM.out _ HA.out.fr).at hlt
      obtain ⟨m1, m2⟩ := HMV.out k hlt
      have HSU := Lib.hid (HMS.out k)
      have ki : (0 : Int) ≤ (k : Int) := by omega
      have kj : (k : Int) < (nm : Int) := by omega
      generalize f.mf k = p at *
      generalize f.mt k = q at *
      generalize movK f k = Fk at *
      go_upto_region 8 with fail
      have hlB := (HA.out.lt (.head _)).2
      have hlE := (HA.out.lt (.tail _ (.head _))).2
      have HA1 := Lib.hid (HA.out.alloc #[.int .i64 p, .int .i64 q] 110)
      have HAX : Hid (BF w (wx.alloc (.cells #[.int .i64 p, .int .i64 q] 110)).drew _) := HA1.out.below (Below.refl _ _).drew
      have HQX := Lib.hid ((HQ.out.below (below_alloc wx (.cells #[.int .i64 p, .int .i64 q] 110))).below (Below.refl _ _).drew)
      generalize wx.heap.size = MB at *
      clear HA HA1 HQ x0 x1
      refine wp_region_Z (S := fun X => X.cell? ⟨MB, 0, none⟩ = some (.int .i64 p) ∧ X.cell? ⟨MB, 1, none⟩ = some (.int .i64 q) ∧ X.cell? ⟨bm + 1, 3, none⟩ = some (.map (some bm))) (by kernel_rfl) ⟨HAX.out.cell (.head _) 0, HAX.out.cell (.head _) 1, HAX.out.cell (.tail _ (.head _)) 3⟩ (fun hS => ?_)
      generalize (wx.alloc (.cells #[.int .i64 p, .int .i64 q] 110)).drew = X at *
      refine tk [0, 1, 2, 3, 4] ?_
      repeat (refine tkZ (oi := ⟨_, _, _, _, _, _⟩) (v := ?_) rfl (by kernel_rfl) (by rfl) (fun _ _ _ h => h) hS ?_ ?_; rotate_left; (· rintro W' ⟨z0, z1, z2⟩; go_simp; try with_reducible rfl); try simp only [Act.put, putA, putZ, putS])
      refine tk0 ?_
      refine wpAnyZ_next (rs := [5]) (by kernel_rfl) (by simp) ?_
      refine NextZ.last (o := ⟨none, _, _, _, _, _⟩) rfl (by kernel_rfl) (fun K hK => ?_)
      refine step_update_mm rfl (.tmp 29) (.tmp 30) (.const (.bool true)) (by rfl) p q m1 m2 Fk bm k (by unfold maxLen; omega) (by rfl) HQX.out (by rfl) (by rfl) ?_
      intro X2 hm2 hgr
      rw [HSU.out] at hm2
      have HQ2 := Lib.hid hm2
      have HA2 := Lib.hid ((HAX.out.sub (List.forall_mem_cons.2 ⟨(.tail _ (.head _)), List.forall_mem_cons.2 ⟨(.tail _ (.tail _ (.head _))), List.forall_mem_nil _⟩⟩)).fro (Fr.grown hgr) (fun q hq e => by cases e; omega) (List.forall_mem_cons.2 ⟨fun e => by have := Option.some.inj e; simp only at this; omega, List.forall_mem_cons.2 ⟨fun e => by have := Option.some.inj e; simp only at this; omega, List.forall_mem_nil _⟩⟩))
      clear hm2 hgr HAX HQX hS
      refine hK.out _ _ ?_
      clear hK K
      try simp only [Act.put]
      refine wpAnyZ_done (by kernel_rfl) ?_ _
      go_wp2_with fail
      go_roundw
      case rel => exact ⟨k + 1, by go_num, by omega, HA2.out, HQ2.out⟩
      case measure => simp [intOf]; omega
    · obtain rfl : k = nm := by omega
      rw [HMA.out] at HQ
      have k0 := HA.out.cell (.tail _ (.head _)) 0
      have k1 := HA.out.cell (.tail _ (.head _)) 1
      have k2 := HA.out.cell (.tail _ (.head _)) 2
      go_wp2_with fail
      go_loopw [35] (fun i wr => ∃ (j : Nat) (pa : Option Addr) (pc : Nat) (svs : Nat → Value), i = .int .i64 (j : Int) ∧ j ≤ no ∧ BF w wr [(bm + 1, #[.slice oa no oc, .slice na nw nc, .slice ma k mc, .map (some bm), .slice pa j pc], 131), (w.heap.size, #[.slice oa no oc, .slice na nw nc, .slice ma k mc], 33)] ∧ MM wr f.movB bm k ∧ WRows wr w.heap.size pa pc j svs f.P) (fun i _ => no - (intOf i).toNat)
      case atStart => exact ⟨0, none, 0, fun _ => undef, rfl, Nat.zero_le _, HA.out, HQ.out, World.ownsRow_nil _ _ _ _, fun j hj => absurd hj (Nat.not_lt_zero _)⟩
      case round =>
        clear HA HQ k0 k1 k2 HMS HMV HM
        obtain ⟨j, pa, pc, svs, rfl, hj, hbf, hmm, hwr⟩ := hrel
        rename World => wy
        have HA := Lib.hid hbf
        have HQ := Lib.hid hmm
        have HR := Lib.hid hwr
        clear hbf hmm hwr
        by_cases hlt : j < no
        · obtain ⟨b, off, rv, cv, nv, rfl, hb, e7, hq⟩ := (HO.out _ HA.out.fr).at hlt
          obtain ⟨va, vc, rfl⟩ := hq.2.2.1.slice
          obtain ⟨vra, vrc, rfl⟩ := hq.1.slice
          obtain ⟨vca, vcc, rfl⟩ := hq.2.1.slice
          obtain ⟨x0, x1, x2, x3, x4, x5, x6⟩ := e7
          have HQP := Lib.hid hq
          have HCL : Hid (candL f (f.O j) nw = f.P j) := by have := candL_P (f := f) (i := j) (by rw [HNO.out]; exact hlt); rw [HNW.out] at this; exact this
          have HTW := Lib.hid (fun k (hk : k < nw) => OK.out.two (i := j) (k := k) (by rw [HNO.out]; exact hlt) (by rw [HNW.out]; exact hk))
          have HCN := Lib.hid (fun X => candidates_any (bm + 1) (f.O j) (.slice vra (f.O j).p.nr vrc) (.slice vca (f.O j).p.nc vcc) (.slice va (f.O j).nn vc) X)
          unfold enV at HCN
          have HCA := Lib.hid (fun (X : World) (Bw Ba : Nat) (hX : Below wy.heap.size wy X) (hc1 : X.cell? ⟨Bw, 0, none⟩ = some (.pointer (some ⟨bm + 1, 0, none⟩))) (hc2 : En7 X Ba 0 (f.O j) (.slice vra (f.O j).p.nr vrc) (.slice vca (f.O j).p.nc vcc) (.slice va (f.O j).nn vc)) => cand_all (f := f) (Bw := Bw) (Ba := Ba) (B := bm + 1) (bm := bm) (m := k) (x := ⟨none, 0, na, nc, undef, undef, none, 0⟩) (a := f.O j) X
            ⟨hc1, below_cell hX _ _ (by rw [HNW.out]; exact HA.out.cell (.head _) 1), below_cell hX _ _ (HA.out.cell (.head _) 3), HQ.out.below hX, hc2, QP.k _ _ _ _ _ _ HQP.out hX, by rw [HNW.out]; exact HN.out X (HA.out.fr.trans (hX.mono HA.out.fr.size))⟩ (by rw [HNW.out]; exact hnw) (by rw [HNW.out]; exact HTW.out))
          rw [HNW.out, HCL.out] at HCA
          have HPL : Hid ((f.P j).length ≤ 8) := Nat.le_trans (f.P_len j) (by rw [HNW.out]; exact hnw)
          clear hq HQP HCL HTW
          unfold En7 at HCA
          have ki : (0 : Int) ≤ (j : Int) := by omega
          have kj : (j : Int) < (no : Int) := by omega
          generalize (f.O j).p.lo = lo at *
          generalize (f.O j).p.hi = hi at *
          generalize (f.O j).p.nr = nr at *
          generalize (f.O j).p.nc = nc2 at *
          generalize (f.O j).sex = sx at *
          generalize (f.O j).nn = nn at *
          generalize (f.O j).pl = pl at *
          go_upto_region 13 with fail
          have hlB := (HA.out.lt (.head _)).2
          have hlE := (HA.out.lt (.tail _ (.head _))).2
          have HA1 := Lib.hid (HA.out.alloc #[.int .i64 lo, .int .i64 hi, .slice vra nr vrc, .slice vca nc2 vcc, .int .i64 sx, .slice va nn vc, .int .i64 pl] 100)
          have HAX : Hid (BF w (wy.alloc (.cells #[.int .i64 lo, .int .i64 hi, .slice vra nr vrc, .slice vca nc2 vcc, .int .i64 sx, .slice va nn vc, .int .i64 pl] 100)).drew _) := HA1.out.below (Below.refl _ _).drew
          have HBX : Hid (Below wy.heap.size wy (wy.alloc (.cells #[.int .i64 lo, .int .i64 hi, .slice vra nr vrc, .slice vca nc2 vcc, .int .i64 sx, .slice va nn vc, .int .i64 pl] 100)).drew) := (below_alloc wy _).drew
          generalize hEB : wy.heap.size = EB at *
          clear HA1 x0 x1 x2 x3 x4 x5 x6
          refine wp_region_E [13] (S := fun X => X.cell? ⟨EB, 0, none⟩ = some (.int .i64 lo) ∧ X.cell? ⟨EB, 1, none⟩ = some (.int .i64 hi) ∧ X.cell? ⟨EB, 2, none⟩ = some (.slice vra nr vrc) ∧ X.cell? ⟨EB, 3, none⟩ = some (.slice vca nc2 vcc) ∧ X.cell? ⟨EB, 4, none⟩ = some (.int .i64 sx) ∧ X.cell? ⟨EB, 5, none⟩ = some (.slice va nn vc) ∧ X.cell? ⟨EB, 6, none⟩ = some (.int .i64 pl) ∧ X.cell? ⟨bm + 1, 4, none⟩ = some (.slice pa j pc)) (by kernel_rfl)
            ⟨HAX.out.cell (.head _) 0, HAX.out.cell (.head _) 1, HAX.out.cell (.head _) 2, HAX.out.cell (.head _) 3, HAX.out.cell (.head _) 4, HAX.out.cell (.head _) 5, HAX.out.cell (.head _) 6, HAX.out.cell (.tail _ (.head _)) 4⟩ (fun hS => ?_)
          generalize (wy.alloc (.cells #[.int .i64 lo, .int .i64 hi, .slice vra nr vrc, .slice vca nc2 vcc, .int .i64 sx, .slice va nn vc, .int .i64 pl] 100)).drew = X at *
          refine tk [0, 1, 2, 3, 4, 5, 6] ?_
          repeat (refine tkU (oi := ⟨_, _, _, _, _, _⟩) (v := ?_) rfl (by kernel_rfl) (by rfl) (fun _ _ _ h => h) hS ?_ ?_; rotate_left; (· rintro W' ⟨z0, z1, z2, z3, z4, z5, z6, z7⟩; go_simp; try with_reducible rfl); try simp only [Act.put, putA, putZ, putS])
          refine tk0 ?_
          refine wpAnyE_next (rs := [7]) (by kernel_rfl) (by simp) ?_
          refine NextE.cons (o := ⟨some 46, _, _, _, _, _⟩) rfl (fun K hK => ?_) NextE.nil
          go_simp
          refine (HCN.out X).mono ?_
          rintro _ X7 ⟨rfl, hX7⟩
          have HX7 := Lib.hid hX7
          clear hX7
          (try go_wp2_with fail)
          have HA7 := Lib.hid ((HAX.out.alloc #[.pointer (some ⟨bm + 1, 0, none⟩)] 114).alloc #[.int .i64 lo, .int .i64 hi, .slice vra nr vrc, .slice vca nc2 vcc, .int .i64 sx, .slice va nn vc, .int .i64 pl] 100)
          rw [World.size_alloc, ← HX7.out] at HA7
          have HB7 : Hid (Below EB wy X7) := by rw [HX7.out]; exact HBX.out.trans (((below_alloc X _).alloc (by simp) _).mono (by have := HBX.out.size; omega))
          clear HX7
          refine hK.out _ _ ⟨HA7.out.cell (.tail _ (.tail _ (.head _))) 0, HA7.out.cell (.tail _ (.tail _ (.head _))) 1, HA7.out.cell (.tail _ (.tail _ (.head _))) 2, HA7.out.cell (.tail _ (.tail _ (.head _))) 3, HA7.out.cell (.tail _ (.tail _ (.head _))) 4, HA7.out.cell (.tail _ (.tail _ (.head _))) 5, HA7.out.cell (.tail _ (.tail _ (.head _))) 6, HA7.out.cell (.tail _ (.tail _ (.tail _ (.head _)))) 4⟩ (fun hS => ?_)
          clear hK K
          try simp only [Act.put, putA, putZ, putS]
          generalize X.heap.size = WB at *
          refine wpAnyE_next (rs := [8]) (by kernel_rfl) (by simp) ?_
          refine NextE.cons (o := ⟨some 47, _, _, _, _, _⟩) rfl (fun K hK => ?_) NextE.nil
          go_simp
          refine (collect_any WB (WB + 1) nw (f.P j) X7 (by omega) (HCA.out X7 WB (WB + 1) HB7.out (HA7.out.cell (.tail _ (.head _)) 0) ⟨HA7.out.cell (.head _) 0, HA7.out.cell (.head _) 1, HA7.out.cell (.head _) 2, HA7.out.cell (.head _) 3, HA7.out.cell (.head _) 4, HA7.out.cell (.head _) 5, HA7.out.cell (.head _) 6⟩)).mono ?_
          rintro _ X8 ⟨v, rfl, hv, hb8⟩
          (try go_wp2_with fail)
          have HA8 := Lib.hid (HA7.out.below hb8)
          have HV8 := Lib.hid (own_mono (base' := w.heap.size) hv HA7.out.fr.size)
          have HB8 : Hid (Below EB wy X8) := HB7.out.trans (hb8.mono (by have := HB7.out.size; omega))
          obtain ⟨qa, qc, rfl⟩ := own_slice' hv
          clear hv hb8
          refine hK.out _ _ ⟨HA8.out.cell (.tail _ (.tail _ (.head _))) 0, HA8.out.cell (.tail _ (.tail _ (.head _))) 1, HA8.out.cell (.tail _ (.tail _ (.head _))) 2, HA8.out.cell (.tail _ (.tail _ (.head _))) 3, HA8.out.cell (.tail _ (.tail _ (.head _))) 4, HA8.out.cell (.tail _ (.tail _ (.head _))) 5, HA8.out.cell (.tail _ (.tail _ (.head _))) 6, HA8.out.cell (.tail _ (.tail _ (.tail _ (.head _)))) 4⟩ (fun hS => ?_)
          clear hK K
          try simp only [Act.put, putA, putZ, putS]
          refine wpAnyE_next (rs := [9]) (by kernel_rfl) (by simp) ?_
          refine NextE.cons (o := ⟨some 48, _, _, _, _, _⟩) rfl (fun K hK => ?_) NextE.nil
          go_simp
          have HA9 := Lib.hid (HA8.out.below (below_alloc X8 (.cells #[.slice qa (f.P j).length qc] 47)))
          have HV9 := Lib.hid (own_below HV8.out (below_alloc X8 (.cells #[.slice qa (f.P j).length qc] 47)))
          have HJ : Hid ((X8.alloc (.cells #[.slice qa (f.P j).length qc] 47)).heap[X8.heap.size]? = some (.cells #[.slice qa (f.P j).length qc] 47 (0, 0))) := heap_alloc_new _ _
          have HB9 : Hid (Below EB wy (X8.alloc (.cells #[.slice qa (f.P j).length qc] 47))) := HB8.out.trans ((below_alloc X8 _).mono (by have := HB8.out.size; omega))
          refine hK.out _ _ ⟨HA9.out.cell (.tail _ (.tail _ (.head _))) 0, HA9.out.cell (.tail _ (.tail _ (.head _))) 1, HA9.out.cell (.tail _ (.tail _ (.head _))) 2, HA9.out.cell (.tail _ (.tail _ (.head _))) 3, HA9.out.cell (.tail _ (.tail _ (.head _))) 4, HA9.out.cell (.tail _ (.tail _ (.head _))) 5, HA9.out.cell (.tail _ (.tail _ (.head _))) 6, HA9.out.cell (.tail _ (.tail _ (.tail _ (.head _)))) 4⟩ (fun hS => ?_)
          clear hK K
          try simp only [Act.put, putA, putZ, putS]
          generalize X8.heap.size = JB at *
          generalize X8.alloc (.cells #[.slice qa (f.P j).length qc] 47) = X9 at *
          refine wpAnyE_next (rs := [10]) (by kernel_rfl) (by simp) ?_
          refine NextE.cons (o := ⟨some 49, _, _, _, _, _⟩) rfl (fun K hK => ?_) NextE.nil
          have HWX : Hid (Below wy.heap.size wy X9) := by rw [hEB]; exact HB9.out
          have HR9 := Lib.hid (HR.out.below HWX.out)
          have HQ9 := Lib.hid (HQ.out.below HWX.out)
          refine step_append_src X9 (by rfl) (.tmp 43) (.tmp 48) 89 (by rfl) w.heap.size 47 i0 (.slice none 0 0) 1 24 Tryz.underlying89 hi0 hiz0 hiz1 hiz2 rfl (by decide) (.slice pa j pc) j ((List.range j).map svs) (by rfl) HR9.out.own (some ⟨JB, 0, none⟩) 1 1 [.slice qa (f.P j).length qc] (by rfl) ⟨rfl, fun jj u hu => ⟨_, rfl, World.news_of_block HJ.out jj u hu⟩⟩ (by simp [Value.oneCell']) (by unfold maxLen; omega) (by omega) HA9.out.fr.size ?_
          intro v2 X10 hown hgr _
          obtain ⟨pa2, pc2, rfl⟩ := own_slice' hown
          have HR10 := Lib.hid (HR.out.app HWX.out HV9.out hown hgr)
          have HQ10 := Lib.hid (HQ9.out.kept hgr (HQ9.out.ne_row HR9.out.own))
          have HA10 := Lib.hid (HA9.out.fro (Fr.grown hgr) (fun q hq e => by have := own_low HR9.out.own e; omega) (fun p hp => own_type_ne HR9.out.own (HA9.out.bk p.1 p.2.1 p.2.2 hp).2 (by
            simp only [List.mem_cons, List.not_mem_nil, or_false] at hp
            rcases hp with rfl | rfl | rfl | rfl | rfl <;> simp)))
          clear hown hgr HR9 HQ9 HWX HV9 HJ
          refine hK.out _ _ ⟨HA10.out.cell (.tail _ (.tail _ (.head _))) 0, HA10.out.cell (.tail _ (.tail _ (.head _))) 1, HA10.out.cell (.tail _ (.tail _ (.head _))) 2, HA10.out.cell (.tail _ (.tail _ (.head _))) 3, HA10.out.cell (.tail _ (.tail _ (.head _))) 4, HA10.out.cell (.tail _ (.tail _ (.head _))) 5, HA10.out.cell (.tail _ (.tail _ (.head _))) 6, HA10.out.cell (.tail _ (.tail _ (.tail _ (.head _)))) 4⟩ (fun hS => ?_)
          clear hK K
          try simp only [Act.put, putA, putZ, putS]
          refine tk [11, 12] ?_
          repeat (refine tkU (oi := ⟨_, _, _, _, _, _⟩) (v := ?_) rfl (by kernel_rfl) (by rfl) (fun _ _ _ h => h) hS ?_ ?_; rotate_left; (· rintro W' ⟨z0, z1, z2, z3, z4, z5, z6, z7⟩; go_simp; try with_reducible rfl); try simp only [Act.put, putA, putZ, putS])
          refine tk0 ?_
          refine wpAnyE_next (rs := [13]) (by kernel_rfl) (by simp) ?_
          refine NextE.skip (o := ⟨none, _, _, _, _, _⟩) rfl (by kernel_rfl) (fun K hK => ?_) NextE.nil
          have e0 := HA10.out.cell (.tail _ (.tail _ (.tail _ (.head _)))) 4
          have f0 := HA10.out.thaw (.tail _ (.tail _ (.tail _ (.head _)))) 4
          have HA11 := Lib.hid (BF.set1 (i := 4) (cs' := #[.slice (some ⟨b, off, none⟩) no oc, .slice na nw nc, .slice ma k mc, .map (some bm), .slice pa2 (j + 1) pc2]) HA10.out (.tail _ (.tail _ (.tail _ (.head _)))) (.slice pa2 (j + 1) pc2) (by simp) rfl (L' := [(w.heap.size, #[.slice (some ⟨b, off, none⟩) no oc, .slice na nw nc, .slice ma k mc], 33)]) (List.forall_mem_cons.2 ⟨⟨show w.heap.size ≠ bm + 1 by omega, (.tail _ (.tail _ (.tail _ (.tail _ (.head _)))))⟩, List.forall_mem_nil _⟩))
          have HT11 := Lib.hid (HA10.out.bk _ _ _ (.tail _ (.tail _ (.tail _ (.head _))))).2
          have HR11 := Lib.hid (HR10.out.fr (Fr.set X10 (bm + 1) 4 (.slice pa2 (j + 1) pc2)) (fun g cur hg _ e => by rw [e, HT11.out] at hg; cases hg) (fun g cur hg _ e => by rw [e, HT11.out] at hg; cases hg))
          have HQ11 := Lib.hid (HQ10.out.fr (Fr.set X10 (bm + 1) 4 (.slice pa2 (j + 1) pc2)) (by omega))
          go_simp
          refine hK.out _ _ ?_
          clear hK K e0 f0 hS HA10 HR10 HQ10 HT11
          try simp only [Act.put]
          refine wpAnyE_done (by kernel_rfl) ?_ _
          go_wp2_with fail
          go_roundw
          case rel => exact ⟨j + 1, pa2, pc2, _, by go_num, by omega, HA11.out, HQ11.out, HR11.out⟩
          case measure => simp [intOf]; omega
        · obtain rfl : j = no := by omega
          have HW : Hid (WkF wy (bm + 1) f) := HEND.out wy (bm + 1) ⟨oa, oc, na, nc, .slice ma k mc, .map (some bm), pa, pc⟩ ⟨HA.out.cell (.head _) 0, HA.out.cell (.head _) 1, HA.out.cell (.head _) 4, HR.out.rows⟩
          go_wp2_with fail
          go_ret2
          exact ⟨_, rfl, HW.out, HA.out.fr⟩
end Go.Proofs.YtgbdbikjckfgmaaGreat
