/- Age: persons, births, Same; the reference (turned from the Age seat) (7 of 8). -/
import Derived.Test.YtgbdbikjckfgmaaGreatWG
import Derived.Test.YtgbdbikjckfgmaaGreatPA
import Derived.Test.YtgbdbikjckfgmaaGreatPB
import Derived.Test.YtgbdbikjckfgmaaGreatPC
import Derived.Test.YtgbdbikjckfgmaaGreatPD
import Derived.Test.YtgbdbikjckfgmaaGreatPE
import Derived.Test.YtgbdbikjckfgmaaGreatPF
import Derived.BigQuiet
import Derived.Carry
import Derived.Deep.AppendLies
import Derived.Deep.DeepCutAuto
import Derived.Deep.DrawnRows
import Derived.Deep.MidRow
import Derived.Deep.QuietTactic
import Derived.Deep.RegionHeld3
import Derived.Deep.RegionLaw
import Derived.Deep.RegionLawGrows
import Derived.Deep.RegionWith
import Derived.Deep.Slices
import Derived.Deep.Strs
import Derived.Laws.EntriesVeiled
import Derived.Laws.Rows
import Derived.Laws.Tables
import Derived.Lib.Hide
import Derived.Lib.SliceRun
import Derived.Lib.SmallJoins
import Derived.LoopIn
import Derived.LoopNIn
import Derived.LoopTactic
import Derived.Maps.AppendAt
import Derived.OpenShut
import Derived.OrdersHeld
import Derived.OrdersIn
import Derived.Outline
import Derived.OwnWalkIn
import Derived.ProofKit
import Derived.RangeFuncBound
import Derived.RangeFuncCalls
import Derived.RangeFuncLeaves
import Derived.RangeFuncNested
import Derived.Shelf.Abstract
import Derived.Shelf.RegionOpen
import Derived.TacticsInMore
import Derived.WalkKit
import Derived.WalkLawsBesides
import Derived.WalkSpells
namespace Go.Proofs.YtgbdbikjckfgmaaGreat
open Go.ChangeShapes Go.WideShapes Go.ChangeAt Go.RowKit
instance : Inhabited Rl := ⟨⟨0, 0, 0, 0⟩⟩
instance : Inhabited Rc := ⟨⟨0, 0, 0⟩⟩
set_option maxRecDepth 100000 in
theorem open_person {H : Type} {enc : TypeId × Value → H} {W : World} {base : Nat} {v : Value} {d : DataW H} {p : List MemPlace} (hv : Value.okWide Tryz.prog W .any base 75 v) (h : DataW.Trod enc Tryz.prog W 0 (fun _ => true) true 75 v d p) :
    ∃ P : Pers, PersIn W v P ∧ P.nr ≤ maxLen ∧ P.nc ≤ maxLen := by
  obtain ⟨cs, rfl, hsz⟩ := okWide_struct Tryz.underlying75 hv
  obtain ⟨c0, c1, c2, c3, rfl⟩ := Go.Joins.array4 (hsz.trans (by kernel_rfl))
  obtain ⟨fuel, hf⟩ := h
  obtain ⟨y0, y1, y2, n, _, _, h0, h1, h2⟩ := Go.Deep.trod_struct3 Tryz.underlying75 hf
  have k32 : Tryz.prog.cellsOf 71 = 2 := by kernel_rfl
  have k33 : Tryz.prog.cellsOf 72 = 1 := by kernel_rfl
  have k34 : Tryz.prog.cellsOf 73 = 1 := by kernel_rfl
  have k1 : Tryz.prog.cellsOf 3 = 1 := by kernel_rfl
  simp only [Value.cells, k32, k33, k34, List.drop, List.take] at h0 h1 h2
  obtain ⟨z0, z1, m, _, _, g0, g1⟩ := trod_struct2 Tryz.underlying71 h0
  simp only [k1, List.drop, List.take] at g0 g1
  obtain ⟨lo, e0, _⟩ := DataW.trod_int Tryz.underlying3 g0
  obtain ⟨hi, e1, _⟩ := DataW.trod_int Tryz.underlying3 g1
  simp at e0 e1
  subst e0 e1
  obtain ⟨nr, R, hR, hr⟩ := open_rls h1
  obtain ⟨nc, C, hC, hc⟩ := open_rcs h2
  exact ⟨⟨lo, hi, nr, R, nc, C⟩, ⟨c2, c3, rfl, hR, hC⟩, hr, hc⟩
end Go.Proofs.YtgbdbikjckfgmaaGreat
namespace Go.Proofs.YtgbdbikjckfgmaaGreat
def foldG (day : Int) : RL → RL
  | [] => []
  | x :: l => ext (foldG day l) (day - 365 * x.2 - 364) (day - 365 * x.1)
theorem foldR_map (day : Int) (xs : List BR) : foldR day xs = foldG day (xs.map (·.1)).reverse := by
  unfold foldR
  rw [List.foldl_eq_foldr_reverse, ← List.map_reverse]
  induction xs.reverse with
  | nil => rfl
  | cons x l ih => rw [List.foldr_cons, List.map_cons, foldG, ← ih]
theorem yearsL_map {l : RL} (h : ∀ r ∈ l, -1000000 ≤ r.1 ∧ r.1 ≤ 1000000 ∧ -1000000 ≤ r.2 ∧ r.2 ≤ 1000000) : ((yearsL l).map (·.1)).reverse = l := by
  apply List.ext_getElem
  · simp [yearsL, down]
  · intro i h1 h2
    simp only [yearsL, down, List.map_map, List.getElem_reverse, List.getElem_map, List.getElem_range, Function.comp, List.length_map, List.length_range]
    rw [show l.length - 1 - (l.length - 1 - i) = i by omega]
    exact brAt_val h i h2
theorem foldG_low (day : Int) {l : RL} {B : Int} (h : ∀ s ∈ l, day - 365 * s.2 - 364 ≤ B) : ∀ r ∈ foldG day l, r.1 ≤ B := by
  induction l with
  | nil => simp [foldG]
  | cons x l ih =>
    rw [foldG]
    exact ext_mem_low (ih fun s hs => h s (List.mem_cons_of_mem _ hs)) (h x List.mem_cons_self)
theorem foldG_facts (day : Int) {l : RL} (h : Nrm l) : Nrm (foldG day l) ∧ ∀ n, hasR (foldG day l) n = hasR l ((day - n) / 365) := by
  induction l with
  | nil => exact ⟨Nrm.nil, fun n => rfl⟩
  | cons x l ih =>
    obtain ⟨hx, hlt, hl⟩ := (Nrm.cons_iff x l).1 h
    obtain ⟨i1, i2⟩ := ih hl
    obtain ⟨e1, e2⟩ := ext_facts i1 (lo := day - 365 * x.2 - 364) (hi := day - 365 * x.1) (by omega) (foldG_low day fun s hs => by have := hlt s hs; have := hl.2 s hs; omega)
    refine ⟨e1, fun n => ?_⟩
    rw [foldG, e2, i2, hasR_cons, Bool.or_comm]
    congr 1
    rw [Bool.eq_iff_iff]
    simp only [Bool.and_eq_true, decide_eq_true_eq]
    omega
/-- Record j allows the day of birth b. -/
def Pers.okB (p : Pers) (j : Nat) (b : Int) : Bool := decide (b ≤ (p.C j).day) && decide (((p.C j).day - b) / 365 ≤ 120) && agesF (p.rl j).f (p.rl j).b (p.rl j).m (p.rl j).e (p.C j).num 126 (((p.C j).day - b) / 365).toNat
theorem allow_facts (p : Pers) (j : Nat) : Nrm (p.allow j) ∧ ∀ n, hasR (p.allow j) n = p.okB j n := by
  unfold Pers.allow
  obtain ⟨r1, r2, r3⟩ := rngs_facts (agesF (p.rl j).f (p.rl j).b (p.rl j).m (p.rl j).e (p.C j).num 126) 121
  have hb : ∀ r ∈ ageRs (p.rl j).f (p.rl j).b (p.rl j).m (p.rl j).e (p.C j).num, -1000000 ≤ r.1 ∧ r.1 ≤ 1000000 ∧ -1000000 ≤ r.2 ∧ r.2 ≤ 1000000 := fun r hr => by
    have h1 := rngs_bd _ _ r hr
    have h2 := rngs_bd1 _ _ r hr
    omega
  rw [foldR_map, yearsL_map hb]
  obtain ⟨g1, g2⟩ := foldG_facts (p.C j).day (l := ageRs (p.rl j).f (p.rl j).b (p.rl j).m (p.rl j).e (p.C j).num) r1
  refine ⟨g1, fun n => ?_⟩
  rw [g2]
  unfold ageRs Pers.okB
  rw [r3]
  congr 1
  rw [Bool.eq_iff_iff]
  simp only [Bool.and_eq_true, decide_eq_true_eq]
  omega
theorem daysL_has (p : Pers) (out : Int → Bool) (h : p.lo ≤ p.hi) (k : Nat) : Nrm (daysL p out k) ∧ ∀ n, hasR (daysL p out k) n = true ↔ p.lo ≤ n ∧ n ≤ p.hi ∧ ∀ j : Nat, j < k → out j = true ∨ p.okB j n = true := by
  induction k with
  | zero =>
    refine ⟨(Nrm.cons_iff _ _).2 ⟨h, by simp, Nrm.nil⟩, fun n => ?_⟩
    simp [daysL, hasR]
  | succ k ih =>
    obtain ⟨i1, i2⟩ := ih
    rw [daysL]
    by_cases ho : out k = true
    · rw [if_pos ho]
      refine ⟨i1, fun n => ?_⟩
      rw [i2]
      constructor
      · rintro ⟨a, b, c⟩
        refine ⟨a, b, fun j hj => ?_⟩
        rcases Nat.lt_succ_iff_lt_or_eq.1 hj with h | rfl
        · exact c j h
        · exact .inl ho
      · rintro ⟨a, b, c⟩
        exact ⟨a, b, fun j hj => c j (by omega)⟩
    · rw [if_neg ho]
      obtain ⟨a1, a2⟩ := allow_facts p k
      refine ⟨meetL_nrm i1 a1, fun n => ?_⟩
      rw [meetL_has i1 a1, Bool.and_eq_true, i2, a2]
      constructor
      · rintro ⟨⟨a, b, c⟩, d⟩
        refine ⟨a, b, fun j hj => ?_⟩
        rcases Nat.lt_succ_iff_lt_or_eq.1 hj with h | rfl
        · exact c j h
        · exact .inr d
      · rintro ⟨a, b, c⟩
        refine ⟨⟨a, b, fun j hj => c j (by omega)⟩, ?_⟩
        rcases c k (by omega) with h | h
        · exact absurd h ho
        · exact h
theorem Pers.ordered {p : Pers} (h : p.fault = 0) : p.lo ≤ p.hi := by
  obtain ⟨n4, n8, n0, l1, l2, l3, l4, l5, okR, okC⟩ := Pers.ok_facts h
  omega
/-- The possible days of birth. -/
theorem born_has {p : Pers} (h : p.fault = 0) : Nrm p.born ∧ ∀ n, hasR p.born n = true ↔ p.lo ≤ n ∧ n ≤ p.hi ∧ ∀ j : Nat, j < p.nc → p.okB j n = true := by
  unfold Pers.born Pers.days
  rw [if_pos h]
  obtain ⟨h1, h2⟩ := daysL_has p (fun _ => false) (Pers.ordered h) p.nc
  refine ⟨h1, fun n => ?_⟩
  rw [h2]
  simp
end Go.Proofs.YtgbdbikjckfgmaaGreat
namespace Go.Proofs.YtgbdbikjckfgmaaGreat
def castL (ks : List Nat) : List Int := ks.map Int.ofNat
theorem castL_length (ks : List Nat) : (castL ks).length = ks.length := by simp [castL]
/-- The records that do not allow a day. -/
def Pers.denies (p : Pers) (b : Int) : List Nat := (List.range p.nc).filter fun j => !p.okB j b
end Go.Proofs.YtgbdbikjckfgmaaGreat
namespace Go.Proofs.YtgbdbikjckfgmaaGreat
/-- x is p with one more record. -/
def Pers.MoreOf (x p : Pers) : Prop := x.lo = p.lo ∧ x.hi = p.hi ∧ x.nr = p.nr ∧ x.R = p.R ∧ x.nc = p.nc + 1 ∧ ∀ j, j < p.nc → x.C j = p.C j
theorem MoreOf.okB {x p : Pers} (h : x.MoreOf p) {j : Nat} (hj : j < p.nc) (b : Int) : x.okB j b = p.okB j b := by
  obtain ⟨_, _, _, h4, _, h6⟩ := h
  unfold Pers.okB Pers.rl
  rw [h4, h6 j hj]
end Go.Proofs.YtgbdbikjckfgmaaGreat
namespace Go.Proofs.YtgbdbikjckfgmaaGreat
def Rc.later (n : Int) (r : Rc) : Rc := ⟨r.day + n, r.rule, r.num⟩
/-- x is p, later by n days. -/
def Pers.LaterOf (x p : Pers) (n : Int) : Prop := x.lo = p.lo + n ∧ x.hi = p.hi + n ∧ x.nr = p.nr ∧ x.R = p.R ∧ x.nc = p.nc ∧ ∀ j, j < p.nc → x.C j = (p.C j).later n
theorem LaterOf.okB {x p : Pers} {n : Int} (h : x.LaterOf p n) {j : Nat} (hj : j < p.nc) (b : Int) : x.okB j b = p.okB j (b - n) := by
  obtain ⟨_, _, _, h4, _, h6⟩ := h
  unfold Pers.okB Pers.rl
  rw [h4, h6 j hj]
  show (decide (b ≤ (p.C j).day + n) && decide (((p.C j).day + n - b) / 365 ≤ 120) && agesF _ _ _ _ _ 126 (((p.C j).day + n - b) / 365).toNat) = _
  rw [show (p.C j).day + n - b = (p.C j).day - (b - n) from by omega, show decide (b ≤ (p.C j).day + n) = decide (b - n ≤ (p.C j).day) from by rw [Bool.eq_iff_iff]; simp only [decide_eq_true_eq]; omega]
  rfl
end Go.Proofs.YtgbdbikjckfgmaaGreat
namespace Go.Proofs.YtgbdbikjckfgmaaGreat
/-- The records that are not left out, of the first k. -/
def Pers.kept (p : Pers) (out : Nat → Bool) (k : Nat) : List Rc := ((List.range k).filter fun j => !out j).map p.C
end Go.Proofs.YtgbdbikjckfgmaaGreat
namespace Go.Proofs.YtgbdbikjckfgmaaGreat
open Go.RowKit Go.Shelf
def sharedE (p q : Pers) : Int := if p.fault = 0 then q.fault else p.fault
def sharedL (p q : Pers) : RL := if p.fault = 0 ∧ q.fault = 0 then meetL p.born q.born else []
theorem sharedL_length (p q : Pers) : (sharedL p q).length ≤ 2000 := by
  unfold sharedL
  split
  · have := meetL_length _ p.born q.born (Nat.le_refl _)
    have := born_length p
    have := born_length q
    omega
  · simp
set_option maxRecDepth 100000 in
set_option maxHeartbeats 2000000 in
theorem shared_any (v u : Value) (p q : Pers) (w : World) (h : PersAt w v p) (k : PersAt w u q) (hn : p.nr ≤ 100000) (hc : p.nc ≤ 100000) (kn : q.nr ≤ 100000) (kc : q.nc ≤ 100000) :
    Calls Tryz.prog 155 #[v, u] w (GivesE w w.heap.size (sharedL p q) (sharedE p q)) := by
  obtain ⟨rv, cv, rfl⟩ := h.agg
  obtain ⟨ru, cu, rfl⟩ := k.agg
  have HP := Lib.hid h; have HQ := Lib.hid k; clear h k
  have HB0 : Hid (Below w.heap.size w ((w.alloc (.cells #[.int .i64 p.lo, .int .i64 p.hi, rv, cv] 98)).alloc (.cells #[.int .i64 q.lo, .int .i64 q.hi, ru, cu] 98))) := (below_alloc _ _).alloc (by simp) _
  have HK0 : Hid (((w.alloc (.cells #[.int .i64 p.lo, .int .i64 p.hi, rv, cv] 98)).alloc (.cells #[.int .i64 q.lo, .int .i64 q.hi, ru, cu] 98)).heap[w.heap.size + 1]? = some (.cells #[.int .i64 q.lo, .int .i64 q.hi, ru, cu] 98 (0, 0))) := by
    have := heap_alloc_new (w.alloc (.cells #[.int .i64 p.lo, .int .i64 p.hi, rv, cv] 98)) (.cells #[.int .i64 q.lo, .int .i64 q.hi, ru, cu] 98)
    rw [World.size_alloc] at this; exact this
  by_cases hp : p.fault = 0
  · have hpn : (p.fault != 0) = false := by simp [hp]
    have HPF := Lib.hid hp; clear hp
    go_enter Tryz.func155, Tryz.ntmps155
    go_wp2_with fail
    refine (births_any _ p _ (HP.out.below HB0.out) hn hc).mono ?_
    rintro _ w1 ⟨v1, rfl, hr1, hb1⟩
    have HR1 := Lib.hid hr1
    have HB1 : Hid (Below w.heap.size w w1) := below_step HB0.out hb1
    have HK1 : Hid (w1.heap[w.heap.size + 1]? = some (.cells #[.int .i64 q.lo, .int .i64 q.hi, ru, cu] 98 (0, 0))) := (hb1.block _ (by simp)).trans HK0.out
    have d0 : w1.cell? ⟨w.heap.size + 1, 0, none⟩ = some (.int .i64 q.lo) := cell_of_row _ _ 0 _ _ _ HK1.out
    have d1 : w1.cell? ⟨w.heap.size + 1, 1, none⟩ = some (.int .i64 q.hi) := cell_of_row _ _ 1 _ _ _ HK1.out
    have d2 : w1.cell? ⟨w.heap.size + 1, 2, none⟩ = some ru := cell_of_row _ _ 2 _ _ _ HK1.out
    have d3 : w1.cell? ⟨w.heap.size + 1, 3, none⟩ = some cu := cell_of_row _ _ 3 _ _ _ HK1.out
    clear hr1 hb1 HK0 HB0
    go_wp2_with fail
    refine (births_any _ q _ (HQ.out.below HB1.out) kn kc).mono ?_
    rintro _ w2 ⟨v2, rfl, hr2, hb2⟩
    have HB2 : Hid (Below w.heap.size w w2) := below_step HB1.out hb2
    have HA := Lib.hid (HR1.out.rg.kept hb2); have HBB := Lib.hid hr2.rg
    have hl1 := born_length p; have hl2 := born_length q
    have hs2 := HB2.out.size
    clear hr2 hb2 d0 d1 d2 d3
    by_cases hq : q.fault = 0
    · have hqn : (q.fault != 0) = false := by simp [hq]
      have HE : Hid (sharedE p q = 0) := by unfold Hid sharedE; rw [if_pos HPF.out, hq]
      have HL : Hid (sharedL p q = meetL p.born q.born) := by unfold Hid sharedL; rw [if_pos ⟨HPF.out, hq⟩]
      clear hq
      go_wp2_with fail
      refine (meet_any _ _ _ _ _ HA.out HBB.out (by omega) (by omega)).mono ?_
      rintro _ w3 ⟨v3, rfl, hr3, hb3⟩
      go_wp2
      go_ret2
      exact ⟨v3, ret_err HE.out.symm, by rw [HL.out]; exact hr3.mono hs2, HB2.out.trans (hb3.mono hs2)⟩
    · have hqn : (q.fault != 0) = true := by simp [hq]
      have HE : Hid (sharedE p q = q.fault) := by unfold Hid sharedE; rw [if_pos HPF.out]
      have HL : Hid (sharedL p q = []) := by unfold Hid sharedL; rw [if_neg (fun h => hq h.2)]
      clear hq
      go_wp2
      go_ret2
      exact ⟨_, ret_err HE.out.symm, by rw [HL.out]; exact RS.nil _ _, HB2.out⟩
  · have hpn : (p.fault != 0) = true := by simp [hp]
    have HE : Hid (sharedE p q = p.fault) := by unfold Hid sharedE; rw [if_neg hp]
    have HL : Hid (sharedL p q = []) := by unfold Hid sharedL; rw [if_neg (fun h => hp h.1)]
    clear hp
    go_enter Tryz.func155, Tryz.ntmps155
    go_wp2_with fail
    refine (births_any _ p _ (HP.out.below HB0.out) hn hc).mono ?_
    rintro _ w1 ⟨v1, rfl, hr1, hb1⟩
    have HB1 : Hid (Below w.heap.size w w1) := below_step HB0.out hb1
    clear hr1 hb1
    go_wp2
    go_ret2
    exact ⟨_, ret_err HE.out.symm, by rw [HL.out]; exact RS.nil _ _, HB1.out⟩
set_option maxRecDepth 100000 in
set_option maxHeartbeats 2000000 in
theorem same_any (v u : Value) (p q : Pers) (w : World) (h : PersAt w v p) (k : PersAt w u q) (hn : p.nr ≤ 100000) (hc : p.nc ≤ 100000) (kn : q.nr ≤ 100000) (kc : q.nc ≤ 100000) :
    Calls Tryz.prog 154 #[v, u] w fun e w' => e = .returned (.tuple #[.bool (decide (0 < (sharedL p q).length)), .int .i64 (sharedE p q)]) ∧ Below w.heap.size w w' := by
  obtain ⟨rv, cv, rfl⟩ := h.agg
  obtain ⟨ru, cu, rfl⟩ := k.agg
  have HP := Lib.hid h; have HQ := Lib.hid k; clear h k
  have HB0 : Hid (Below w.heap.size w ((w.alloc (.cells #[.int .i64 p.lo, .int .i64 p.hi, rv, cv] 98)).alloc (.cells #[.int .i64 q.lo, .int .i64 q.hi, ru, cu] 98))) := (below_alloc _ _).alloc (by simp) _
  go_enter Tryz.func154, Tryz.ntmps154
  go_wp2_with fail
  refine (shared_any _ _ p q _ (HP.out.below HB0.out) (HQ.out.below HB0.out) hn hc kn kc).mono ?_
  rintro _ w1 ⟨v1, rfl, hr1, hb1⟩
  have HB1 : Hid (Below w.heap.size w w1) := below_step HB0.out hb1
  have hlen := sharedL_length p q
  obtain ⟨a1, c1, rfl⟩ := hr1.slice
  clear hr1 hb1
  generalize hgn : (sharedL p q).length = n at *
  have HGN := Lib.hid hgn; clear hgn
  go_wp2
  go_ret2
  exact ⟨by rw [HGN.out]; simp, HB1.out⟩
end Go.Proofs.YtgbdbikjckfgmaaGreat
namespace Go.Proofs.YtgbdbikjckfgmaaGreat
def meetO (x : Int × Int) (y : Int × Int) : RL := if max x.1 y.1 ≤ min x.2 y.2 then [(max x.1 y.1, min x.2 y.2)] else []
def meetX (x : Int × Int) (b : RL) : RL := b.flatMap (meetO x)
def meetP (a b : RL) : RL := a.flatMap fun x => meetX x b
theorem meetX_nil (x : Int × Int) : meetX x [] = [] := rfl
theorem meetX_cons (x y : Int × Int) (b : RL) : meetX x (y :: b) = meetO x y ++ meetX x b := rfl
theorem meetP_cons (x : Int × Int) (a b : RL) : meetP (x :: a) b = meetX x b ++ meetP a b := rfl
theorem meetO_in {x y r : Int × Int} (h : r ∈ meetO x y) : r.1 ≤ r.2 ∧ x.1 ≤ r.1 ∧ r.2 ≤ x.2 ∧ y.1 ≤ r.1 ∧ r.2 ≤ y.2 := by
  unfold meetO at h
  split at h
  · rw [List.mem_singleton] at h; subst h; simp only; omega
  · cases h
theorem meetX_in {x r : Int × Int} {b : RL} (h : r ∈ meetX x b) : ∃ y ∈ b, r ∈ meetO x y := by
  unfold meetX at h
  rw [List.mem_flatMap] at h
  exact h
theorem meetO_has (x y : Int × Int) (n : Int) : hasR (meetO x y) n = ((decide (x.1 ≤ n) && decide (n ≤ x.2)) && (decide (y.1 ≤ n) && decide (n ≤ y.2))) := by
  unfold meetO
  split
  · rw [hasR_cons, hasR_nil, Bool.or_false, Bool.eq_iff_iff]
    simp only [Bool.and_eq_true, decide_eq_true_eq]
    omega
  · rw [hasR_nil, eq_comm, ← Bool.not_eq_true]
    simp only [Bool.and_eq_true, decide_eq_true_eq]
    omega
theorem meetX_facts (x : Int × Int) {b : RL} (hb : Nrm b) : Nrm (meetX x b) ∧ ∀ n, hasR (meetX x b) n = ((decide (x.1 ≤ n) && decide (n ≤ x.2)) && hasR b n) := by
  induction b with
  | nil => exact ⟨Nrm.nil, fun n => by simp [meetX_nil, hasR_nil]⟩
  | cons y b ih =>
    obtain ⟨hy, hlt, hb'⟩ := (Nrm.cons_iff y b).1 hb
    obtain ⟨i1, i2⟩ := ih hb'
    rw [meetX_cons]
    constructor
    · refine ⟨List.pairwise_append.2 ⟨?_, i1.1, fun r hr s hs => ?_⟩, fun r hr => ?_⟩
      · unfold meetO; split <;> simp
      · obtain ⟨z, hz, hs⟩ := meetX_in hs
        have := meetO_in hr; have := meetO_in hs; have := hlt z hz
        omega
      · rcases List.mem_append.1 hr with hr | hr
        · exact (meetO_in hr).1
        · exact i1.2 r hr
    · intro n
      rw [hasR_append, meetO_has, i2, hasR_cons, Bool.and_or_distrib_left]
theorem meetP_facts {a b : RL} (ha : Nrm a) (hb : Nrm b) : Nrm (meetP a b) ∧ ∀ n, hasR (meetP a b) n = (hasR a n && hasR b n) := by
  induction a with
  | nil => exact ⟨Nrm.nil, fun n => rfl⟩
  | cons x a ih =>
    obtain ⟨hx, hlt, ha'⟩ := (Nrm.cons_iff x a).1 ha
    obtain ⟨i1, i2⟩ := ih ha'
    obtain ⟨x1, x2⟩ := meetX_facts x hb
    rw [meetP_cons]
    constructor
    · refine ⟨List.pairwise_append.2 ⟨x1.1, i1.1, fun r hr s hs => ?_⟩, fun r hr => ?_⟩
      · obtain ⟨y, _, hr⟩ := meetX_in hr
        unfold meetP at hs
        obtain ⟨z, hz, hs⟩ := List.mem_flatMap.1 hs
        obtain ⟨u, _, hs⟩ := meetX_in hs
        have := meetO_in hr; have := meetO_in hs; have := hlt z hz
        omega
      · rcases List.mem_append.1 hr with hr | hr
        · exact x1.2 r hr
        · exact i1.2 r hr
    · intro n
      rw [hasR_append, x2, i2, hasR_cons, Bool.and_or_distrib_right]
theorem meetP_eq {a b : RL} (ha : Nrm a) (hb : Nrm b) : meetP a b = meetL a b := by
  obtain ⟨h1, h2⟩ := meetP_facts ha hb
  exact Nrm.ext h1 (meetL_nrm ha hb) fun n => by rw [h2, meetL_has ha hb]
theorem meetO_length (x y : Int × Int) : (meetO x y).length ≤ 1 := by unfold meetO; split <;> simp
theorem meetX_length (x : Int × Int) (b : RL) : (meetX x b).length ≤ b.length := by
  induction b with
  | nil => simp [meetX_nil]
  | cons y b ih => rw [meetX_cons, List.length_append, List.length_cons]; have := meetO_length x y; omega
theorem meetP_length (a b : RL) : (meetP a b).length ≤ a.length * b.length := by
  induction a with
  | nil => simp [meetP]
  | cons x a ih => rw [meetP_cons, List.length_append, List.length_cons, Nat.add_mul]; have := meetX_length x b; omega
/-- After some of the rounds. -/
def meetT (a b : RL) (i k : Nat) : RL := meetP (a.take i) b ++ (match a[i]? with | some x => meetX x (b.take k) | none => [])
theorem meetT_zero (a b : RL) (i : Nat) : meetT a b i 0 = meetP (a.take i) b := by
  unfold meetT
  cases a[i]? <;> simp [meetX]
theorem meetT_next {a b : RL} {i k : Nat} (hi : i < a.length) (hk : k < b.length) : meetT a b i (k + 1) = meetT a b i k ++ meetO a[i] b[k] := by
  unfold meetT
  rw [List.getElem?_eq_getElem hi]
  simp only [List.append_assoc]
  congr 1
  rw [List.take_succ_eq_append_getElem hk]
  unfold meetX
  rw [List.flatMap_append]
  simp
theorem meetT_row {a b : RL} {i : Nat} (hi : i < a.length) : meetT a b i b.length = meetP (a.take (i + 1)) b := by
  unfold meetT
  rw [List.getElem?_eq_getElem hi, List.take_length, List.take_succ_eq_append_getElem hi]
  unfold meetP
  rw [List.flatMap_append]
  simp
theorem meetT_length {a b : RL} {i k : Nat} (ha : a.length ≤ 1000) (hb : b.length ≤ 1000) : (meetT a b i k).length ≤ 1002000 := by
  unfold meetT
  have h1 := meetP_length (a.take i) b
  have h2 : (a.take i).length ≤ 1000 := by rw [List.length_take]; omega
  have h3 : (a.take i).length * b.length ≤ 1000 * 1000 := Nat.mul_le_mul h2 hb
  rw [List.length_append]
  cases a[i]? with
  | none => simp; omega
  | some x =>
    have h4 := meetX_length x (b.take k)
    have h5 : (b.take k).length ≤ 1000 := by rw [List.length_take]; omega
    show _ + (meetX x (b.take k)).length ≤ _
    omega
end Go.Proofs.YtgbdbikjckfgmaaGreat
namespace Go.Proofs.YtgbdbikjckfgmaaGreat
open Go.RowKit Go.Shelf
def alw (fl : Nat → Bool) (day b : Int) : Bool := decide (b ≤ day) && decide ((day - b) / 365 ≤ 120) && fl ((day - b) / 365).toNat
set_option maxRecDepth 100000 in
set_option maxHeartbeats 2000000 in
theorem allows_any (day rule num : Int) (fl : Nat → Bool) (b : Int) (w : World) (h0 : -50000 ≤ day) (h1 : day ≤ 50000) (h2 : -50000 ≤ b) (h3 : b ≤ 50000) :
    Calls Tryz.prog 143 #[.agg #[.int .i64 day, .int .i64 rule, .int .i64 num], .agg (flagsA fl), .int .i64 b] w fun e w' => e = .returned (.bool (alw fl day b)) ∧ Below w.heap.size w w' := by
  have HB : Hid (Below w.heap.size w ((w.alloc (.cells #[.int .i64 day, .int .i64 rule, .int .i64 num] 140)).alloc (.cells (flagsA fl) 181))) := (below_alloc _ _).alloc (by simp) _
  have hblk : ((w.alloc (.cells #[.int .i64 day, .int .i64 rule, .int .i64 num] 140)).alloc (.cells (flagsA fl) 181)).heap[w.heap.size + 1]? = some (.cells (flagsA fl) 181 (0, 0)) := by
    have := heap_alloc_new (w.alloc (.cells #[.int .i64 day, .int .i64 rule, .int .i64 num] 140)) (.cells (flagsA fl) 181)
    rw [World.size_alloc] at this; exact this
  by_cases hb : b ≤ day
  · have hq0 : 0 ≤ (day - b) / 365 := Int.ediv_nonneg (by omega) (by omega)
    by_cases hq : (day - b) / 365 ≤ 120
    · have HA : Hid (alw fl day b = fl ((day - b) / 365).toNat) := by unfold Hid alw; simp [hb, hq]
      have hcell : ((w.alloc (.cells #[.int .i64 day, .int .i64 rule, .int .i64 num] 140)).alloc (.cells (flagsA fl) 181)).cell? ⟨w.heap.size + 1, ((day - b) / 365).toNat, none⟩ = some (.bool (fl ((day - b) / 365).toNat)) := by
        rw [cell_of_row _ _ _ _ _ _ hblk]; exact flagsA_get fl _ (by omega)
      have hn : (((day - b) / 365).toNat : Int) = (day - b) / 365 := by omega
      have hq1 : (day - b) / 365 < 121 := by omega
      clear hblk hn
      go_enter Tryz.func143, Tryz.ntmps143
      go_wp2_with (with_reducible refine wpList_box_row (o := ⟨some 4, .box 181 (.tmp 1), _, _, _, _⟩) rfl 181 (.tmp 1) rfl (flagsA fl) ?bx0 ?_)
      case bx0 => rfl
      go_ret
      exact ⟨ret_bool HA.out.symm, HB.out⟩
    · have HA : Hid (alw fl day b = false) := by unfold Hid alw; simp [hq]
      clear hblk
      go_enter Tryz.func143, Tryz.ntmps143
      go_wp2
      go_ret
      exact ⟨ret_bool HA.out.symm, HB.out⟩
  · have HA : Hid (alw fl day b = false) := by unfold Hid alw; simp [hb]
    clear hblk
    go_enter Tryz.func143, Tryz.ntmps143
    go_wp2
    go_ret
    exact ⟨ret_bool HA.out.symm, HB.out⟩
end Go.Proofs.YtgbdbikjckfgmaaGreat
namespace Go.Proofs.YtgbdbikjckfgmaaGreat
open Go.RowKit Go.Shelf
def Pers.fl (p : Pers) (j : Nat) : Nat → Bool := agesF (p.rl j).f (p.rl j).b (p.rl j).m (p.rl j).e (p.C j).num 126
theorem flagsL_length (fl : Nat → Bool) : (flagsL fl).length = 121 := by simp [flagsL]
theorem flagsA_list (fl : Nat → Bool) : (flagsA fl).toList = flagsL fl := rfl
theorem flagsL_one (fl : Nat → Bool) : ∀ u ∈ flagsL fl, u.oneCell' = true := by
  intro u hu
  obtain ⟨i, hi, rfl⟩ := List.getElem_of_mem hu
  simp [flagsL, Value.oneCell']
def flatF (F : Nat → Nat → Bool) (k : Nat) : List Value := (List.range k).flatMap fun j => flagsL (F j)
theorem flatF_succ (F : Nat → Nat → Bool) (k : Nat) : flatF F (k + 1) = flatF F k ++ flagsL (F k) := by simp [flatF, List.range_succ]
theorem flatF_length (F : Nat → Nat → Bool) (k : Nat) : (flatF F k).length = k * 121 := by
  induction k with
  | zero => rfl
  | succ k ih => rw [flatF_succ, List.length_append, ih, flagsL_length]; omega
theorem flatF_get (F : Nat → Nat → Bool) (k j i : Nat) (hj : j < k) (hi : i < 121) : (flatF F k)[j * 121 + i]? = (flagsL (F j))[i]? := by
  induction k with
  | zero => omega
  | succ k ih =>
    rw [flatF_succ]
    by_cases h : j < k
    · rw [List.getElem?_append_left (by rw [flatF_length]; omega)]; exact ih h
    · obtain rfl : j = k := by omega
      rw [List.getElem?_append_right (by rw [flatF_length]; omega), flatF_length]
      congr 1; omega
/-- A slice of true ages. -/
def FlagsAt (w : World) (v : Value) (F : Nat → Nat → Bool) (n : Nat) : Prop :=
  (v = .slice none 0 0 ∧ n = 0) ∨ ∃ g cap, v = .slice (some ⟨g, 0, none⟩) n cap ∧ g < w.heap.size ∧ ∀ j, j < n → w.rangeAt g (j * 121) (flagsL (F j))
theorem FlagsAt.slice {w : World} {v : Value} {F : Nat → Nat → Bool} {n : Nat} (h : FlagsAt w v F n) : ∃ a c, v = .slice a n c := by
  rcases h with ⟨rfl, rfl⟩ | ⟨g, cap, rfl, _⟩
  · exact ⟨_, _, rfl⟩
  · exact ⟨_, _, rfl⟩
theorem FlagsAt.below {w w' : World} {v : Value} {F : Nat → Nat → Bool} {n : Nat} (h : FlagsAt w v F n) (hb : Below w.heap.size w w') : FlagsAt w' v F n := by
  rcases h with h | ⟨g, cap, rfl, hg, hr⟩
  · exact .inl h
  · exact .inr ⟨g, cap, rfl, Nat.lt_of_lt_of_le hg hb.size, fun j hj i u hu => kept hb hg (hr j hj i u hu)⟩
theorem flags_of_own {w : World} {base : Nat} {v : Value} {F : Nat → Nat → Bool} {n : Nat} (h : w.ownsRow base 181 121 v n (flatF F n)) : FlagsAt w v F n := by
  have h0 := h
  rcases h.2 with ⟨rfl, hl⟩ | ⟨g, cap, cur, rfl, _, hc, _⟩
  · exact .inl ⟨rfl, hl⟩
  · refine .inr ⟨g, cap, rfl, (Array.getElem?_eq_some_iff.1 hc).1, fun j hj i u hu => ?_⟩
    have hi : i < 121 := by have := (List.getElem?_eq_some_iff.1 hu).1; rwa [flagsL_length] at this
    rw [h0.cellAt _ (by omega), flatF_get F n j i hj hi]
    exact hu
theorem Tryz.infoFlags : (Tryz.prog.info? 181).map (fun i => (i.zero, i.size, i.bytes)) = some (some (.agg (flagsA fun _ => false)), 121, 121) := by kernel_rfl
theorem Tryz.sizeFlags : (Tryz.prog.info? 181).map (·.size) = some 121 := by kernel_rfl
/-- A slice of one row of flags. -/
theorem run_build_flags (fl : Nat → Bool) (W : World) : (Instr.buildSlice 161 1 #[(0, .agg (flagsA fl))]).run Tryz.prog W = .ok (.slice (some ⟨W.heap.size, 0, none⟩) 1 1) (W.alloc (.cells (flagsA fl) 181)) := by kernel_rfl
theorem step_build_flags {ops : Array Oper} {o : Oper} {a : Act} {w : World} {K : Act → World → Prop} {Q : Exit → Act → World → Prop} {E : Prop} (hgd : o.guard = none) (x : Operand)
    (ho : o.op = .buildSlice 161 1 #[(0, x)]) (fl : Nat → Bool) (hx : a.eval x = .agg (flagsA fl))
    (h : K (a.put o.dst (.slice (some ⟨w.heap.size, 0, none⟩) 1 1)) (w.alloc (.cells (flagsA fl) 181))) : if Region.wanted o (yielded ops a.tmps) = true then Oper.wp Tryz.prog o a w K Q else E := by
  have hw : Region.wanted o (yielded ops a.tmps) = true := by simp [Region.wanted, hgd]
  rw [if_pos hw]
  unfold Oper.wp execOp
  simp only [ho, List.map_toArray, List.map_cons, List.map_nil, hx, Sem.run_bind, run_build_flags, Result.andThen_ok]
  exact h
attribute [local go_sem ↓] Go.wp_at_zero Go.wp_at_succ
set_option maxRecDepth 100000 in
set_option maxHeartbeats 8000000 in
theorem refAges_any (v : Value) (p : Pers) (w : World) (h : PersIn w v p) (hp : p.fault = 0) :
    Calls Tryz.prog 105 #[v] w fun e w' => ∃ u, e = .returned u ∧ FlagsAt w' u p.fl p.nc ∧ Below w.heap.size w w' := by
  have HP := Lib.hid h
  obtain ⟨pn1, pn2, pn3, pl1, pl2, pl3, pl4, pl5, pR, pOK⟩ := Pers.ok_facts hp
  have POK := Lib.hid pOK; have PR := Lib.hid pR; clear hp pOK pR
  obtain ⟨rv, cv, rfl, h1, h2⟩ := h
  obtain ⟨ra, rc, rfl⟩ := h1.slice
  obtain ⟨ca, cc, rfl⟩ := h2.slice
  have HC := Lib.hid h2; have HR := Lib.hid h1; clear h1 h2
  obtain ⟨i0, hi0, hz0, hz1, hz2⟩ := info_parts Tryz.infoFlags
  go_enter Tryz.func105, Tryz.ntmps105
  go_wp2_with fail
  have HW0 : Hid (Below w.heap.size w (w.alloc (.cells #[.int .i64 p.lo, .int .i64 p.hi, .slice ra p.nr rc, .slice ca p.nc cc] 75))) := below_alloc _ _
  have HK0 : Hid ((w.alloc (.cells #[.int .i64 p.lo, .int .i64 p.hi, .slice ra p.nr rc, .slice ca p.nc cc] 75)).heap[w.heap.size]? = some (.cells #[.int .i64 p.lo, .int .i64 p.hi, .slice ra p.nr rc, .slice ca p.nc cc] 75 (0, 0))) := heap_alloc_new _ _
  have hsz0 : (w.alloc (.cells #[.int .i64 p.lo, .int .i64 p.hi, .slice ra p.nr rc, .slice ca p.nc cc] 75)).heap.size = w.heap.size + 1 := by simp
  have HSZ := Lib.hid hsz0; clear hsz0
  generalize w.alloc (.cells #[.int .i64 p.lo, .int .i64 p.hi, .slice ra p.nr rc, .slice ca p.nc cc] 75) = W0 at *
  go_loopw [3, 4] (fun v i wr => ∃ k : Nat, k ≤ p.nc ∧ i = .int .i64 k ∧ wr.ownsRow (w.heap.size + 1) 181 121 v k (flatF p.fl k) ∧ Below (w.heap.size + 1) W0 wr) (fun _ i _ => p.nc - (intOf i).toNat)
  case atStart => exact ⟨0, Nat.zero_le _, rfl, World.ownsRow_nil _ _ _ _, Below.refl _ _⟩
  case round =>
    obtain ⟨k, hk, rfl, hown, hbl⟩ := hrel
    obtain ⟨av, ac, rfl⟩ := own_slice' hown
    have HBL := Lib.hid hbl
    have HBW : Hid (Below w.heap.size w wr) := HW0.out.trans (hbl.mono (by omega))
    have HKW : Hid (wr.heap[w.heap.size]? = some (.cells #[.int .i64 p.lo, .int .i64 p.hi, .slice ra p.nr rc, .slice ca p.nc cc] 75 (0, 0))) := (hbl.block _ (by omega)).trans HK0.out
    obtain ⟨d0, d1, d2, d3⟩ := cells4 HKW.out
    have HA0 := Lib.hid hown
    clear hown hbl d0 d1 d2
    by_cases hlt : k < p.nc
    · obtain ⟨b, off, rfl, hbs, _, x1, x2⟩ := HC.out.at HBW.out hlt
      have hok := POK.out k hlt
      obtain ⟨_, _, rr1, rr2, rn1, rn2⟩ := Rc.ok_facts hok
      obtain ⟨q, hq⟩ : ∃ q : Nat, (p.C k).rule = (q : Int) := ⟨(p.C k).rule.toNat, by omega⟩
      have hqn : q < p.nr := by omega
      obtain ⟨rb, ro, rfl, hrb, _⟩ := HR.out.at HBW.out hqn
      have hrl : p.rl k = p.R q := by unfold Pers.rl; rw [hq]; rfl
      have HFS : Hid (flatF p.fl (k + 1) = flatF p.fl k ++ flagsL (p.fl k)) := flatF_succ _ _
      have hfl : p.fl k = agesF (p.R q).f (p.R q).b (p.R q).m (p.R q).e (p.C k).num 126 := by unfold Pers.fl; rw [hrl]
      have HTR := Lib.hid (fun W => refTrue_any (p.R q).f (p.R q).b (p.R q).m (p.R q).e (p.C k).num W (PR.out q hqn))
      rw [← hfl] at HTR
      have HCAT := Lib.hid (fun (W : World) (hW : Below w.heap.size w W) => HC.out.at hW hlt)
      have HRAT := Lib.hid (fun (W : World) (hW : Below w.heap.size w W) => HR.out.at hW hqn)
      rw [hq] at HCAT
      clear hok hrl hq hfl x1 x2 rr1 rr2 rn1 rn2
      generalize p.fl k = fl at *
      generalize flatF p.fl k = lf at *
      generalize (p.C k).num = num at *
      generalize (p.R q).f = f at *
      generalize (p.R q).b = b' at *
      generalize (p.R q).m = m at *
      generalize (p.R q).e = e at *
      have ki : (0 : Int) ≤ (k : Int) := by omega
      have kj : (k : Int) < (p.nc : Int) := by omega
      have qi : (0 : Int) ≤ (q : Int) := by omega
      have qj : (q : Int) < (p.nr : Int) := by omega
      have HSC : Hid (∀ X : World, Below (w.heap.size + 1) W0 X → X.cell? ⟨w.heap.size, 2, none⟩ = some (.slice (some ⟨rb, ro, none⟩) p.nr rc) ∧ X.cell? ⟨w.heap.size, 3, none⟩ = some (.slice (some ⟨b, off, none⟩) p.nc cc) ∧ X.cell? ⟨b, off + k * 3 + 1, none⟩ = some (.int .i64 q) ∧ X.cell? ⟨b, off + k * 3 + 2, none⟩ = some (.int .i64 num) ∧ X.cell? ⟨rb, ro + q * 4, none⟩ = some (.int .i64 f) ∧ X.cell? ⟨rb, ro + q * 4 + 1, none⟩ = some (.int .i64 b') ∧ X.cell? ⟨rb, ro + q * 4 + 2, none⟩ = some (.int .i64 m) ∧ X.cell? ⟨rb, ro + q * 4 + 3, none⟩ = some (.int .i64 e)) := fun X hX => by
        have hXW : Below w.heap.size w X := HW0.out.trans (hX.mono (by omega))
        obtain ⟨_, _, e1, _, _, y1, y2⟩ := HCAT.out X hXW
        cases e1
        obtain ⟨_, _, e2, _, z0, z1, z2, z3⟩ := HRAT.out X hXW
        cases e2
        obtain ⟨_, _, c2, c3⟩ := cells4 ((hX.block _ (by omega)).trans HK0.out)
        exact ⟨c2, c3, y1, y2, z0, z1, z2, z3⟩
      have HSB : Hid (∀ X : World, Below wr.heap.size wr X → X.cell? ⟨w.heap.size, 2, none⟩ = some (.slice (some ⟨rb, ro, none⟩) p.nr rc) ∧ X.cell? ⟨w.heap.size, 3, none⟩ = some (.slice (some ⟨b, off, none⟩) p.nc cc) ∧ X.cell? ⟨b, off + k * 3 + 1, none⟩ = some (.int .i64 q) ∧ X.cell? ⟨b, off + k * 3 + 2, none⟩ = some (.int .i64 num) ∧ X.cell? ⟨rb, ro + q * 4, none⟩ = some (.int .i64 f) ∧ X.cell? ⟨rb, ro + q * 4 + 1, none⟩ = some (.int .i64 b') ∧ X.cell? ⟨rb, ro + q * 4 + 2, none⟩ = some (.int .i64 m) ∧ X.cell? ⟨rb, ro + q * 4 + 3, none⟩ = some (.int .i64 e)) := fun X hX => HSC.out X (HBL.out.trans (hX.mono (by have := HBL.out.size; have := HSZ.out; omega)))
      have HBS : Hid (w.heap.size + 1 ≤ wr.heap.size) := by have := HBL.out.size; have := HSZ.out; unfold Hid; omega
      go_wp2_with fail
      clear d3
      have HA := Lib.hid (own_fr HA0.out (Fr.below ((Below.refl wr.heap.size wr).drew) (fun _ => False)) (fun _ _ _ _ _ e => e))
      have HL : Hid (Below wr.heap.size wr wr.drew) := (Below.refl _ _).drew
      clear HA0
      refine wp_region_held_drew (S := fun X => X.cell? ⟨w.heap.size, 2, none⟩ = some (.slice (some ⟨rb, ro, none⟩) p.nr rc) ∧ X.cell? ⟨w.heap.size, 3, none⟩ = some (.slice (some ⟨b, off, none⟩) p.nc cc) ∧ X.cell? ⟨b, off + k * 3 + 1, none⟩ = some (.int .i64 q) ∧ X.cell? ⟨b, off + k * 3 + 2, none⟩ = some (.int .i64 num) ∧ X.cell? ⟨rb, ro + q * 4, none⟩ = some (.int .i64 f) ∧ X.cell? ⟨rb, ro + q * 4 + 1, none⟩ = some (.int .i64 b') ∧ X.cell? ⟨rb, ro + q * 4 + 2, none⟩ = some (.int .i64 m) ∧ X.cell? ⟨rb, ro + q * 4 + 3, none⟩ = some (.int .i64 e)) (by kernel_rfl) (HSB.out _ HL.out) (fun hS => ?_)
      generalize World.drew wr = X at *
      refine wpAnyH_take (i := 0) (oi := ⟨some 12, _, _, _, _, _⟩) (v := .slice av k ac) rfl (by kernel_rfl) (by kernel_rfl) (by kernel_rfl) (fun _ _ _ h => h) (Or.inl ⟨by rfl, ?_⟩) hS ?_
      · intro W' hSw; (try dsimp only at hSw); obtain ⟨s0, s1, s2, s3, s4, s5, s6, s7⟩ := hSw; go_simp
      try simp only [Act.put, List.setIfInBounds_toArray, List.set_cons_zero, List.set_cons_succ]
      refine wpAnyH_take (i := 1) (oi := ⟨some 13, _, _, _, _, _⟩) (v := .pointer (some ⟨w.heap.size, 2, none⟩)) rfl (by kernel_rfl) (by kernel_rfl) (by kernel_rfl) (fun _ _ _ h => h) (Or.inl ⟨by rfl, ?_⟩) hS ?_
      · intro W' hSw; (try dsimp only at hSw); obtain ⟨s0, s1, s2, s3, s4, s5, s6, s7⟩ := hSw; go_simp
      try simp only [Act.put, List.setIfInBounds_toArray, List.set_cons_zero, List.set_cons_succ]
      refine wpAnyH_take (i := 2) (oi := ⟨some 14, _, _, _, _, _⟩) (v := .slice (some ⟨rb, ro, none⟩) p.nr rc) rfl (by kernel_rfl) (by kernel_rfl) (by kernel_rfl) (fun _ _ _ h => h) (Or.inl ⟨by rfl, ?_⟩) hS ?_
      · intro W' hSw; (try dsimp only at hSw); obtain ⟨s0, s1, s2, s3, s4, s5, s6, s7⟩ := hSw; go_simp
      try simp only [Act.put, List.setIfInBounds_toArray, List.set_cons_zero, List.set_cons_succ]
      refine wpAnyH_take (i := 3) (oi := ⟨some 15, _, _, _, _, _⟩) (v := .pointer (some ⟨w.heap.size, 3, none⟩)) rfl (by kernel_rfl) (by kernel_rfl) (by kernel_rfl) (fun _ _ _ h => h) (Or.inl ⟨by rfl, ?_⟩) hS ?_
      · intro W' hSw; (try dsimp only at hSw); obtain ⟨s0, s1, s2, s3, s4, s5, s6, s7⟩ := hSw; go_simp
      try simp only [Act.put, List.setIfInBounds_toArray, List.set_cons_zero, List.set_cons_succ]
      refine wpAnyH_take (i := 4) (oi := ⟨some 16, _, _, _, _, _⟩) (v := .slice (some ⟨b, off, none⟩) p.nc cc) rfl (by kernel_rfl) (by kernel_rfl) (by kernel_rfl) (fun _ _ _ h => h) (Or.inl ⟨by rfl, ?_⟩) hS ?_
      · intro W' hSw; (try dsimp only at hSw); obtain ⟨s0, s1, s2, s3, s4, s5, s6, s7⟩ := hSw; go_simp
      try simp only [Act.put, List.setIfInBounds_toArray, List.set_cons_zero, List.set_cons_succ]
      refine wpAnyH_take (i := 5) (oi := ⟨some 17, _, _, _, _, _⟩) (v := .int .i64 k) rfl (by kernel_rfl) (by kernel_rfl) (by kernel_rfl) (fun _ _ _ h => h) (Or.inl ⟨by rfl, ?_⟩) hS ?_
      · intro W' hSw; (try dsimp only at hSw); obtain ⟨s0, s1, s2, s3, s4, s5, s6, s7⟩ := hSw; go_simp
      try simp only [Act.put, List.setIfInBounds_toArray, List.set_cons_zero, List.set_cons_succ]
      refine wpAnyH_take (i := 6) (oi := ⟨some 18, _, _, _, _, _⟩) (v := .pointer (some ⟨b, off + k * 3, none⟩)) rfl (by kernel_rfl) (by kernel_rfl) (by kernel_rfl) (fun _ _ _ h => h) (Or.inl ⟨by rfl, ?_⟩) hS ?_
      · intro W' hSw; (try dsimp only at hSw); obtain ⟨s0, s1, s2, s3, s4, s5, s6, s7⟩ := hSw; go_simp
      try simp only [Act.put, List.setIfInBounds_toArray, List.set_cons_zero, List.set_cons_succ]
      refine wpAnyH_take (i := 7) (oi := ⟨some 19, _, _, _, _, _⟩) (v := .pointer (some ⟨b, off + k * 3 + 1, none⟩)) rfl (by kernel_rfl) (by kernel_rfl) (by kernel_rfl) (fun _ _ _ h => h) (Or.inl ⟨by rfl, ?_⟩) hS ?_
      · intro W' hSw; (try dsimp only at hSw); obtain ⟨s0, s1, s2, s3, s4, s5, s6, s7⟩ := hSw; go_simp
      try simp only [Act.put, List.setIfInBounds_toArray, List.set_cons_zero, List.set_cons_succ]
      refine wpAnyH_take (i := 8) (oi := ⟨some 20, _, _, _, _, _⟩) (v := .int .i64 q) rfl (by kernel_rfl) (by kernel_rfl) (by kernel_rfl) (fun _ _ _ h => h) (Or.inl ⟨by rfl, ?_⟩) hS ?_
      · intro W' hSw; (try dsimp only at hSw); obtain ⟨s0, s1, s2, s3, s4, s5, s6, s7⟩ := hSw; go_simp
      try simp only [Act.put, List.setIfInBounds_toArray, List.set_cons_zero, List.set_cons_succ]
      refine wpAnyH_take (i := 9) (oi := ⟨some 21, _, _, _, _, _⟩) (v := .pointer (some ⟨rb, ro + q * 4, none⟩)) rfl (by kernel_rfl) (by kernel_rfl) (by kernel_rfl) (fun _ _ _ h => h) (Or.inl ⟨by rfl, ?_⟩) hS ?_
      · intro W' hSw; (try dsimp only at hSw); obtain ⟨s0, s1, s2, s3, s4, s5, s6, s7⟩ := hSw; go_simp
      try simp only [Act.put, List.setIfInBounds_toArray, List.set_cons_zero, List.set_cons_succ]
      refine wpAnyH_take (i := 10) (oi := ⟨some 22, _, _, _, _, _⟩) (v := .agg #[.int .i64 f, .int .i64 b', .int .i64 m, .int .i64 e]) rfl (by kernel_rfl) (by kernel_rfl) (by kernel_rfl) (fun _ _ _ h => h) (Or.inl ⟨by rfl, ?_⟩) hS ?_
      · intro W' hSw; (try dsimp only at hSw); obtain ⟨s0, s1, s2, s3, s4, s5, s6, s7⟩ := hSw; go_simp
      try simp only [Act.put, List.setIfInBounds_toArray, List.set_cons_zero, List.set_cons_succ]
      refine wpAnyH_take (i := 11) (oi := ⟨some 23, _, _, _, _, _⟩) (v := .pointer (some ⟨w.heap.size, 3, none⟩)) rfl (by kernel_rfl) (by kernel_rfl) (by kernel_rfl) (fun _ _ _ h => h) (Or.inl ⟨by rfl, ?_⟩) hS ?_
      · intro W' hSw; (try dsimp only at hSw); obtain ⟨s0, s1, s2, s3, s4, s5, s6, s7⟩ := hSw; go_simp
      try simp only [Act.put, List.setIfInBounds_toArray, List.set_cons_zero, List.set_cons_succ]
      refine wpAnyH_take (i := 12) (oi := ⟨some 24, _, _, _, _, _⟩) (v := .slice (some ⟨b, off, none⟩) p.nc cc) rfl (by kernel_rfl) (by kernel_rfl) (by kernel_rfl) (fun _ _ _ h => h) (Or.inl ⟨by rfl, ?_⟩) hS ?_
      · intro W' hSw; (try dsimp only at hSw); obtain ⟨s0, s1, s2, s3, s4, s5, s6, s7⟩ := hSw; go_simp
      try simp only [Act.put, List.setIfInBounds_toArray, List.set_cons_zero, List.set_cons_succ]
      refine wpAnyH_take (i := 13) (oi := ⟨some 25, _, _, _, _, _⟩) (v := .int .i64 k) rfl (by kernel_rfl) (by kernel_rfl) (by kernel_rfl) (fun _ _ _ h => h) (Or.inl ⟨by rfl, ?_⟩) hS ?_
      · intro W' hSw; (try dsimp only at hSw); obtain ⟨s0, s1, s2, s3, s4, s5, s6, s7⟩ := hSw; go_simp
      try simp only [Act.put, List.setIfInBounds_toArray, List.set_cons_zero, List.set_cons_succ]
      refine wpAnyH_take (i := 14) (oi := ⟨some 26, _, _, _, _, _⟩) (v := .pointer (some ⟨b, off + k * 3, none⟩)) rfl (by kernel_rfl) (by kernel_rfl) (by kernel_rfl) (fun _ _ _ h => h) (Or.inl ⟨by rfl, ?_⟩) hS ?_
      · intro W' hSw; (try dsimp only at hSw); obtain ⟨s0, s1, s2, s3, s4, s5, s6, s7⟩ := hSw; go_simp
      try simp only [Act.put, List.setIfInBounds_toArray, List.set_cons_zero, List.set_cons_succ]
      refine wpAnyH_take (i := 15) (oi := ⟨some 27, _, _, _, _, _⟩) (v := .pointer (some ⟨b, off + k * 3 + 2, none⟩)) rfl (by kernel_rfl) (by kernel_rfl) (by kernel_rfl) (fun _ _ _ h => h) (Or.inl ⟨by rfl, ?_⟩) hS ?_
      · intro W' hSw; (try dsimp only at hSw); obtain ⟨s0, s1, s2, s3, s4, s5, s6, s7⟩ := hSw; go_simp
      try simp only [Act.put, List.setIfInBounds_toArray, List.set_cons_zero, List.set_cons_succ]
      refine wpAnyH_take (i := 16) (oi := ⟨some 28, _, _, _, _, _⟩) (v := .int .i64 num) rfl (by kernel_rfl) (by kernel_rfl) (by kernel_rfl) (fun _ _ _ h => h) (Or.inl ⟨by rfl, ?_⟩) hS ?_
      · intro W' hSw; (try dsimp only at hSw); obtain ⟨s0, s1, s2, s3, s4, s5, s6, s7⟩ := hSw; go_simp
      try simp only [Act.put, List.setIfInBounds_toArray, List.set_cons_zero, List.set_cons_succ]
      refine wpAnyH_ready (rs := [17]) (by kernel_rfl) (by simp) ?_
      refine AllReadyH.cons (o := ⟨some 29, _, _, _, _, _⟩) rfl (fun K hK => ?_) ?_
      ·
        go_simp
        refine (HTR.out X).mono ?_
        rintro _ X0 ⟨rfl, hx0⟩
        (try go_wp2_with fail)
        have HA0 := Lib.hid (own_fr HA.out (Fr.below hx0 (fun _ => False)) (fun _ _ _ _ _ e => e))
        have HL0 := Lib.hid (below_step HL.out hx0)
        refine hK.out _ _ (HSB.out _ HL0.out) (fun hS => ?_)
        clear hK K
        try simp only [Act.put, List.setIfInBounds_toArray, List.set_cons_zero, List.set_cons_succ]
        clear hx0
        refine wpAnyH_ready (rs := [18]) (by kernel_rfl) (by simp) ?_
        refine AllReadyH.cons (o := ⟨some 30, _, _, _, _, _⟩) rfl (fun K hK => ?_) ?_
        ·
          refine step_build_flags (by rfl) (.tmp 29) (by rfl) fl (by rfl) ?_
          have HA1 := Lib.hid (own_fr HA0.out (Fr.below (below_alloc X0 (.cells (flagsA fl) 181)) (fun _ => False)) (fun _ _ _ _ _ e => e))
          have HL1 := Lib.hid (below_step HL0.out (below_alloc X0 (.cells (flagsA fl) 181)))
          have HN1 : Hid ((X0.alloc (.cells (flagsA fl) 181)).heap[X0.heap.size]? = some (.cells (flagsA fl) 181 (0, 0))) := heap_alloc_new X0 _
          refine hK.out _ _ (HSB.out _ HL1.out) (fun hS => ?_)
          clear hK K
          try simp only [Act.put, List.setIfInBounds_toArray, List.set_cons_zero, List.set_cons_succ]
          generalize X0.heap.size = BN1 at *
          generalize X0.alloc (.cells (flagsA fl) 181) = X1 at *
          refine wpAnyH_ready (rs := [19]) (by kernel_rfl) (by simp) ?_
          refine AllReadyH.cons (o := ⟨some 31, _, _, _, _, _⟩) rfl (fun K hK => ?_) ?_
          ·
            refine step_append_lies X1 (by rfl) (.tmp 12) (.tmp 30) 161 (by rfl) (w.heap.size + 1) 181 i0 (.agg (flagsA fun _ => false)) 121 121 Tryz.underlying161 hi0 hz0 hz1 hz2 (flagsA_size _) (by omega) (.slice av k ac) k lf (by rfl) HA1.out ⟨BN1, 0, none⟩ 1 1 (flagsL fl) (by rfl) (by rw [flagsL_length]) (fun j u hu => World.news_of_block HN1.out j u (by rw [flagsA_list]; exact hu)) (flagsL_one fl) (by omega) (by unfold maxLen; omega) (by omega) (by have := HL1.out.size; have := HBS.out; omega) _ rfl ?_
            intro g2 c2 X2 hown hgrow hat hlt1
            have HA2 := Lib.hid hown
            have HB2 : Hid (Below (w.heap.size + 1) W0 X2) := HBL.out.trans ((HL1.out.mono HBS.out).trans ((Fr.grown hgrow).low (by have := HL1.out.size; have := HBS.out; omega) (fun q' hq e => by have := own_low HA1.out e; omega)))
            clear hown hgrow hat hlt1
            refine hK.out _ _ (HSC.out _ HB2.out) (fun hS => ?_)
            clear hK K
            try simp only [Act.put, List.setIfInBounds_toArray, List.set_cons_zero, List.set_cons_succ]
            refine wpAnyH_take (i := 20) (oi := ⟨some 3, _, _, _, _, _⟩) (v := (.slice (some ⟨g2, 0, none⟩) (k + 1) c2)) rfl (by kernel_rfl) (by kernel_rfl) (by kernel_rfl) (fun _ _ _ h => h) (Or.inl ⟨by rfl, ?_⟩) hS ?_
            · intro W' hSw; (try dsimp only at hSw); obtain ⟨s0, s1, s2, s3, s4, s5, s6, s7⟩ := hSw; go_simp
            try simp only [Act.put, List.setIfInBounds_toArray, List.set_cons_zero, List.set_cons_succ]
            refine wpAnyH_done (by kernel_rfl) ?_ _
            go_wp2
            go_roundw
            case rel => exact ⟨k + 1, by omega, by go_num, by rw [HFS.out]; exact HA2.out, HB2.out⟩
            case measure => simp [intOf]; omega
          exact AllReadyH.nil
        exact AllReadyH.nil
      exact AllReadyH.nil
    · obtain rfl : k = p.nc := by omega
      go_wp2
      go_ret
      exact ⟨_, rfl, flags_of_own HA0.out, HBW.out⟩
end Go.Proofs.YtgbdbikjckfgmaaGreat
namespace Go.Proofs.YtgbdbikjckfgmaaGreat
open Go.RowKit Go.Shelf
theorem yieldsIf_load_flags {ops : Array Oper} {S : World → Prop} {op : Oper} {a : Act} (hw : Region.wanted op (yielded ops a.tmps) = true) (x : Operand) (ho : op.op = .load 181 x)
    (b o : Nat) (hx : a.eval x = .pointer (some ⟨b, o, none⟩)) (fl : Nat → Bool) (hS : ∀ w, S w → w.rangeAt b o (flagsL fl)) : YieldsIf Tryz.prog ops S op (.agg (flagsA fl)) a :=
  yieldsIf_load_mid hw 181 x ho b o hx (flagsL fl) _ hS Tryz.underlying181 rfl (by rw [flagsL_length]; exact Tryz.sizeFlags)
/-- The records below k that do not allow a day. -/
def dnTo (p : Pers) (b : Int) (k : Nat) : List Nat := (List.range k).filter fun j => !p.okB j b
theorem dnTo_succ (p : Pers) (b : Int) (k : Nat) : dnTo p b (k + 1) = if p.okB k b = true then dnTo p b k else dnTo p b k ++ [k] := by
  unfold dnTo
  rw [List.range_succ, List.filter_append]
  cases h : p.okB k b <;> simp [h]
theorem dnTo_length (p : Pers) (b : Int) (k : Nat) : (dnTo p b k).length ≤ k := by
  unfold dnTo
  have := List.length_filter_le (fun j => !p.okB j b) (List.range k)
  simpa using this
def GivesN (w : World) (l : List Int) (e : Ending) (w' : World) : Prop := ∃ v, e = .returned v ∧ IL w' v l ∧ Below w.heap.size w w'
end Go.Proofs.YtgbdbikjckfgmaaGreat
