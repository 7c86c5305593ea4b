/- The plain model of a table: what is valid, and the ranges that follow. | Contracts of small functions of package flow. | Contracts: smallest, meet, living. Printed by gen_fb.py. | Rows of ranges; all[..] over them. Printed by gen_fc.py. | Tables in memory; groups, counted, CheckTable. -/
import Derived.Test.YtjaoflfophcibaaFG
namespace Go.Proofs.Ytjaoflfophcibaa

abbrev R2 := Int × Int
/-- A table, as lengths and functions. -/
structure Tb where
  nc : Nat
  rl : Nat → Nat
  ct : Nat → Nat → R2
  nb : Nat
  b : Nat → R2
  nr : Nat
  r : Nat → R2
  nn : Nat
  n : Nat → R2
def Tb.ng (t : Tb) : Nat := if t.nc = 0 then 0 else t.rl 0
def insideR (r : R2) (lo hi : Int) : Bool := decide (lo ≤ r.1) && decide (r.1 ≤ r.2) && decide (r.2 ≤ hi)
def isCountR (r : R2) : Bool := insideR r 0 500
def isRateR (r : R2) : Bool := insideR r 0 1000
def isNetR (r : R2) : Bool := insideR r (-50) 50
/-- A row of counts has one for each group. -/
def Tb.rowOk (t : Tb) (c : Nat) : Bool := t.rl c == t.ng && allB (fun g => isCountR (t.ct c g)) (t.rl c)
def Tb.okAll (t : Tb) : Bool :=
  decide (2 ≤ t.ng) && allB t.rowOk t.nc && decide ((t.nb : Int) = t.nc - 1) && decide (t.nr = t.ng + 1) && decide (t.nn = t.ng) && allB (fun j => isCountR (t.b j)) t.nb && allB (fun j => isRateR (t.r j)) t.nr && allB (fun j => isNetR (t.n j)) t.nn
def Tb.fault (t : Tb) : Int := if 4 < t.nc ∨ 4 < t.ng then 3 else if t.okAll = true then 0 else 1

def deadR (r : R2) (n : Int) : R2 := (n * r.1 / 1000, (n * r.2 + 999) / 1000)
def fewestR (r : R2) (n : Int) : Int := n - (deadR r n).2
def mostR (r : R2) (n : Int) : Int := n - (deadR r n).1
def livingR (r s : R2) : R2 := (fewestR r s.1, mostR r s.2)
def plusR (a b : R2) : R2 := (a.1 + b.1, a.2 + b.2)
def minusR (a b : R2) : R2 := (a.1 - b.2, a.2 - b.1)
def meetR (a b : R2) : R2 := (max a.1 b.1, min a.2 b.2)
def emptyR (a : R2) : Bool := decide (a.2 < a.1)
def Tb.last (t : Tb) : Nat := t.ng - 1
def Tb.own (t : Tb) (out : Nat → Nat → Bool) (c g : Nat) : R2 := if out c g = true then (0, 1048576) else t.ct c g
/-- The sizes of group g at the census behind number c, by those of c. -/
def Tb.arr (t : Tb) (c g : Nat) (up : Nat → R2) : R2 :=
  let r0 : R2 := if g = 0 then livingR (t.r 0) (t.b c) else (0, 0)
  let r1 : R2 := if 0 < g then plusR r0 (livingR (t.r g) (up (g - 1))) else r0
  let r2 : R2 := if g = t.last then plusR r1 (livingR (t.r (g + 1)) (up g)) else r1
  if (decide (0 < g) && emptyR (up (g - 1))) || (decide (g = t.last) && emptyR (up g)) then (1, 0) else meetR (plusR r2 (t.n g)) (0, 1048576)
def Tb.before (t : Tb) (out : Nat → Nat → Bool) : Nat → Nat → R2
  | 0, _ => (0, 500)
  | c + 1, g => t.arr c g fun g' => meetR (Tb.before t out c g') (t.own out c g')
def Tb.up (t : Tb) (out : Nat → Nat → Bool) (c g : Nat) : R2 := meetR (t.before out c g) (t.own out c g)
/-- The counts agree. -/
def Tb.agree (t : Tb) (out : Nat → Nat → Bool) : Bool := allB (fun g => !emptyR (t.up out (t.nc - 1) g)) t.ng
end Go.Proofs.Ytjaoflfophcibaa

namespace Go.Proofs.Ytjaoflfophcibaa
open Go.RowKit Go.Shelf

set_option maxHeartbeats 400000 in
theorem within_any (a b c : Int) (w : World) :
    Calls Try.prog 56 #[.int .i64 a, .int .i64 b, .int .i64 c] w fun e w' => e = .returned (.bool (inB a b c)) ∧ w = w' := by
  go_enter Try.func56, Try.ntmps56
  go_wp2
  all_goals go_ret
  all_goals (refine ⟨?_, rfl⟩; congr 2; simp [inB]; omega)
set_option maxHeartbeats 1000000 in
theorem inside_any (a b lo hi : Int) (w : World) :
    Calls Try.prog 102 #[.agg #[.int .i64 a, .int .i64 b], .int .i64 lo, .int .i64 hi] w fun e w' => e = .returned (.bool (insideR (a, b) lo hi)) ∧ Below w.heap.size w w' := by
  go_enter Try.func102, Try.ntmps102
  go_wp2
  all_goals go_ret
  all_goals (refine ⟨?_, below_alloc _ _⟩; congr 2; simp [insideR]; omega)
set_option maxHeartbeats 1000000 in
theorem isCount_any (a b : Int) (w : World) :
    Calls Try.prog 70 #[.agg #[.int .i64 a, .int .i64 b]] w fun e w' => e = .returned (.bool (isCountR (a, b))) ∧ Below w.heap.size w w' := by
  go_enter Try.func70, Try.ntmps70
  go_wp2_with (go_at_call 102; refine (inside_any _ _ _ _ _).mono ?_; rintro _ w1 ⟨rfl, hb1⟩)
  go_ret
  exact ⟨rfl, below_step (below_alloc _ _) hb1⟩
set_option maxHeartbeats 1000000 in
theorem isRate_any (a b : Int) (w : World) :
    Calls Try.prog 83 #[.agg #[.int .i64 a, .int .i64 b]] w fun e w' => e = .returned (.bool (isRateR (a, b))) ∧ Below w.heap.size w w' := by
  go_enter Try.func83, Try.ntmps83
  go_wp2_with (go_at_call 102; refine (inside_any _ _ _ _ _).mono ?_; rintro _ w1 ⟨rfl, hb1⟩)
  go_ret
  exact ⟨rfl, below_step (below_alloc _ _) hb1⟩
set_option maxHeartbeats 1000000 in
theorem isNet_any (a b : Int) (w : World) :
    Calls Try.prog 84 #[.agg #[.int .i64 a, .int .i64 b]] w fun e w' => e = .returned (.bool (isNetR (a, b))) ∧ Below w.heap.size w w' := by
  go_enter Try.func84, Try.ntmps84
  go_wp2_with (go_at_call 102; refine (inside_any _ _ _ _ _).mono ?_; rintro _ w1 ⟨rfl, hb1⟩)
  go_ret
  exact ⟨rfl, below_step (below_alloc _ _) hb1⟩
set_option maxHeartbeats 1000000 in
theorem has_any (a b n : Int) (w : World) :
    Calls Try.prog 89 #[.agg #[.int .i64 a, .int .i64 b], .int .i64 n] w fun e w' => e = .returned (.bool (inB n a b)) ∧ Below w.heap.size w w' := by
  go_enter Try.func89, Try.ntmps89
  go_wp2_with (go_at_call 56; refine (within_any _ _ _ _).mono ?_; rintro _ w1 ⟨rfl, rfl⟩)
  go_ret
  exact ⟨rfl, below_alloc _ _⟩
set_option maxHeartbeats 1000000 in
theorem empty_any (a b : Int) (w : World) :
    Calls Try.prog 74 #[.agg #[.int .i64 a, .int .i64 b]] w fun e w' => e = .returned (.bool (emptyR (a, b))) ∧ Below w.heap.size w w' := by
  go_enter Try.func74, Try.ntmps74
  go_wp2
  all_goals go_ret
  all_goals exact ⟨ret_bool (by simp [emptyR]), below_alloc _ _⟩
set_option maxHeartbeats 1000000 in
theorem dead_any (a b n : Int) (w : World) (hn : 0 ≤ n) (hn2 : n ≤ 1000000000) (ha : 0 ≤ a) (ha2 : a ≤ 1000) (hb : 0 ≤ b) (hb2 : b ≤ 1000) :
    Calls Try.prog 116 #[.agg #[.int .i64 a, .int .i64 b], .int .i64 n] w fun e w' => e = .returned (.agg #[.int .i64 (n * a / 1000), .int .i64 ((n * b + 999) / 1000)]) ∧ Below w.heap.size w w' := by
  have h1 : 0 ≤ n * a := Int.mul_nonneg hn ha
  have h2 : n * a ≤ 1000000000 * 1000 := Int.mul_le_mul hn2 ha2 ha (by omega)
  have h3 : 0 ≤ n * b := Int.mul_nonneg hn hb
  have h4 : n * b ≤ 1000000000 * 1000 := Int.mul_le_mul hn2 hb2 hb (by omega)
  go_enter Try.func116, Try.ntmps116
  go_wp2
  refine bodyPost_ret (v := .agg #[.int .i64 (n * a / 1000), .int .i64 ((n * b + 999) / 1000)]) (by simp [results, Try.results116, go_sem]; omega) rfl ⟨rfl, ?_⟩
  exact (below_alloc _ _).alloc (by simp) _
theorem field0 (a b : Int) (W : World) : (Instr.field 29 (.agg #[.int .i64 a, .int .i64 b]) 0).run Try.prog W = .ok (.int .i64 a) W := by kernel_rfl
theorem field1 (a b : Int) (W : World) : (Instr.field 29 (.agg #[.int .i64 a, .int .i64 b]) 1).run Try.prog W = .ok (.int .i64 b) W := by kernel_rfl
set_option maxRecDepth 100000 in
set_option maxHeartbeats 1000000 in
theorem most_any (a b n : Int) (w : World) (hn : 0 ≤ n) (hn2 : n ≤ 1000000000) (ha : 0 ≤ a) (ha2 : a ≤ 1000) (hb : 0 ≤ b) (hb2 : b ≤ 1000) :
    Calls Try.prog 97 #[.agg #[.int .i64 a, .int .i64 b], .int .i64 n] w fun e w' => e = .returned (.int .i64 (mostR (a, b) n)) ∧ Below w.heap.size w w' := by
  have h1 : 0 ≤ n * a := Int.mul_nonneg hn ha
  have h2 : n * a ≤ 1000000000 * 1000 := Int.mul_le_mul hn2 ha2 ha (by omega)
  have h3 : 0 ≤ n * b := Int.mul_nonneg hn hb
  have h4 : n * b ≤ 1000000000 * 1000 := Int.mul_le_mul hn2 hb2 hb (by omega)
  have hd : mostR (a, b) n = n - n * a / 1000 := rfl
  have HD := Lib.hid (fun W => dead_any a b n W hn hn2 ha ha2 hb hb2)
  rw [hd]
  clear hd
  obtain ⟨q1, q2⟩ : 0 ≤ n * a / 1000 ∧ n * a / 1000 ≤ 1000000000 := by omega
  obtain ⟨q3, q4⟩ : 0 ≤ (n * b + 999) / 1000 ∧ (n * b + 999) / 1000 ≤ 1000000000 := by omega
  clear h1 h2 h3 h4
  generalize n * a / 1000 = qa at *
  generalize (n * b + 999) / 1000 = qb at *
  have hf := field0 qa qb
  go_enter Try.func97, Try.ntmps97
  go_wp2_with (go_at_call 116; refine (HD.out _).mono ?_; rintro _ w1 ⟨rfl, hb1⟩)
  go_ret
  exact ⟨rfl, below_step (below_alloc _ _) hb1⟩
set_option maxRecDepth 100000 in
set_option maxHeartbeats 1000000 in
theorem fewest_any (a b n : Int) (w : World) (hn : 0 ≤ n) (hn2 : n ≤ 1000000000) (ha : 0 ≤ a) (ha2 : a ≤ 1000) (hb : 0 ≤ b) (hb2 : b ≤ 1000) :
    Calls Try.prog 98 #[.agg #[.int .i64 a, .int .i64 b], .int .i64 n] w fun e w' => e = .returned (.int .i64 (fewestR (a, b) n)) ∧ Below w.heap.size w w' := by
  have h1 : 0 ≤ n * a := Int.mul_nonneg hn ha
  have h2 : n * a ≤ 1000000000 * 1000 := Int.mul_le_mul hn2 ha2 ha (by omega)
  have h3 : 0 ≤ n * b := Int.mul_nonneg hn hb
  have h4 : n * b ≤ 1000000000 * 1000 := Int.mul_le_mul hn2 hb2 hb (by omega)
  have hd : fewestR (a, b) n = n - (n * b + 999) / 1000 := rfl
  have HD := Lib.hid (fun W => dead_any a b n W hn hn2 ha ha2 hb hb2)
  rw [hd]
  clear hd
  obtain ⟨q1, q2⟩ : 0 ≤ n * a / 1000 ∧ n * a / 1000 ≤ 1000000000 := by omega
  obtain ⟨q3, q4⟩ : 0 ≤ (n * b + 999) / 1000 ∧ (n * b + 999) / 1000 ≤ 1000000000 := by omega
  clear h1 h2 h3 h4
  generalize n * a / 1000 = qa at *
  generalize (n * b + 999) / 1000 = qb at *
  have hf := field1 qa qb
  go_enter Try.func98, Try.ntmps98
  go_wp2_with (go_at_call 116; refine (HD.out _).mono ?_; rintro _ w1 ⟨rfl, hb1⟩)
  go_ret
  exact ⟨rfl, below_step (below_alloc _ _) hb1⟩
set_option maxHeartbeats 1000000 in
theorem plus_any (a b c d : Int) (w : World) (ha : -1000000000000 ≤ a ∧ a ≤ 1000000000000) (hb : -1000000000000 ≤ b ∧ b ≤ 1000000000000) (hc : -1000000000000 ≤ c ∧ c ≤ 1000000000000) (hd : -1000000000000 ≤ d ∧ d ≤ 1000000000000) :
    Calls Try.prog 104 #[.agg #[.int .i64 a, .int .i64 b], .agg #[.int .i64 c, .int .i64 d]] w fun e w' => e = .returned (.agg #[.int .i64 (a + c), .int .i64 (b + d)]) ∧ Below w.heap.size w w' := by
  go_enter Try.func104, Try.ntmps104
  go_wp2
  refine bodyPost_ret (v := .agg #[.int .i64 (a + c), .int .i64 (b + d)]) (by simp [results, Try.results104, go_sem]) rfl ⟨rfl, ?_⟩
  exact ((below_alloc _ _).alloc (by simp) _).alloc (by simp; omega) _
set_option maxHeartbeats 1000000 in
theorem minus_any (a b c d : Int) (w : World) (ha : -1000000000000 ≤ a ∧ a ≤ 1000000000000) (hb : -1000000000000 ≤ b ∧ b ≤ 1000000000000) (hc : -1000000000000 ≤ c ∧ c ≤ 1000000000000) (hd : -1000000000000 ≤ d ∧ d ≤ 1000000000000) :
    Calls Try.prog 94 #[.agg #[.int .i64 a, .int .i64 b], .agg #[.int .i64 c, .int .i64 d]] w fun e w' => e = .returned (.agg #[.int .i64 (a - d), .int .i64 (b - c)]) ∧ Below w.heap.size w w' := by
  go_enter Try.func94, Try.ntmps94
  go_wp2
  refine bodyPost_ret (v := .agg #[.int .i64 (a - d), .int .i64 (b - c)]) (by simp [results, Try.results94, go_sem]) rfl ⟨rfl, ?_⟩
  exact ((below_alloc _ _).alloc (by simp) _).alloc (by simp; omega) _
end Go.Proofs.Ytjaoflfophcibaa

namespace Go.Proofs.Ytjaoflfophcibaa
open Go.RowKit Go.Shelf

set_option maxHeartbeats 400000 in
theorem min2_any (b : Nat) (x y : Int) (w : World) (h0 : w.cell? ⟨b, 0, none⟩ = some (.int .i64 x)) (h1 : w.cell? ⟨b, 1, none⟩ = some (.int .i64 y)) :
    Calls Try.prog 115 #[.slice (some ⟨b, 0, none⟩) 2 2] w fun e w' => e = .returned (.int .i64 (min x y)) ∧ w = w' := by
  go_enter Try.func115, Try.ntmps115
  go_wp2
  go_loop [3, 4] (fun n i => (n = .int .i64 x ∧ i = .int .i64 1) ∨ (n = .int .i64 (min x y) ∧ i = .int .i64 2)) (fun _ i => 2 - (intOf i).toNat)
  case atStart => exact .inl ⟨rfl, rfl⟩
  case round =>
    rcases hrel with ⟨rfl, rfl⟩ | ⟨rfl, rfl⟩
    · go_wp2
      go_round
      case rel => exact .inr ⟨by congr 1; omega, rfl⟩
      case measure => simp [intOf]
    · go_wp2
      go_ret
      exact ⟨rfl, rfl⟩
set_option maxHeartbeats 400000 in
theorem smallest_any (b : Nat) (x y : Int) (w : World) (h0 : w.cell? ⟨b, 0, none⟩ = some (.int .i64 x)) (h1 : w.cell? ⟨b, 1, none⟩ = some (.int .i64 y)) :
    Calls Try.prog 92 #[.slice (some ⟨b, 0, none⟩) 2 2] w fun e w' => e = .returned (.int .i64 (min x y)) ∧ w = w' := by
  go_enter Try.func92, Try.ntmps92
  go_wp2_with (go_at_call 115; refine (min2_any _ x y _ h0 h1).mono ?_; rintro e w' ⟨rfl, rfl⟩)
  go_ret
  exact ⟨rfl, rfl⟩
attribute [local go_sem ↓] Go.wp_at_zero Go.wp_at_succ in
set_option maxRecDepth 100000 in
set_option maxHeartbeats 4000000 in
theorem meet_any (a b c d : Int) (w : World) :
    Calls Try.prog 100 #[.agg #[.int .i64 a, .int .i64 b], .agg #[.int .i64 c, .int .i64 d]] w fun e w' => e = .returned (.agg #[.int .i64 (max a c), .int .i64 (min b d)]) ∧ Below w.heap.size w w' := by
  have HB0 : Hid (Below w.heap.size w (((w.alloc (.cells #[.int .i64 a, .int .i64 b] 29)).alloc (.cells #[.int .i64 c, .int .i64 d] 29)).alloc (.cells #[.int .i64 0, .int .i64 0] 29))) := ((below_alloc _ _).alloc (by simp) _).alloc (by simp; omega) _
  have HK0 : Hid ((((w.alloc (.cells #[.int .i64 a, .int .i64 b] 29)).alloc (.cells #[.int .i64 c, .int .i64 d] 29)).alloc (.cells #[.int .i64 0, .int .i64 0] 29)).heap[w.heap.size]? = some (.cells #[.int .i64 a, .int .i64 b] 29 (0, 0))) := (Below.heap_alloc _ _ _ (by simp; omega)).trans ((Below.heap_alloc _ _ _ (by simp)).trans (heap_alloc_new _ _))
  have HK1 : Hid ((((w.alloc (.cells #[.int .i64 a, .int .i64 b] 29)).alloc (.cells #[.int .i64 c, .int .i64 d] 29)).alloc (.cells #[.int .i64 0, .int .i64 0] 29)).heap[w.heap.size + 1]? = some (.cells #[.int .i64 c, .int .i64 d] 29 (0, 0))) := by
    have h := heap_alloc_new (w.alloc (.cells #[.int .i64 a, .int .i64 b] 29)) (.cells #[.int .i64 c, .int .i64 d] 29)
    simp only [World.size_alloc] at h
    exact (Below.heap_alloc _ _ _ (by simp)).trans h
  have HK2 : Hid ((((w.alloc (.cells #[.int .i64 a, .int .i64 b] 29)).alloc (.cells #[.int .i64 c, .int .i64 d] 29)).alloc (.cells #[.int .i64 0, .int .i64 0] 29)).heap[w.heap.size + 1 + 1]? = some (.cells #[.int .i64 0, .int .i64 0] 29 (0, 0))) := by
    have h := heap_alloc_new ((w.alloc (.cells #[.int .i64 a, .int .i64 b] 29)).alloc (.cells #[.int .i64 c, .int .i64 d] 29)) (.cells #[.int .i64 0, .int .i64 0] 29)
    simp only [World.size_alloc] at h
    exact h
  go_enter Try.func100, Try.ntmps100
  go_upto_region 1 with fail
  generalize (((w.alloc (.cells #[.int .i64 a, .int .i64 b] 29)).alloc (.cells #[.int .i64 c, .int .i64 d] 29)).alloc (.cells #[.int .i64 0, .int .i64 0] 29)) = w1 at *
  have HCELL : Hid (∀ X : World, Below w1.heap.size w1 X → X.cell? ⟨w.heap.size, 0, none⟩ = some (.int .i64 a) ∧ X.cell? ⟨w.heap.size, 1, none⟩ = some (.int .i64 b) ∧ X.cell? ⟨w.heap.size + 1, 0, none⟩ = some (.int .i64 c) ∧ X.cell? ⟨w.heap.size + 1, 1, none⟩ = some (.int .i64 d)) := fun X hX => by
    have k0 := (hX.block _ (Array.getElem?_eq_some_iff.1 HK0.out).1).trans HK0.out
    have k1 := (hX.block _ (Array.getElem?_eq_some_iff.1 HK1.out).1).trans HK1.out
    exact ⟨cell_of_row _ _ 0 _ _ _ k0, cell_of_row _ _ 1 _ _ _ k0, cell_of_row _ _ 0 _ _ _ k1, cell_of_row _ _ 1 _ _ _ k1⟩
  have HM : Hid (Below w1.heap.size w1 w1.drew) := (Below.refl _ _).drew
  have HO : Hid (w1.drew.heap[w.heap.size + 1 + 1]? = some (.cells #[.int .i64 0, .int .i64 0] 29 (0, 0))) := HK2.out
  refine wp_region_held_drew (S := fun X => X.cell? ⟨w.heap.size, 0, none⟩ = some (.int .i64 a) ∧ X.cell? ⟨w.heap.size, 1, none⟩ = some (.int .i64 b) ∧ X.cell? ⟨w.heap.size + 1, 0, none⟩ = some (.int .i64 c) ∧ X.cell? ⟨w.heap.size + 1, 1, none⟩ = some (.int .i64 d)) (by kernel_rfl) (HCELL.out _ HM.out) (fun hS => ?_)
  generalize World.drew w1 = X at *
  refine tH 0 (oi := ⟨_, _, _, _, _, _⟩) (v := .pointer (some ⟨w.heap.size, 0, none⟩)) rfl (by kernel_rfl) (by rfl) (fun _ _ _ h => h) hS ?_ ?_
  · rintro W' ⟨s0, s1, s2, s3⟩; go_simp
  try simp only [Act.put, putA, putZ, putS]
  refine tH 1 (oi := ⟨_, _, _, _, _, _⟩) (v := .int .i64 a) rfl (by kernel_rfl) (by rfl) (fun _ _ _ h => h) hS ?_ ?_
  · rintro W' ⟨s0, s1, s2, s3⟩; go_simp
  try simp only [Act.put, putA, putZ, putS]
  refine tH 2 (oi := ⟨_, _, _, _, _, _⟩) (v := .pointer (some ⟨w.heap.size + 1, 0, none⟩)) rfl (by kernel_rfl) (by rfl) (fun _ _ _ h => h) hS ?_ ?_
  · rintro W' ⟨s0, s1, s2, s3⟩; go_simp
  try simp only [Act.put, putA, putZ, putS]
  refine tH 3 (oi := ⟨_, _, _, _, _, _⟩) (v := .int .i64 c) rfl (by kernel_rfl) (by rfl) (fun _ _ _ h => h) hS ?_ ?_
  · rintro W' ⟨s0, s1, s2, s3⟩; go_simp
  try simp only [Act.put, putA, putZ, putS]
  refine tH 4 (oi := ⟨_, _, _, _, _, _⟩) (v := .int .i64 (max a c)) rfl (by kernel_rfl) (by rfl) (fun _ _ _ h => h) hS ?_ ?_
  · rintro W' ⟨s0, s1, s2, s3⟩; go_simp; split <;> omega
  try simp only [Act.put, putA, putZ, putS]
  refine tH 5 (oi := ⟨_, _, _, _, _, _⟩) (v := .pointer (some ⟨w.heap.size, 1, none⟩)) rfl (by kernel_rfl) (by rfl) (fun _ _ _ h => h) hS ?_ ?_
  · rintro W' ⟨s0, s1, s2, s3⟩; go_simp
  try simp only [Act.put, putA, putZ, putS]
  refine tH 6 (oi := ⟨_, _, _, _, _, _⟩) (v := .int .i64 b) rfl (by kernel_rfl) (by rfl) (fun _ _ _ h => h) hS ?_ ?_
  · rintro W' ⟨s0, s1, s2, s3⟩; go_simp
  try simp only [Act.put, putA, putZ, putS]
  refine tH 7 (oi := ⟨_, _, _, _, _, _⟩) (v := .pointer (some ⟨w.heap.size + 1, 1, none⟩)) rfl (by kernel_rfl) (by rfl) (fun _ _ _ h => h) hS ?_ ?_
  · rintro W' ⟨s0, s1, s2, s3⟩; go_simp
  try simp only [Act.put, putA, putZ, putS]
  refine tH 8 (oi := ⟨_, _, _, _, _, _⟩) (v := .int .i64 d) rfl (by kernel_rfl) (by rfl) (fun _ _ _ h => h) hS ?_ ?_
  · rintro W' ⟨s0, s1, s2, s3⟩; go_simp
  try simp only [Act.put, putA, putZ, putS]
  refine wpAnyH_ready (rs := [9]) (by kernel_rfl) (by simp) ?_
  refine AllReadyH.cons (o := ⟨some 14, _, _, _, _, _⟩) rfl (fun K hK => ?_) AllReadyH.nil
  go_simp
  have HM0 : Hid (Below w1.heap.size w1 (X.alloc (.cells #[.int .i64 b, .int .i64 d] 3))) := below_step HM.out (below_alloc X (.cells #[.int .i64 b, .int .i64 d] 3))
  have HO0 : Hid ((X.alloc (.cells #[.int .i64 b, .int .i64 d] 3)).heap[w.heap.size + 1 + 1]? = some (.cells #[.int .i64 0, .int .i64 0] 29 (0, 0))) := ((below_alloc X (.cells #[.int .i64 b, .int .i64 d] 3)).block _ (Array.getElem?_eq_some_iff.1 HO.out).1).trans HO.out
  have HI0 : Hid ((X.alloc (.cells #[.int .i64 b, .int .i64 d] 3)).heap[X.heap.size]? = some (.cells #[.int .i64 b, .int .i64 d] 3 (0, 0))) := heap_alloc_new _ _
  refine hK.out _ _ (HCELL.out _ HM0.out) (fun hS => ?_)
  clear hK K
  try simp only [Act.put, putA, putZ, putS]
  generalize X.heap.size = BI0 at *
  generalize X.alloc (.cells #[.int .i64 b, .int .i64 d] 3) = X0 at *
  refine wpAnyH_ready (rs := [10]) (by kernel_rfl) (by simp) ?_
  refine AllReadyH.cons (o := ⟨some 15, _, _, _, _, _⟩) rfl (fun K hK => ?_) AllReadyH.nil
  go_simp
  refine (smallest_any BI0 b d X0 (cell_of_row _ _ 0 _ _ _ HI0.out) (cell_of_row _ _ 1 _ _ _ HI0.out)).mono ?_
  rintro _ X1 ⟨rfl, rfl⟩
  (try go_wp2_with fail)
  refine hK.out _ _ (HCELL.out _ HM0.out) (fun hS => ?_)
  clear hK K
  try simp only [Act.put, putA, putZ, putS]
  refine tH 11 (oi := ⟨_, _, _, _, _, _⟩) (v := .agg #[.int .i64 (max a c), .int .i64 (min b d)]) rfl (by kernel_rfl) (by rfl) (fun _ _ _ h => h) hS ?_ ?_
  · rintro W' ⟨s0, s1, s2, s3⟩; go_simp
  try simp only [Act.put, putA, putZ, putS]
  refine wpAnyH_ready (rs := [12]) (by kernel_rfl) (by simp) ?_
  refine AllReadyH.cons (o := ⟨none, _, _, _, _, _⟩) rfl (fun K hK => ?_) AllReadyH.nil
  have eb := HO0.out
  have e0 := cell_of_row _ _ 0 _ _ _ eb
  have e1 := cell_of_row _ _ 1 _ _ _ eb
  have f0 := frozen_of_row _ _ 0 _ _ eb
  have f1 := frozen_of_row _ _ 1 _ _ eb
  have HN2 : Hid (((X0.setCell ⟨w.heap.size + 1 + 1, 0, none⟩ (.int .i64 (max a c))).setCell ⟨w.heap.size + 1 + 1, 1, none⟩ (.int .i64 (min b d))).heap[w.heap.size + 1 + 1]? = some (.cells #[.int .i64 (max a c), .int .i64 (min b d)] 29 (0, 0))) := by unfold Hid; simp [World.setCell, Array.getElem?_modify, eb]
  have HE2 : Hid (Below w.heap.size w ((X0.setCell ⟨w.heap.size + 1 + 1, 0, none⟩ (.int .i64 (max a c))).setCell ⟨w.heap.size + 1 + 1, 1, none⟩ (.int .i64 (min b d)))) := ((HB0.out.trans (HM0.out.mono HB0.out.size)).setCell (by simp; omega) _).setCell (by simp; omega) _
  have HC2 : Hid ((fun X : World => X.cell? ⟨w.heap.size, 0, none⟩ = some (.int .i64 a) ∧ X.cell? ⟨w.heap.size, 1, none⟩ = some (.int .i64 b) ∧ X.cell? ⟨w.heap.size + 1, 0, none⟩ = some (.int .i64 c) ∧ X.cell? ⟨w.heap.size + 1, 1, none⟩ = some (.int .i64 d)) ((X0.setCell ⟨w.heap.size + 1 + 1, 0, none⟩ (.int .i64 (max a c))).setCell ⟨w.heap.size + 1 + 1, 1, none⟩ (.int .i64 (min b d)))) := by
    obtain ⟨s0, s1, s2, s3⟩ := HCELL.out X0 HM0.out
    refine ⟨?_, ?_, ?_, ?_⟩ <;> (rw [World.cell?_setCell_far, World.cell?_setCell_far] <;> first | assumption | (simp <;> omega))
  clear eb
  go_simp
  refine hK.out _ _ (HC2.out) (fun hS => ?_)
  clear hK K
  (try simp only [Act.put])
  clear e0 e1 f0 f1
  refine wpAnyH_done (by kernel_rfl) ?_ _
  go_wp2_with fail
  have e0 := cell_of_row _ _ 0 _ _ _ HN2.out
  have e1 := cell_of_row _ _ 1 _ _ _ HN2.out
  refine bodyPost_ret (v := .agg #[.int .i64 (max a c), .int .i64 (min b d)]) (by simp [results, Try.results100, go_sem, e0, e1]) rfl ⟨rfl, HE2.out⟩
attribute [local go_sem ↓] Go.wp_at_zero Go.wp_at_succ in
set_option maxRecDepth 100000 in
set_option maxHeartbeats 4000000 in
theorem living_any (a b c d : Int) (w : World) (ha : 0 ≤ a) (ha2 : a ≤ 1000) (hb : 0 ≤ b) (hb2 : b ≤ 1000) (hc : 0 ≤ c) (hc2 : c ≤ 1000000000) (hd : 0 ≤ d) (hd2 : d ≤ 1000000000) :
    Calls Try.prog 103 #[.agg #[.int .i64 a, .int .i64 b], .agg #[.int .i64 c, .int .i64 d]] w fun e w' => e = .returned (.agg #[.int .i64 (fewestR (a, b) c), .int .i64 (mostR (a, b) d)]) ∧ Below w.heap.size w w' := by
  have HFW := Lib.hid (fun W => fewest_any a b c W hc hc2 ha ha2 hb hb2)
  have HMO := Lib.hid (fun W => most_any a b d W hd hd2 ha ha2 hb hb2)
  generalize fewestR (a, b) c = p at *
  generalize mostR (a, b) d = q at *
  go_enter Try.func103, Try.ntmps103
  go_upto_region 2 with fail
  have HB0 : Hid (Below w.heap.size w (((((w.alloc (.cells #[.int .i64 a, .int .i64 b] 29)).alloc (.cells #[.int .i64 c, .int .i64 d] 29)).alloc (.cells #[.int .i64 0, .int .i64 0] 29)).alloc (.cells #[.func (.func 98) #[] #[]] 159)).alloc (.cells #[.func (.func 97) #[] #[]] 159))) := ((((below_alloc _ _).alloc (by simp) _).alloc (by simp; omega) _).alloc (by simp; omega) _).alloc (by simp; omega) _
  have HK0 : Hid ((((((w.alloc (.cells #[.int .i64 a, .int .i64 b] 29)).alloc (.cells #[.int .i64 c, .int .i64 d] 29)).alloc (.cells #[.int .i64 0, .int .i64 0] 29)).alloc (.cells #[.func (.func 98) #[] #[]] 159)).alloc (.cells #[.func (.func 97) #[] #[]] 159)).heap[w.heap.size]? = some (.cells #[.int .i64 a, .int .i64 b] 29 (0, 0))) := by
    have h := heap_alloc_new w (.cells #[.int .i64 a, .int .i64 b] 29)
    (try simp only [World.size_alloc] at h)
    exact (Below.heap_alloc _ _ _ (by simp; try omega)).trans ((Below.heap_alloc _ _ _ (by simp; try omega)).trans ((Below.heap_alloc _ _ _ (by simp; try omega)).trans ((Below.heap_alloc _ _ _ (by simp; try omega)).trans (h))))
  have HK1 : Hid ((((((w.alloc (.cells #[.int .i64 a, .int .i64 b] 29)).alloc (.cells #[.int .i64 c, .int .i64 d] 29)).alloc (.cells #[.int .i64 0, .int .i64 0] 29)).alloc (.cells #[.func (.func 98) #[] #[]] 159)).alloc (.cells #[.func (.func 97) #[] #[]] 159)).heap[w.heap.size + 1]? = some (.cells #[.int .i64 c, .int .i64 d] 29 (0, 0))) := by
    have h := heap_alloc_new (w.alloc (.cells #[.int .i64 a, .int .i64 b] 29)) (.cells #[.int .i64 c, .int .i64 d] 29)
    (try simp only [World.size_alloc] at h)
    exact (Below.heap_alloc _ _ _ (by simp; try omega)).trans ((Below.heap_alloc _ _ _ (by simp; try omega)).trans ((Below.heap_alloc _ _ _ (by simp; try omega)).trans (h)))
  have HK2 : Hid ((((((w.alloc (.cells #[.int .i64 a, .int .i64 b] 29)).alloc (.cells #[.int .i64 c, .int .i64 d] 29)).alloc (.cells #[.int .i64 0, .int .i64 0] 29)).alloc (.cells #[.func (.func 98) #[] #[]] 159)).alloc (.cells #[.func (.func 97) #[] #[]] 159)).heap[w.heap.size + 1 + 1]? = some (.cells #[.int .i64 0, .int .i64 0] 29 (0, 0))) := by
    have h := heap_alloc_new ((w.alloc (.cells #[.int .i64 a, .int .i64 b] 29)).alloc (.cells #[.int .i64 c, .int .i64 d] 29)) (.cells #[.int .i64 0, .int .i64 0] 29)
    (try simp only [World.size_alloc] at h)
    exact (Below.heap_alloc _ _ _ (by simp; try omega)).trans ((Below.heap_alloc _ _ _ (by simp; try omega)).trans (h))
  have HK3 : Hid ((((((w.alloc (.cells #[.int .i64 a, .int .i64 b] 29)).alloc (.cells #[.int .i64 c, .int .i64 d] 29)).alloc (.cells #[.int .i64 0, .int .i64 0] 29)).alloc (.cells #[.func (.func 98) #[] #[]] 159)).alloc (.cells #[.func (.func 97) #[] #[]] 159)).heap[w.heap.size + 1 + 1 + 1]? = some (.cells #[.func (.func 98) #[] #[]] 159 (0, 0))) := by
    have h := heap_alloc_new (((w.alloc (.cells #[.int .i64 a, .int .i64 b] 29)).alloc (.cells #[.int .i64 c, .int .i64 d] 29)).alloc (.cells #[.int .i64 0, .int .i64 0] 29)) (.cells #[.func (.func 98) #[] #[]] 159)
    (try simp only [World.size_alloc] at h)
    exact (Below.heap_alloc _ _ _ (by simp; try omega)).trans (h)
  have HK4 : Hid ((((((w.alloc (.cells #[.int .i64 a, .int .i64 b] 29)).alloc (.cells #[.int .i64 c, .int .i64 d] 29)).alloc (.cells #[.int .i64 0, .int .i64 0] 29)).alloc (.cells #[.func (.func 98) #[] #[]] 159)).alloc (.cells #[.func (.func 97) #[] #[]] 159)).heap[w.heap.size + 1 + 1 + 1 + 1]? = some (.cells #[.func (.func 97) #[] #[]] 159 (0, 0))) := by
    have h := heap_alloc_new ((((w.alloc (.cells #[.int .i64 a, .int .i64 b] 29)).alloc (.cells #[.int .i64 c, .int .i64 d] 29)).alloc (.cells #[.int .i64 0, .int .i64 0] 29)).alloc (.cells #[.func (.func 98) #[] #[]] 159)) (.cells #[.func (.func 97) #[] #[]] 159)
    (try simp only [World.size_alloc] at h)
    exact h
  generalize (((((w.alloc (.cells #[.int .i64 a, .int .i64 b] 29)).alloc (.cells #[.int .i64 c, .int .i64 d] 29)).alloc (.cells #[.int .i64 0, .int .i64 0] 29)).alloc (.cells #[.func (.func 98) #[] #[]] 159)).alloc (.cells #[.func (.func 97) #[] #[]] 159)) = w1 at *
  have HCELL : Hid (∀ X : World, Below w1.heap.size w1 X → X.cell? ⟨w.heap.size, 0, none⟩ = some (.int .i64 a) ∧ X.cell? ⟨w.heap.size, 1, none⟩ = some (.int .i64 b) ∧ X.cell? ⟨w.heap.size + 1, 0, none⟩ = some (.int .i64 c) ∧ X.cell? ⟨w.heap.size + 1, 1, none⟩ = some (.int .i64 d) ∧ X.cell? ⟨w.heap.size + 1 + 1 + 1, 0, none⟩ = some (.func (.func 98) #[] #[]) ∧ X.cell? ⟨w.heap.size + 1 + 1 + 1 + 1, 0, none⟩ = some (.func (.func 97) #[] #[])) := fun X hX => by
    have k0 := (hX.block _ (Array.getElem?_eq_some_iff.1 HK0.out).1).trans HK0.out
    have k1 := (hX.block _ (Array.getElem?_eq_some_iff.1 HK1.out).1).trans HK1.out
    have k3 := (hX.block _ (Array.getElem?_eq_some_iff.1 HK3.out).1).trans HK3.out
    have k4 := (hX.block _ (Array.getElem?_eq_some_iff.1 HK4.out).1).trans HK4.out
    exact ⟨cell_of_row _ _ 0 _ _ _ k0, cell_of_row _ _ 1 _ _ _ k0, cell_of_row _ _ 0 _ _ _ k1, cell_of_row _ _ 1 _ _ _ k1, cell_of_row _ _ 0 _ _ _ k3, cell_of_row _ _ 0 _ _ _ k4⟩
  have HM : Hid (Below w1.heap.size w1 w1.drew) := (Below.refl _ _).drew
  have HO : Hid (w1.drew.heap[w.heap.size + 1 + 1]? = some (.cells #[.int .i64 0, .int .i64 0] 29 (0, 0))) := HK2.out
  refine wp_region_held_drew (S := fun X => X.cell? ⟨w.heap.size, 0, none⟩ = some (.int .i64 a) ∧ X.cell? ⟨w.heap.size, 1, none⟩ = some (.int .i64 b) ∧ X.cell? ⟨w.heap.size + 1, 0, none⟩ = some (.int .i64 c) ∧ X.cell? ⟨w.heap.size + 1, 1, none⟩ = some (.int .i64 d) ∧ X.cell? ⟨w.heap.size + 1 + 1 + 1, 0, none⟩ = some (.func (.func 98) #[] #[]) ∧ X.cell? ⟨w.heap.size + 1 + 1 + 1 + 1, 0, none⟩ = some (.func (.func 97) #[] #[])) (by kernel_rfl) (HCELL.out _ HM.out) (fun hS => ?_)
  generalize World.drew w1 = X at *
  refine tH 0 (oi := ⟨_, _, _, _, _, _⟩) (v := .pointer (some ⟨w.heap.size + 1 + 1 + 1, 0, none⟩)) rfl (by kernel_rfl) (by rfl) (fun _ _ _ h => h) hS ?_ ?_
  · rintro W' ⟨s0, s1, s2, s3, s4, s5⟩; go_simp
  try simp only [Act.put, putA, putZ, putS]
  refine tH 1 (oi := ⟨_, _, _, _, _, _⟩) (v := .func (.func 98) #[] #[]) rfl (by kernel_rfl) (by rfl) (fun _ _ _ h => h) hS ?_ ?_
  · rintro W' ⟨s0, s1, s2, s3, s4, s5⟩; go_simp
  try simp only [Act.put, putA, putZ, putS]
  refine tH 2 (oi := ⟨_, _, _, _, _, _⟩) (v := .agg #[.int .i64 a, .int .i64 b]) rfl (by kernel_rfl) (by rfl) (fun _ _ _ h => h) hS ?_ ?_
  · rintro W' ⟨s0, s1, s2, s3, s4, s5⟩; go_simp
  try simp only [Act.put, putA, putZ, putS]
  refine tH 3 (oi := ⟨_, _, _, _, _, _⟩) (v := .pointer (some ⟨w.heap.size + 1, 0, none⟩)) rfl (by kernel_rfl) (by rfl) (fun _ _ _ h => h) hS ?_ ?_
  · rintro W' ⟨s0, s1, s2, s3, s4, s5⟩; go_simp
  try simp only [Act.put, putA, putZ, putS]
  refine tH 4 (oi := ⟨_, _, _, _, _, _⟩) (v := .int .i64 c) rfl (by kernel_rfl) (by rfl) (fun _ _ _ h => h) hS ?_ ?_
  · rintro W' ⟨s0, s1, s2, s3, s4, s5⟩; go_simp
  try simp only [Act.put, putA, putZ, putS]
  refine tH 6 (oi := ⟨_, _, _, _, _, _⟩) (v := .pointer (some ⟨w.heap.size + 1 + 1 + 1 + 1, 0, none⟩)) rfl (by kernel_rfl) (by rfl) (fun _ _ _ h => h) hS ?_ ?_
  · rintro W' ⟨s0, s1, s2, s3, s4, s5⟩; go_simp
  try simp only [Act.put, putA, putZ, putS]
  refine tH 7 (oi := ⟨_, _, _, _, _, _⟩) (v := .func (.func 97) #[] #[]) rfl (by kernel_rfl) (by rfl) (fun _ _ _ h => h) hS ?_ ?_
  · rintro W' ⟨s0, s1, s2, s3, s4, s5⟩; go_simp
  try simp only [Act.put, putA, putZ, putS]
  refine tH 8 (oi := ⟨_, _, _, _, _, _⟩) (v := .agg #[.int .i64 a, .int .i64 b]) rfl (by kernel_rfl) (by rfl) (fun _ _ _ h => h) hS ?_ ?_
  · rintro W' ⟨s0, s1, s2, s3, s4, s5⟩; go_simp
  try simp only [Act.put, putA, putZ, putS]
  refine tH 9 (oi := ⟨_, _, _, _, _, _⟩) (v := .pointer (some ⟨w.heap.size + 1, 1, none⟩)) rfl (by kernel_rfl) (by rfl) (fun _ _ _ h => h) hS ?_ ?_
  · rintro W' ⟨s0, s1, s2, s3, s4, s5⟩; go_simp
  try simp only [Act.put, putA, putZ, putS]
  refine tH 10 (oi := ⟨_, _, _, _, _, _⟩) (v := .int .i64 d) rfl (by kernel_rfl) (by rfl) (fun _ _ _ h => h) hS ?_ ?_
  · rintro W' ⟨s0, s1, s2, s3, s4, s5⟩; go_simp
  try simp only [Act.put, putA, putZ, putS]
  refine wpAnyH_ready (rs := [5]) (by kernel_rfl) (by simp) ?_
  refine AllReadyH.cons (o := ⟨some 14, _, _, _, _, _⟩) rfl (fun K hK => ?_) AllReadyH.nil
  go_simp
  refine (HFW.out X).mono ?_
  rintro _ X0 ⟨rfl, hx0⟩
  (try go_wp2_with fail)
  have HM0 : Hid (Below w1.heap.size w1 X0) := below_step HM.out hx0
  have HO0 : Hid (X0.heap[w.heap.size + 1 + 1]? = some (.cells #[.int .i64 0, .int .i64 0] 29 (0, 0))) := (hx0.block _ (Array.getElem?_eq_some_iff.1 HO.out).1).trans HO.out
  refine hK.out _ _ (HCELL.out _ HM0.out) (fun hS => ?_)
  clear hK K
  try simp only [Act.put, putA, putZ, putS]
  clear hx0
  refine wpAnyH_ready (rs := [11]) (by kernel_rfl) (by simp) ?_
  refine AllReadyH.cons (o := ⟨some 20, _, _, _, _, _⟩) rfl (fun K hK => ?_) AllReadyH.nil
  go_simp
  refine (HMO.out X0).mono ?_
  rintro _ X1 ⟨rfl, hx1⟩
  (try go_wp2_with fail)
  have HM1 : Hid (Below w1.heap.size w1 X1) := below_step HM0.out hx1
  have HO1 : Hid (X1.heap[w.heap.size + 1 + 1]? = some (.cells #[.int .i64 0, .int .i64 0] 29 (0, 0))) := (hx1.block _ (Array.getElem?_eq_some_iff.1 HO0.out).1).trans HO0.out
  refine hK.out _ _ (HCELL.out _ HM1.out) (fun hS => ?_)
  clear hK K
  try simp only [Act.put, putA, putZ, putS]
  clear hx1
  refine tH 12 (oi := ⟨_, _, _, _, _, _⟩) (v := .agg #[.int .i64 p, .int .i64 q]) rfl (by kernel_rfl) (by rfl) (fun _ _ _ h => h) hS ?_ ?_
  · rintro W' ⟨s0, s1, s2, s3, s4, s5⟩; go_simp
  try simp only [Act.put, putA, putZ, putS]
  refine wpAnyH_ready (rs := [13]) (by kernel_rfl) (by simp) ?_
  refine AllReadyH.cons (o := ⟨none, _, _, _, _, _⟩) rfl (fun K hK => ?_) AllReadyH.nil
  have eb := HO1.out
  have e0 := cell_of_row _ _ 0 _ _ _ eb
  have e1 := cell_of_row _ _ 1 _ _ _ eb
  have f0 := frozen_of_row _ _ 0 _ _ eb
  have f1 := frozen_of_row _ _ 1 _ _ eb
  have HN2 : Hid (((X1.setCell ⟨w.heap.size + 1 + 1, 0, none⟩ (.int .i64 p)).setCell ⟨w.heap.size + 1 + 1, 1, none⟩ (.int .i64 q)).heap[w.heap.size + 1 + 1]? = some (.cells #[.int .i64 p, .int .i64 q] 29 (0, 0))) := by unfold Hid; simp [World.setCell, Array.getElem?_modify, eb]
  have HE2 : Hid (Below w.heap.size w ((X1.setCell ⟨w.heap.size + 1 + 1, 0, none⟩ (.int .i64 p)).setCell ⟨w.heap.size + 1 + 1, 1, none⟩ (.int .i64 q))) := ((HB0.out.trans (HM1.out.mono HB0.out.size)).setCell (by simp; omega) _).setCell (by simp; omega) _
  have HC2 : Hid ((fun X : World => X.cell? ⟨w.heap.size, 0, none⟩ = some (.int .i64 a) ∧ X.cell? ⟨w.heap.size, 1, none⟩ = some (.int .i64 b) ∧ X.cell? ⟨w.heap.size + 1, 0, none⟩ = some (.int .i64 c) ∧ X.cell? ⟨w.heap.size + 1, 1, none⟩ = some (.int .i64 d) ∧ X.cell? ⟨w.heap.size + 1 + 1 + 1, 0, none⟩ = some (.func (.func 98) #[] #[]) ∧ X.cell? ⟨w.heap.size + 1 + 1 + 1 + 1, 0, none⟩ = some (.func (.func 97) #[] #[])) ((X1.setCell ⟨w.heap.size + 1 + 1, 0, none⟩ (.int .i64 p)).setCell ⟨w.heap.size + 1 + 1, 1, none⟩ (.int .i64 q))) := by
    obtain ⟨s0, s1, s2, s3, s4, s5⟩ := HCELL.out X1 HM1.out
    refine ⟨?_, ?_, ?_, ?_, ?_, ?_⟩ <;> (rw [World.cell?_setCell_far, World.cell?_setCell_far] <;> first | assumption | (simp <;> omega))
  clear eb
  go_simp
  refine hK.out _ _ (HC2.out) (fun hS => ?_)
  clear hK K
  (try simp only [Act.put])
  clear e0 e1 f0 f1
  refine wpAnyH_done (by kernel_rfl) ?_ _
  go_wp2_with fail
  have e0 := cell_of_row _ _ 0 _ _ _ HN2.out
  have e1 := cell_of_row _ _ 1 _ _ _ HN2.out
  refine bodyPost_ret (v := .agg #[.int .i64 p, .int .i64 q]) (by simp [results, Try.results103, go_sem, e0, e1]) rfl ⟨rfl, HE2.out⟩
end Go.Proofs.Ytjaoflfophcibaa

namespace Go.Proofs.Ytjaoflfophcibaa
open Go.RowKit Go.Shelf

/-- A row of ranges. -/
def RsAt (w : World) (sv : Value) (n : Nat) (R : Nat → R2) : Prop :=
  (sv = .slice none 0 0 ∧ n = 0) ∨ ∃ b off cap, sv = .slice (some ⟨b, off, none⟩) n cap ∧ b < w.heap.size ∧ ∀ j, j < n →
    w.cell? ⟨b, off + j * 2, none⟩ = some (.int .i64 (R j).1) ∧ w.cell? ⟨b, off + j * 2 + 1, none⟩ = some (.int .i64 (R j).2)
theorem RsAt.below {w w' : World} {sv : Value} {n : Nat} {R : Nat → R2} (h : RsAt w sv n R) (hB : Below w.heap.size w w') : RsAt w' sv n R := by
  rcases h with h | ⟨b, off, cap, rfl, hb, hz⟩
  · exact .inl h
  · refine .inr ⟨b, off, cap, rfl, Nat.lt_of_lt_of_le hb hB.size, fun j hj => ?_⟩
    obtain ⟨h0, h1⟩ := hz j hj
    exact ⟨(hB.cell (p := ⟨b, _, none⟩) hb).trans h0, (hB.cell (p := ⟨b, _, none⟩) hb).trans h1⟩
theorem RsAt.slice {w : World} {sv : Value} {n : Nat} {R : Nat → R2} (h : RsAt w sv n R) : ∃ a cap, sv = .slice a n cap := by
  rcases h with ⟨rfl, rfl⟩ | ⟨b, off, cap, rfl, _⟩
  · exact ⟨_, _, rfl⟩
  · exact ⟨_, _, rfl⟩
theorem RsAt.at {w : World} {a : Option Addr} {n cap : Nat} {R : Nat → R2} (h : RsAt w (.slice a n cap) n R) {k : Nat} (hk : k < n) : ∃ b off, a = some ⟨b, off, none⟩ ∧ b < w.heap.size ∧ w.cell? ⟨b, off + k * 2, none⟩ = some (.int .i64 (R k).1) ∧ w.cell? ⟨b, off + k * 2 + 1, none⟩ = some (.int .i64 (R k).2) := by
  rcases h with ⟨_, h⟩ | ⟨b', o', c', e, hb, hz⟩
  · omega
  · cases e; exact ⟨b', o', rfl, hb, hz k hk⟩
/-- What IndexFunc gives for 'not p'. -/
def IdxPost (p : Nat → Bool) (n : Nat) (w : World) (e : Ending) (w' : World) : Prop := ∃ r : Int, e = .returned (.int .i64 r) ∧ decide (0 ≤ r) = !allB p n ∧ Below w.heap.size w w'
set_option maxHeartbeats 1000000 in
theorem indexFunc_rs_nil (fv : Value) (w : World) :
    Calls Try.prog 118 #[.slice none 0 0, fv] w fun e w' => e = .returned (.int .i64 (-1)) ∧ w = w' := by
  go_enter Try.func118, Try.ntmps118
  go_wp2
  go_loop [8] (fun i => i = .int .i64 0) (fun _ => 0)
  case atStart => rfl
  case round =>
    obtain rfl := hrel
    go_wp2
    go_ret
    exact ⟨rfl, rfl⟩
set_option maxHeartbeats 1000000 in
theorem closure_isCount (c : Nat) (r : R2) (w : World) (hl : c < w.heap.size) (hc : w.cell? ⟨c, 0, none⟩ = some (.func (.func 70) #[] #[])) :
    Calls Try.prog 110 #[.agg #[.int .i64 r.1, .int .i64 r.2], .pointer (some ⟨c, 0, none⟩)] w fun e w' => e = .returned (.bool (!isCountR r)) ∧ Below w.heap.size w w' := by
  go_enter Try.func110, Try.ntmps110
  go_wp2_with (go_at_call 70; refine (isCount_any r.1 r.2 _).mono ?_; rintro e w2 ⟨rfl, hb⟩)
  go_ret
  exact ⟨rfl, (below_alloc w _).trans (hb.mono (by simp))⟩
set_option maxHeartbeats 1000000 in
theorem indexFunc_isCount_some (c b off cap n : Nat) (R : Nat → R2) (w : World) (hlen : n ≤ 100000) (hl : c < w.heap.size) (hc : w.cell? ⟨c, 0, none⟩ = some (.func (.func 70) #[] #[]))
    (hz : RsAt w (.slice (some ⟨b, off, none⟩) n cap) n R) :
    Calls Try.prog 118 #[.slice (some ⟨b, off, none⟩) n cap, .func (.func 110) #[] #[.pointer (some ⟨c, 0, none⟩)]] w (IdxPost (fun j => isCountR (R j)) n w) := by
  have HZ := Lib.hid hz; clear hz
  have HC := Lib.hid hc; clear hc
  have HV := Lib.hid closure_isCount
  go_enter Try.func118, Try.ntmps118
  go_wp2
  go_loopw [8] (fun i wr => ∃ k : Nat, k ≤ n ∧ i = .int .i64 k ∧ (∀ q, q < k → isCountR (R q) = true) ∧ Below w.heap.size w wr) (fun i _ => n - (intOf i).toNat)
  case atStart => exact ⟨0, Nat.zero_le _, rfl, fun q h => absurd h (Nat.not_lt_zero _), Below.refl _ _⟩
  case round =>
    obtain ⟨k, hk, rfl, hall, hbl⟩ := hrel
    have HA := Lib.hid hall; clear hall
    have hl' := Nat.lt_of_lt_of_le hl hbl.size
    have HC' := Lib.hid ((hbl.cell (p := ⟨c, 0, none⟩) hl).trans HC.out)
    have HB := Lib.hid hbl; clear hbl
    by_cases hlt : k < n
    · have hcx : wr.cell? ⟨b, off + k * 2, none⟩ = some (.int .i64 (R k).1) ∧ wr.cell? ⟨b, off + k * 2 + 1, none⟩ = some (.int .i64 (R k).2) := by
        rcases HZ.out.below HB.out with ⟨h, _⟩ | ⟨b', off', cap', h, _, hz⟩
        · cases h
        · cases h; exact hz k hlt
      obtain ⟨x0, x1⟩ := hcx
      by_cases hin : isCountR (R k) = true
      · go_wp2_with (go_at_call 110; refine (HV.out c (R k) _ hl' HC'.out).mono ?_; rintro r w2 ⟨rfl, hb2⟩)
        go_roundw
        case rel => exact ⟨k + 1, by omega, by go_num, (fun q hq => by rcases Nat.lt_succ_iff_lt_or_eq.1 hq with h | rfl; exact HA.out q h; exact hin), HB.out.trans (hb2.mono HB.out.size)⟩
        case measure => simp [intOf]; omega
      · have hin' : isCountR (R k) = false := by simpa using hin
        clear hin
        go_wp2_with (go_at_call 110; refine (HV.out c (R k) _ hl' HC'.out).mono ?_; rintro r w2 ⟨rfl, hb2⟩)
        go_ret
        exact ⟨_, rfl, by rw [allB_false hlt hin']; simp, HB.out.trans (hb2.mono HB.out.size)⟩
    · obtain rfl : k = n := by omega
      go_wp2
      go_ret
      exact ⟨_, rfl, by rw [allB_true HA.out]; rfl, HB.out⟩
theorem indexFunc_isCount (c n : Nat) (sv : Value) (R : Nat → R2) (w : World) (hlen : n ≤ 100000) (hl : c < w.heap.size) (hc : w.cell? ⟨c, 0, none⟩ = some (.func (.func 70) #[] #[])) (hz : RsAt w sv n R) :
    Calls Try.prog 118 #[sv, .func (.func 110) #[] #[.pointer (some ⟨c, 0, none⟩)]] w (IdxPost (fun j => isCountR (R j)) n w) := by
  have hz' := hz
  rcases hz with ⟨rfl, rfl⟩ | ⟨b, off, cap, rfl, _, hz⟩
  · refine (indexFunc_rs_nil _ w).mono ?_
    rintro e w' ⟨rfl, rfl⟩
    exact ⟨_, rfl, by simp [allB], Below.refl _ _⟩
  · exact indexFunc_isCount_some c b off cap n R w  hlen hl hc hz'
set_option maxHeartbeats 1000000 in
theorem containsFunc_isCount (c n : Nat) (sv : Value) (R : Nat → R2) (w : World) (hlen : n ≤ 100000) (hl : c < w.heap.size) (hc : w.cell? ⟨c, 0, none⟩ = some (.func (.func 70) #[] #[])) (hz : RsAt w sv n R) :
    Calls Try.prog 109 #[sv, .func (.func 110) #[] #[.pointer (some ⟨c, 0, none⟩)]] w fun e w' => e = .returned (.bool (!allB (fun j => isCountR (R j)) n)) ∧ Below w.heap.size w w' := by
  have HI := Lib.hid (indexFunc_isCount c n sv R w  hlen hl hc hz); clear hc hz
  go_enter Try.func109, Try.ntmps109
  go_wp2_with (go_at_call 118; refine HI.out.mono ?_; rintro e w' ⟨r, rfl, hr, hb⟩; have HR := Lib.hid hr; clear hr)
  go_ret
  exact ⟨ret_bool HR.out, hb⟩
set_option maxHeartbeats 1000000 in
theorem all_isCount (n : Nat) (sv : Value) (R : Nat → R2) (w : World) (hlen : n ≤ 100000) (hz : RsAt w sv n R) :
    Calls Try.prog 82 #[sv, .func (.func 70) #[] #[]] w fun e w' => e = .returned (.bool (allB (fun j => isCountR (R j)) n)) ∧ Below w.heap.size w w' := by
  have HI := Lib.hid hz; clear hz
  go_enter Try.func82, Try.ntmps82
  go_wp2_with (go_at_call 109; refine (containsFunc_isCount _ n sv R _  hlen (by simp) (box_cell _ _ _) (HI.out.below (below_alloc _ _))).mono ?_; rintro e w' ⟨rfl, hb⟩)
  go_ret
  exact ⟨ret_bool (by simp), (below_alloc _ _).trans (hb.mono (by simp))⟩
set_option maxHeartbeats 1000000 in
theorem closure_isRate (c : Nat) (r : R2) (w : World) (hl : c < w.heap.size) (hc : w.cell? ⟨c, 0, none⟩ = some (.func (.func 83) #[] #[])) :
    Calls Try.prog 110 #[.agg #[.int .i64 r.1, .int .i64 r.2], .pointer (some ⟨c, 0, none⟩)] w fun e w' => e = .returned (.bool (!isRateR r)) ∧ Below w.heap.size w w' := by
  go_enter Try.func110, Try.ntmps110
  go_wp2_with (go_at_call 83; refine (isRate_any r.1 r.2 _).mono ?_; rintro e w2 ⟨rfl, hb⟩)
  go_ret
  exact ⟨rfl, (below_alloc w _).trans (hb.mono (by simp))⟩
set_option maxHeartbeats 1000000 in
theorem indexFunc_isRate_some (c b off cap n : Nat) (R : Nat → R2) (w : World) (hlen : n ≤ 100000) (hl : c < w.heap.size) (hc : w.cell? ⟨c, 0, none⟩ = some (.func (.func 83) #[] #[]))
    (hz : RsAt w (.slice (some ⟨b, off, none⟩) n cap) n R) :
    Calls Try.prog 118 #[.slice (some ⟨b, off, none⟩) n cap, .func (.func 110) #[] #[.pointer (some ⟨c, 0, none⟩)]] w (IdxPost (fun j => isRateR (R j)) n w) := by
  have HZ := Lib.hid hz; clear hz
  have HC := Lib.hid hc; clear hc
  have HV := Lib.hid closure_isRate
  go_enter Try.func118, Try.ntmps118
  go_wp2
  go_loopw [8] (fun i wr => ∃ k : Nat, k ≤ n ∧ i = .int .i64 k ∧ (∀ q, q < k → isRateR (R q) = true) ∧ Below w.heap.size w wr) (fun i _ => n - (intOf i).toNat)
  case atStart => exact ⟨0, Nat.zero_le _, rfl, fun q h => absurd h (Nat.not_lt_zero _), Below.refl _ _⟩
  case round =>
    obtain ⟨k, hk, rfl, hall, hbl⟩ := hrel
    have HA := Lib.hid hall; clear hall
    have hl' := Nat.lt_of_lt_of_le hl hbl.size
    have HC' := Lib.hid ((hbl.cell (p := ⟨c, 0, none⟩) hl).trans HC.out)
    have HB := Lib.hid hbl; clear hbl
    by_cases hlt : k < n
    · have hcx : wr.cell? ⟨b, off + k * 2, none⟩ = some (.int .i64 (R k).1) ∧ wr.cell? ⟨b, off + k * 2 + 1, none⟩ = some (.int .i64 (R k).2) := by
        rcases HZ.out.below HB.out with ⟨h, _⟩ | ⟨b', off', cap', h, _, hz⟩
        · cases h
        · cases h; exact hz k hlt
      obtain ⟨x0, x1⟩ := hcx
      by_cases hin : isRateR (R k) = true
      · go_wp2_with (go_at_call 110; refine (HV.out c (R k) _ hl' HC'.out).mono ?_; rintro r w2 ⟨rfl, hb2⟩)
        go_roundw
        case rel => exact ⟨k + 1, by omega, by go_num, (fun q hq => by rcases Nat.lt_succ_iff_lt_or_eq.1 hq with h | rfl; exact HA.out q h; exact hin), HB.out.trans (hb2.mono HB.out.size)⟩
        case measure => simp [intOf]; omega
      · have hin' : isRateR (R k) = false := by simpa using hin
        clear hin
        go_wp2_with (go_at_call 110; refine (HV.out c (R k) _ hl' HC'.out).mono ?_; rintro r w2 ⟨rfl, hb2⟩)
        go_ret
        exact ⟨_, rfl, by rw [allB_false hlt hin']; simp, HB.out.trans (hb2.mono HB.out.size)⟩
    · obtain rfl : k = n := by omega
      go_wp2
      go_ret
      exact ⟨_, rfl, by rw [allB_true HA.out]; rfl, HB.out⟩
theorem indexFunc_isRate (c n : Nat) (sv : Value) (R : Nat → R2) (w : World) (hlen : n ≤ 100000) (hl : c < w.heap.size) (hc : w.cell? ⟨c, 0, none⟩ = some (.func (.func 83) #[] #[])) (hz : RsAt w sv n R) :
    Calls Try.prog 118 #[sv, .func (.func 110) #[] #[.pointer (some ⟨c, 0, none⟩)]] w (IdxPost (fun j => isRateR (R j)) n w) := by
  have hz' := hz
  rcases hz with ⟨rfl, rfl⟩ | ⟨b, off, cap, rfl, _, hz⟩
  · refine (indexFunc_rs_nil _ w).mono ?_
    rintro e w' ⟨rfl, rfl⟩
    exact ⟨_, rfl, by simp [allB], Below.refl _ _⟩
  · exact indexFunc_isRate_some c b off cap n R w  hlen hl hc hz'
set_option maxHeartbeats 1000000 in
theorem containsFunc_isRate (c n : Nat) (sv : Value) (R : Nat → R2) (w : World) (hlen : n ≤ 100000) (hl : c < w.heap.size) (hc : w.cell? ⟨c, 0, none⟩ = some (.func (.func 83) #[] #[])) (hz : RsAt w sv n R) :
    Calls Try.prog 109 #[sv, .func (.func 110) #[] #[.pointer (some ⟨c, 0, none⟩)]] w fun e w' => e = .returned (.bool (!allB (fun j => isRateR (R j)) n)) ∧ Below w.heap.size w w' := by
  have HI := Lib.hid (indexFunc_isRate c n sv R w  hlen hl hc hz); clear hc hz
  go_enter Try.func109, Try.ntmps109
  go_wp2_with (go_at_call 118; refine HI.out.mono ?_; rintro e w' ⟨r, rfl, hr, hb⟩; have HR := Lib.hid hr; clear hr)
  go_ret
  exact ⟨ret_bool HR.out, hb⟩
set_option maxHeartbeats 1000000 in
theorem all_isRate (n : Nat) (sv : Value) (R : Nat → R2) (w : World) (hlen : n ≤ 100000) (hz : RsAt w sv n R) :
    Calls Try.prog 82 #[sv, .func (.func 83) #[] #[]] w fun e w' => e = .returned (.bool (allB (fun j => isRateR (R j)) n)) ∧ Below w.heap.size w w' := by
  have HI := Lib.hid hz; clear hz
  go_enter Try.func82, Try.ntmps82
  go_wp2_with (go_at_call 109; refine (containsFunc_isRate _ n sv R _  hlen (by simp) (box_cell _ _ _) (HI.out.below (below_alloc _ _))).mono ?_; rintro e w' ⟨rfl, hb⟩)
  go_ret
  exact ⟨ret_bool (by simp), (below_alloc _ _).trans (hb.mono (by simp))⟩
set_option maxHeartbeats 1000000 in
theorem closure_isNet (c : Nat) (r : R2) (w : World) (hl : c < w.heap.size) (hc : w.cell? ⟨c, 0, none⟩ = some (.func (.func 84) #[] #[])) :
    Calls Try.prog 110 #[.agg #[.int .i64 r.1, .int .i64 r.2], .pointer (some ⟨c, 0, none⟩)] w fun e w' => e = .returned (.bool (!isNetR r)) ∧ Below w.heap.size w w' := by
  go_enter Try.func110, Try.ntmps110
  go_wp2_with (go_at_call 84; refine (isNet_any r.1 r.2 _).mono ?_; rintro e w2 ⟨rfl, hb⟩)
  go_ret
  exact ⟨rfl, (below_alloc w _).trans (hb.mono (by simp))⟩
set_option maxHeartbeats 1000000 in
theorem indexFunc_isNet_some (c b off cap n : Nat) (R : Nat → R2) (w : World) (hlen : n ≤ 100000) (hl : c < w.heap.size) (hc : w.cell? ⟨c, 0, none⟩ = some (.func (.func 84) #[] #[]))
    (hz : RsAt w (.slice (some ⟨b, off, none⟩) n cap) n R) :
    Calls Try.prog 118 #[.slice (some ⟨b, off, none⟩) n cap, .func (.func 110) #[] #[.pointer (some ⟨c, 0, none⟩)]] w (IdxPost (fun j => isNetR (R j)) n w) := by
  have HZ := Lib.hid hz; clear hz
  have HC := Lib.hid hc; clear hc
  have HV := Lib.hid closure_isNet
  go_enter Try.func118, Try.ntmps118
  go_wp2
  go_loopw [8] (fun i wr => ∃ k : Nat, k ≤ n ∧ i = .int .i64 k ∧ (∀ q, q < k → isNetR (R q) = true) ∧ Below w.heap.size w wr) (fun i _ => n - (intOf i).toNat)
  case atStart => exact ⟨0, Nat.zero_le _, rfl, fun q h => absurd h (Nat.not_lt_zero _), Below.refl _ _⟩
  case round =>
    obtain ⟨k, hk, rfl, hall, hbl⟩ := hrel
    have HA := Lib.hid hall; clear hall
    have hl' := Nat.lt_of_lt_of_le hl hbl.size
    have HC' := Lib.hid ((hbl.cell (p := ⟨c, 0, none⟩) hl).trans HC.out)
    have HB := Lib.hid hbl; clear hbl
    by_cases hlt : k < n
    · have hcx : wr.cell? ⟨b, off + k * 2, none⟩ = some (.int .i64 (R k).1) ∧ wr.cell? ⟨b, off + k * 2 + 1, none⟩ = some (.int .i64 (R k).2) := by
        rcases HZ.out.below HB.out with ⟨h, _⟩ | ⟨b', off', cap', h, _, hz⟩
        · cases h
        · cases h; exact hz k hlt
      obtain ⟨x0, x1⟩ := hcx
      by_cases hin : isNetR (R k) = true
      · go_wp2_with (go_at_call 110; refine (HV.out c (R k) _ hl' HC'.out).mono ?_; rintro r w2 ⟨rfl, hb2⟩)
        go_roundw
        case rel => exact ⟨k + 1, by omega, by go_num, (fun q hq => by rcases Nat.lt_succ_iff_lt_or_eq.1 hq with h | rfl; exact HA.out q h; exact hin), HB.out.trans (hb2.mono HB.out.size)⟩
        case measure => simp [intOf]; omega
      · have hin' : isNetR (R k) = false := by simpa using hin
        clear hin
        go_wp2_with (go_at_call 110; refine (HV.out c (R k) _ hl' HC'.out).mono ?_; rintro r w2 ⟨rfl, hb2⟩)
        go_ret
        exact ⟨_, rfl, by rw [allB_false hlt hin']; simp, HB.out.trans (hb2.mono HB.out.size)⟩
    · obtain rfl : k = n := by omega
      go_wp2
      go_ret
      exact ⟨_, rfl, by rw [allB_true HA.out]; rfl, HB.out⟩
theorem indexFunc_isNet (c n : Nat) (sv : Value) (R : Nat → R2) (w : World) (hlen : n ≤ 100000) (hl : c < w.heap.size) (hc : w.cell? ⟨c, 0, none⟩ = some (.func (.func 84) #[] #[])) (hz : RsAt w sv n R) :
    Calls Try.prog 118 #[sv, .func (.func 110) #[] #[.pointer (some ⟨c, 0, none⟩)]] w (IdxPost (fun j => isNetR (R j)) n w) := by
  have hz' := hz
  rcases hz with ⟨rfl, rfl⟩ | ⟨b, off, cap, rfl, _, hz⟩
  · refine (indexFunc_rs_nil _ w).mono ?_
    rintro e w' ⟨rfl, rfl⟩
    exact ⟨_, rfl, by simp [allB], Below.refl _ _⟩
  · exact indexFunc_isNet_some c b off cap n R w  hlen hl hc hz'
set_option maxHeartbeats 1000000 in
theorem containsFunc_isNet (c n : Nat) (sv : Value) (R : Nat → R2) (w : World) (hlen : n ≤ 100000) (hl : c < w.heap.size) (hc : w.cell? ⟨c, 0, none⟩ = some (.func (.func 84) #[] #[])) (hz : RsAt w sv n R) :
    Calls Try.prog 109 #[sv, .func (.func 110) #[] #[.pointer (some ⟨c, 0, none⟩)]] w fun e w' => e = .returned (.bool (!allB (fun j => isNetR (R j)) n)) ∧ Below w.heap.size w w' := by
  have HI := Lib.hid (indexFunc_isNet c n sv R w  hlen hl hc hz); clear hc hz
  go_enter Try.func109, Try.ntmps109
  go_wp2_with (go_at_call 118; refine HI.out.mono ?_; rintro e w' ⟨r, rfl, hr, hb⟩; have HR := Lib.hid hr; clear hr)
  go_ret
  exact ⟨ret_bool HR.out, hb⟩
set_option maxHeartbeats 1000000 in
theorem all_isNet (n : Nat) (sv : Value) (R : Nat → R2) (w : World) (hlen : n ≤ 100000) (hz : RsAt w sv n R) :
    Calls Try.prog 82 #[sv, .func (.func 84) #[] #[]] w fun e w' => e = .returned (.bool (allB (fun j => isNetR (R j)) n)) ∧ Below w.heap.size w w' := by
  have HI := Lib.hid hz; clear hz
  go_enter Try.func82, Try.ntmps82
  go_wp2_with (go_at_call 109; refine (containsFunc_isNet _ n sv R _  hlen (by simp) (box_cell _ _ _) (HI.out.below (below_alloc _ _))).mono ?_; rintro e w' ⟨rfl, hb⟩)
  go_ret
  exact ⟨ret_bool (by simp), (below_alloc _ _).trans (hb.mono (by simp))⟩
end Go.Proofs.Ytjaoflfophcibaa

namespace Go.Proofs.Ytjaoflfophcibaa
open Go.RowKit Go.Shelf

/-- Rows of ranges. -/
def RowsAt (w : World) (sv : Value) (n : Nat) (rl : Nat → Nat) (ct : Nat → Nat → R2) : Prop :=
  (sv = .slice none 0 0 ∧ n = 0) ∨ ∃ b off cap, sv = .slice (some ⟨b, off, none⟩) n cap ∧ b < w.heap.size ∧ ∀ j, j < n → ∃ rv, w.cell? ⟨b, off + j, none⟩ = some rv ∧ RsAt w rv (rl j) (ct j)
theorem RowsAt.below {w w' : World} {sv : Value} {n : Nat} {rl : Nat → Nat} {ct : Nat → Nat → R2} (h : RowsAt w sv n rl ct) (hB : Below w.heap.size w w') : RowsAt w' sv n rl ct := by
  rcases h with h | ⟨b, off, cap, rfl, hb, hz⟩
  · exact .inl h
  · refine .inr ⟨b, off, cap, rfl, Nat.lt_of_lt_of_le hb hB.size, fun j hj => ?_⟩
    obtain ⟨rv, h0, h1⟩ := hz j hj
    exact ⟨rv, (hB.cell (p := ⟨b, _, none⟩) hb).trans h0, h1.below hB⟩
theorem RowsAt.slice {w : World} {sv : Value} {n : Nat} {rl : Nat → Nat} {ct : Nat → Nat → R2} (h : RowsAt w sv n rl ct) : ∃ a cap, sv = .slice a n cap := by
  rcases h with ⟨rfl, rfl⟩ | ⟨b, off, cap, rfl, _⟩
  · exact ⟨_, _, rfl⟩
  · exact ⟨_, _, rfl⟩
theorem RowsAt.at {w : World} {a : Option Addr} {n cap : Nat} {rl : Nat → Nat} {ct : Nat → Nat → R2} (h : RowsAt w (.slice a n cap) n rl ct) {k : Nat} (hk : k < n) : ∃ b off ra rc, a = some ⟨b, off, none⟩ ∧ b < w.heap.size ∧ w.cell? ⟨b, off + k, none⟩ = some (.slice ra (rl k) rc) ∧ RsAt w (.slice ra (rl k) rc) (rl k) (ct k) := by
  rcases h with ⟨_, h⟩ | ⟨b', o', c', e, hb, hz⟩
  · omega
  · cases e
    obtain ⟨rv, h0, h1⟩ := hz k hk
    obtain ⟨ra, rc, rfl⟩ := h1.slice
    exact ⟨b', o', ra, rc, rfl, hb, h0, h1⟩
/-- The table t lies in world w as value v. -/
def TbAt (w : World) (v : Value) (t : Tb) : Prop :=
  ∃ ca cc ba bc ra rc na nc, v = .agg #[.slice ca t.nc cc, .slice ba t.nb bc, .slice ra t.nr rc, .slice na t.nn nc] ∧ RowsAt w (.slice ca t.nc cc) t.nc t.rl t.ct ∧ RsAt w (.slice ba t.nb bc) t.nb t.b ∧ RsAt w (.slice ra t.nr rc) t.nr t.r ∧ RsAt w (.slice na t.nn nc) t.nn t.n
theorem TbAt.below {w w' : World} {v : Value} {t : Tb} (h : TbAt w v t) (hB : Below w.heap.size w w') : TbAt w' v t := by
  obtain ⟨ca, cc, ba, bc, ra, rc, na, nc, rfl, h1, h2, h3, h4⟩ := h
  exact ⟨_, _, _, _, _, _, _, _, rfl, h1.below hB, h2.below hB, h3.below hB, h4.below hB⟩
/-- Lengths that the walks can bear. -/
def Tb.small (t : Tb) : Prop := t.nc ≤ 100000 ∧ (∀ c, t.rl c ≤ 100000) ∧ t.nb ≤ 100000 ∧ t.nr ≤ 100000 ∧ t.nn ≤ 100000
theorem Tb.small.ng {t : Tb} (h : t.small) : t.ng ≤ 100000 := by
  unfold Tb.ng; split
  · omega
  · exact h.2.1 0

set_option maxRecDepth 100000 in
set_option maxHeartbeats 1000000 in
theorem groups_any (v : Value) (t : Tb) (w : World) (h : TbAt w v t) (hs : t.small) :
    Calls Try.prog 57 #[v] w fun e w' => e = .returned (.int .i64 (t.ng : Nat)) ∧ Below w.heap.size w w' := by
  obtain ⟨ca, cc, ba, bc, ra, rc, na, nc, rfl, h1, _⟩ := h
  have h0 := hs.1
  by_cases hz : t.nc = 0
  · have HE : Hid (t.ng = 0) := by unfold Hid Tb.ng; rw [if_pos hz]
    clear h1
    generalize t.nc = k at *
    subst hz
    go_enter Try.func57, Try.ntmps57
    go_wp2
    go_ret
    exact ⟨ret_int (by rw [HE.out]; rfl), below_alloc _ _⟩
  · have HE : Hid (t.ng = t.rl 0) := by unfold Hid Tb.ng; rw [if_neg hz]
    obtain ⟨b, off, qa, qc, rfl, hb, hc, _⟩ := (h1.below (below_alloc w (.cells #[.slice ca t.nc cc, .slice ba t.nb bc, .slice ra t.nr rc, .slice na t.nn nc] 36))).at (k := 0) (by omega)
    rw [Nat.add_zero] at hc
    have hr := hs.2.1 0
    have hnz : ((t.nc : Int) == 0) = false := by simp; omega
    have hp : (0 : Int) < (t.nc : Int) := by omega
    clear h1 hs hz hb
    generalize t.nc = k at *
    generalize t.rl 0 = l at *
    go_enter Try.func57, Try.ntmps57
    go_wp2
    go_ret
    exact ⟨ret_int (by rw [HE.out]), below_alloc _ _⟩
set_option maxRecDepth 100000 in
set_option maxHeartbeats 1000000 in
theorem counted_any (v rv : Value) (t : Tb) (l : Nat) (R : Nat → R2) (w : World) (h : TbAt w v t) (hs : t.small) (hl : l ≤ 100000) (hr : RsAt w rv l R) :
    Calls Try.prog 80 #[v, rv] w fun e w' => e = .returned (.bool (l == t.ng && allB (fun g => isCountR (R g)) l)) ∧ Below w.heap.size w w' := by
  have HT := Lib.hid h
  have HG := Lib.hid (fun W hW => groups_any v t W (h.below hW) hs)
  have HA := Lib.hid (fun W hW => all_isCount l rv R W hl (hr.below hW))
  have hg := hs.ng
  obtain ⟨ca, cc, ba, bc, ra, rc, na, nc, rfl, _⟩ := h
  obtain ⟨qa, qc, rfl⟩ := hr.slice
  clear hr hs
  generalize t.ng = g at *
  have HB0 : Hid (Below w.heap.size w (w.alloc (.cells #[.slice ca t.nc cc, .slice ba t.nb bc, .slice ra t.nr rc, .slice na t.nn nc] 36))) := below_alloc _ _
  by_cases he : l = g
  · subst he
    have HL : Hid ((l == l) = true) := by unfold Hid; simp
    have hb : ((l : Int) == (l : Int)) = true := by simp
    go_enter Try.func80, Try.ntmps80
    go_wp2_with (first | (go_at_call 57; refine (HG.out _ HB0.out).mono ?_; rintro _ w1 ⟨rfl, hb1⟩; have HB1 := Lib.hid (below_step HB0.out hb1)) | (go_at_call 82; refine (HA.out _ HB1.out).mono ?_; rintro _ w2 ⟨rfl, hb2⟩))
    go_ret
    exact ⟨ret_bool (by rw [HL.out, Bool.true_and]), below_step HB1.out hb2⟩
  · have hb : ((l : Int) == (g : Int)) = false := by simp; omega
    have HL : Hid ((l == g) = false) := by unfold Hid; simp [he]
    go_enter Try.func80, Try.ntmps80
    go_wp2_with (go_at_call 57; refine (HG.out _ HB0.out).mono ?_; rintro _ w1 ⟨rfl, hb1⟩; have HB1 := Lib.hid (below_step HB0.out hb1))
    go_ret
    exact ⟨ret_bool (by rw [HL.out, Bool.false_and]), HB1.out⟩

set_option maxHeartbeats 1000000 in
theorem closure_row (c : Nat) (v rv : Value) (t : Tb) (l : Nat) (R : Nat → R2) (w : World) (h : TbAt w v t) (hs : t.small) (hl' : l ≤ 100000) (hr : RsAt w rv l R) (_hl : c < w.heap.size) (hc : w.cell? ⟨c, 0, none⟩ = some (.func (.func 80) #[v] #[])) :
    Calls Try.prog 108 #[rv, .pointer (some ⟨c, 0, none⟩)] w fun e w' => e = .returned (.bool (!(l == t.ng && allB (fun g => isCountR (R g)) l))) ∧ Below w.heap.size w w' := by
  have HR := Lib.hid (counted_any v rv t l R w h hs hl' hr)
  obtain ⟨qa, qc, rfl⟩ := hr.slice
  clear h hr
  generalize (l == t.ng && allB (fun g => isCountR (R g)) l) = r at *
  go_enter Try.func108, Try.ntmps108
  go_wp2_with (go_at_call 80; refine HR.out.mono ?_; rintro e w2 ⟨rfl, hb⟩)
  go_ret
  exact ⟨rfl, hb⟩
set_option maxHeartbeats 1000000 in
theorem indexFunc_rows_nil (fv : Value) (w : World) :
    Calls Try.prog 117 #[.slice none 0 0, fv] w fun e w' => e = .returned (.int .i64 (-1)) ∧ w = w' := by
  go_enter Try.func117, Try.ntmps117
  go_wp2
  go_loop [8] (fun i => i = .int .i64 0) (fun _ => 0)
  case atStart => rfl
  case round =>
    obtain rfl := hrel
    go_wp2
    go_ret
    exact ⟨rfl, rfl⟩
def rowB (ng : Nat) (rl : Nat → Nat) (ct : Nat → Nat → R2) (c : Nat) : Bool := rl c == ng && allB (fun g => isCountR (ct c g)) (rl c)
set_option maxHeartbeats 1000000 in
theorem indexFunc_rows_some (c b off cap n : Nat) (v : Value) (t : Tb) (rl : Nat → Nat) (ct : Nat → Nat → R2) (w : World) (h : TbAt w v t) (hs : t.small) (hrl : ∀ j, rl j ≤ 100000) (hlen : n ≤ 100000) (hl : c < w.heap.size) (hc : w.cell? ⟨c, 0, none⟩ = some (.func (.func 80) #[v] #[]))
    (hz : RowsAt w (.slice (some ⟨b, off, none⟩) n cap) n rl ct) :
    Calls Try.prog 117 #[.slice (some ⟨b, off, none⟩) n cap, .func (.func 108) #[] #[.pointer (some ⟨c, 0, none⟩)]] w (IdxPost (rowB t.ng rl ct) n w) := by
  have HZ := Lib.hid hz; clear hz
  have HC := Lib.hid hc; clear hc
  have HT := Lib.hid h; clear h
  have HS := Lib.hid hs; clear hs
  have HV := Lib.hid (fun k rv W h1 h2 h3 h4 => closure_row c v rv t (rl k) (ct k) W h1 HS.out (hrl k) h2 h3 h4)
  have HD : Hid (∀ k, (rl k == t.ng && allB (fun g => isCountR (ct k g)) (rl k)) = rowB t.ng rl ct k) := fun _ => rfl
  clear hrl
  go_enter Try.func117, Try.ntmps117
  go_wp2
  go_loopw [8] (fun i wr => ∃ k : Nat, k ≤ n ∧ i = .int .i64 k ∧ (∀ q, q < k → rowB t.ng rl ct q = true) ∧ Below w.heap.size w wr) (fun i _ => n - (intOf i).toNat)
  case atStart => exact ⟨0, Nat.zero_le _, rfl, fun q h => absurd h (Nat.not_lt_zero _), Below.refl _ _⟩
  case round =>
    obtain ⟨k, hk, rfl, hall, hbl⟩ := hrel
    have HA := Lib.hid hall; clear hall
    have hl' := Nat.lt_of_lt_of_le hl hbl.size
    have HC' := Lib.hid ((hbl.cell (p := ⟨c, 0, none⟩) hl).trans HC.out)
    have HB := Lib.hid hbl; clear hbl
    by_cases hlt : k < n
    · obtain ⟨b', off', ra, rc, e, _, hx, hrs⟩ := (HZ.out.below HB.out).at hlt
      cases e
      have HRS := Lib.hid hrs; clear hrs
      have ki : (0 : Int) ≤ (k : Int) := by omega
      have kj : (k : Int) < (n : Int) := by omega
      by_cases hin : rowB t.ng rl ct k = true
      · go_wp2_with (go_at_call 108; refine (HV.out k _ _ (HT.out.below HB.out) HRS.out hl' HC'.out).mono ?_; rw [HD.out, hin]; rintro r w2 ⟨rfl, hb2⟩)
        go_roundw
        case rel => exact ⟨k + 1, by omega, by go_num, (fun q hq => by rcases Nat.lt_succ_iff_lt_or_eq.1 hq with h | rfl; exact HA.out q h; exact hin), HB.out.trans (hb2.mono HB.out.size)⟩
        case measure => simp [intOf]; omega
      · have hin' : rowB t.ng rl ct k = false := by simpa using hin
        clear hin
        go_wp2_with (go_at_call 108; refine (HV.out k _ _ (HT.out.below HB.out) HRS.out hl' HC'.out).mono ?_; rw [HD.out, hin']; rintro r w2 ⟨rfl, hb2⟩)
        go_ret
        exact ⟨_, rfl, by rw [allB_false hlt hin']; simp, HB.out.trans (hb2.mono HB.out.size)⟩
    · obtain rfl : k = n := by omega
      go_wp2
      go_ret
      exact ⟨_, rfl, by rw [allB_true HA.out]; rfl, HB.out⟩
set_option maxHeartbeats 1000000 in
theorem all_rows (n : Nat) (sv v : Value) (t : Tb) (rl : Nat → Nat) (ct : Nat → Nat → R2) (w : World) (h : TbAt w v t) (hs : t.small) (hrl : ∀ j, rl j ≤ 100000) (hlen : n ≤ 100000) (hz : RowsAt w sv n rl ct) :
    Calls Try.prog 81 #[sv, .func (.func 80) #[v] #[]] w fun e w' => e = .returned (.bool (allB (rowB t.ng rl ct) n)) ∧ Below w.heap.size w w' := by
  have HIX : Hid (∀ c W, Below w.heap.size w W → c < W.heap.size → W.cell? ⟨c, 0, none⟩ = some (.func (.func 80) #[v] #[]) → Calls Try.prog 117 #[sv, .func (.func 108) #[] #[.pointer (some ⟨c, 0, none⟩)]] W (IdxPost (rowB t.ng rl ct) n W)) := fun c W hW hl hc => by
    have hz' := hz.below hW
    have hz2 := hz'
    rcases hz' with ⟨rfl, rfl⟩ | ⟨b, off, cap, rfl, _⟩
    · refine (indexFunc_rows_nil _ W).mono ?_
      rintro e w' ⟨rfl, rfl⟩
      exact ⟨_, rfl, by simp [allB], Below.refl _ _⟩
    · exact indexFunc_rows_some c b off cap n v t rl ct W (h.below hW) hs hrl hlen hl hc hz2
  have HCT : Hid (∀ c W, Below w.heap.size w W → c < W.heap.size → W.cell? ⟨c, 0, none⟩ = some (.func (.func 80) #[v] #[]) → Calls Try.prog 107 #[sv, .func (.func 108) #[] #[.pointer (some ⟨c, 0, none⟩)]] W fun e w' => e = .returned (.bool (!allB (rowB t.ng rl ct) n)) ∧ Below W.heap.size W w') := fun c W hW hl hc => by
    have HI := Lib.hid (HIX.out c W hW hl hc); clear hc HIX
    go_enter Try.func107, Try.ntmps107
    go_wp2_with (go_at_call 117; refine HI.out.mono ?_; rintro e w' ⟨r, rfl, hr, hb⟩; have HR := Lib.hid hr; clear hr)
    go_ret
    exact ⟨ret_bool HR.out, hb⟩
  clear HIX h hz hs hrl
  go_enter Try.func81, Try.ntmps81
  go_wp2_with (go_at_call 107; refine (HCT.out _ _ (below_alloc _ _) (by simp) (box_cell _ _ _)).mono ?_; rintro e w' ⟨rfl, hb⟩)
  go_ret
  exact ⟨ret_bool (by simp), (below_alloc _ _).trans (hb.mono (by simp))⟩
end Go.Proofs.Ytjaoflfophcibaa
