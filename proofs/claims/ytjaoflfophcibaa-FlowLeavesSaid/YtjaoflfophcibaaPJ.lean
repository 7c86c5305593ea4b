/- fault, Thin (of the law's package). | word, picked; Dead of the reference. | Truths, plain and in memory; what Play reckons. -/
import Derived.Test.YtjaoflfophcibaaGS
namespace Go.Proofs.Ytjaoflfophcibaa
open Go.RowKit Go.Shelf

set_option maxHeartbeats 1000000 in
theorem lfault_any (x : WV) (t : Tb) (hs : t.small) (w : World) (hl : WLi w x t) :
    Calls Try.prog 21 #[.agg #[x.cv t, x.bv t, x.rv t, x.nv t]] w fun e w' => e = .returned (.int .i64 t.fault) ∧ Below w.heap.size w w' := by
  have HF : Hid (∀ X, Below w.heap.size w X → Calls Try.prog 63 #[.agg #[x.cv t, x.bv t, x.rv t, x.nv t]] X fun e w' => e = .returned (.int .i64 t.fault) ∧ Below X.heap.size X w') := fun X hX => refFault_any x t hs X (hl.below hX)
  clear hl hs
  simp only [WV.cv, WV.bv, WV.rv, WV.nv] at HF ⊢
  have hf : ∃ f, Hid (t.fault = f) := ⟨_, rfl⟩
  obtain ⟨f, hf⟩ := hf
  rw [hf.out] at HF ⊢
  go_enter Try.func21, Try.ntmps21
  go_wp2_with (go_at_call 63; refine (HF.out _ (below_alloc _ _)).mono ?_; rintro _ w1 ⟨rfl, hb1⟩)
  go_ret
  exact ⟨rfl, below_step (below_alloc _ _) hb1⟩
def Tb.thin (t : Tb) : Bool := allB (fun c => decide (t.rl c ≤ 7)) (min t.nc 8) && (decide (t.nc ≤ 7) && decide (t.nb ≤ 7) && decide (t.nr ≤ 7) && decide (t.nn ≤ 7))
set_option maxRecDepth 100000 in
set_option maxHeartbeats 4000000 in
theorem thin_any (x : WV) (t : Tb) (hs : t.small) (w : World) (hl : WLi w x t) :
    Calls Try.prog 17 #[.agg #[x.cv t, x.bv t, x.rv t, x.nv t]] w fun e w' => e = .returned (.bool t.thin) ∧ Below w.heap.size w w' := by
  obtain ⟨hs1, hs2, hs3, hs4, hs5⟩ := hs
  have HS2 := Lib.hid hs2
  have HRC := Lib.hid hl.1
  clear hl hs2
  simp only [WV.cv, WV.bv, WV.rv, WV.nv] at HRC ⊢
  have HA0 : Hid (BF w (w.alloc (.cells #[.slice x.ca t.nc x.cc, .slice x.ba t.nb x.bc, .slice x.ra t.nr x.rc, .slice x.na t.nn x.nc] 25)) [(w.heap.size, #[.slice x.ca t.nc x.cc, .slice x.ba t.nb x.bc, .slice x.ra t.nr x.rc, .slice x.na t.nn x.nc], 25)]) := (BF.base w).alloc _ _
  go_enter Try.func17, Try.ntmps17
  go_wp2_with fail
  go_loopw [3] (fun i wr => ∃ k : Nat, k ≤ min t.nc 8 ∧ i = .int .i64 k ∧ (∀ q, q < k → decide (t.rl q ≤ 7) = true) ∧ BF w wr [(w.heap.size, #[.slice x.ca t.nc x.cc, .slice x.ba t.nb x.bc, .slice x.ra t.nr x.rc, .slice x.na t.nn x.nc], 25)]) (fun i _ => t.nc - (intOf i).toNat)
  case atStart => exact ⟨0, Nat.zero_le _, rfl, fun q h => absurd h (Nat.not_lt_zero _), HA0.out⟩
  case round =>
    clear HA0
    obtain ⟨k, hk, rfl, hall, hbf⟩ := hrel
    have HALL := Lib.hid hall; have HA0 := Lib.hid hbf
    clear hall hbf
    have c0 := HA0.out.cell (.head _) 0
    have c1 := HA0.out.cell (.head _) 1
    have c2 := HA0.out.cell (.head _) 2
    have c3 := HA0.out.cell (.head _) 3
    have ki : (0 : Int) ≤ (k : Int) := by omega
    by_cases hlt : k < t.nc
    · have kj : (k : Int) < (t.nc : Int) := by omega
      by_cases h8 : k < 8
      · obtain ⟨bc, oc, ra, rc, hca, hbc, hx, hrow⟩ := HRC.out.at hlt
        rw [hca] at c0
        have y0 := kept HA0.out.fr hbc hx
        have hrl := HS2.out k
        clear hrow hx hca
        by_cases h7 : t.rl k ≤ 7
        · go_wp2_with fail
          go_roundw
          case rel => exact ⟨k + 1, by omega, by go_num, fun q hq => by rcases Nat.lt_succ_iff_lt_or_eq.1 hq with h | rfl; exact HALL.out q h; exact decide_eq_true h7, HA0.out⟩
          case measure => simp [intOf]; omega
        · go_wp2_with fail
          go_ret
          exact ⟨ret_bool (by unfold Tb.thin; rw [allB_false (k := k) (by omega) (decide_eq_false h7)]; rfl), HA0.out.fr⟩
      · have h9 : ¬ t.nc ≤ 7 := by omega
        have HE : Hid (t.thin = false) := by unfold Hid Tb.thin; rw [decide_eq_false h9]; simp
        go_wp2_with fail
        go_ret
        exact ⟨ret_bool HE.out.symm, HA0.out.fr⟩
    · have HE : Hid (t.thin = (decide (t.nc ≤ 7) && decide (t.nb ≤ 7) && decide (t.nr ≤ 7) && decide (t.nn ≤ 7))) := by unfold Hid Tb.thin; rw [allB_true (fun q hq => HALL.out q (by omega))]; rfl
      have kj : ¬ (k : Int) < (t.nc : Int) := by omega
      by_cases e1 : t.nc ≤ 7
      · by_cases e2 : t.nb ≤ 7
        · by_cases e3 : t.nr ≤ 7
          · by_cases e4 : t.nn ≤ 7
            all_goals
              go_wp2_with fail
              go_ret
              exact ⟨ret_bool (by rw [HE.out]; simp [e1, e2, e3, e4]; omega), HA0.out.fr⟩
          · go_wp2_with fail
            go_ret
            exact ⟨ret_bool (by rw [HE.out]; simp [e1, e2, e3]), HA0.out.fr⟩
        · go_wp2_with fail
          go_ret
          exact ⟨ret_bool (by rw [HE.out]; simp [e1, e2]), HA0.out.fr⟩
      · go_wp2_with fail
        go_ret
        exact ⟨ret_bool (by rw [HE.out]; simp [e1]), HA0.out.fr⟩
end Go.Proofs.Ytjaoflfophcibaa

namespace Go.Proofs.Ytjaoflfophcibaa
open Go.RowKit Go.Shelf

/-- What a slice of words of the caller's reads as. -/
def WordsIn (w : World) (sv : Value) (n : Nat) (z : Nat → Int) : Prop :=
  (∃ a cap, sv = .slice a 0 cap ∧ n = 0) ∨ ∃ b off cap, sv = .slice (some ⟨b, off, none⟩) n cap ∧ b < w.heap.size ∧ ∀ j, j < n → w.cell? ⟨b, off + j, none⟩ = some (.int .u16 (z j)) ∧ 0 ≤ z j ∧ z j ≤ 65535
theorem WordsIn.len {w : World} {sv : Value} {n : Nat} {z : Nat → Int} (h : WordsIn w sv n z) : ∃ a cap, sv = .slice a n cap := by
  rcases h with ⟨a, cap, rfl, rfl⟩ | ⟨b, off, cap, rfl, _⟩
  · exact ⟨_, _, rfl⟩
  · exact ⟨_, _, rfl⟩
theorem WordsIn.below {w w' : World} {sv : Value} {n : Nat} {z : Nat → Int} (h : WordsIn w sv n z) (hB : Below w.heap.size w w') : WordsIn w' sv n z := by
  rcases h with h | ⟨b, off, cap, rfl, hb, hz⟩
  · exact .inl h
  · exact .inr ⟨b, off, cap, rfl, Nat.lt_of_lt_of_le hb hB.size, fun j hj => ⟨kept hB hb (hz j hj).1, (hz j hj).2⟩⟩
/-- One of some words. -/
def wordF (n : Nat) (z : Nat → Int) (i : Int) : Int := if n = 0 then 0 else z (i % (n : Int)).toNat
theorem wordF_bd {w : World} {v : Value} {n : Nat} {z : Nat → Int} (h : WordsIn w v n z) (i : Int) : 0 ≤ wordF n z i ∧ wordF n z i ≤ 65535 := by
  unfold wordF
  split
  · omega
  · rename_i h0
    have h1 := Int.emod_nonneg i (show (n : Int) ≠ 0 by omega)
    have h2 := Int.emod_lt_of_pos i (show (0 : Int) < (n : Int) by omega)
    rcases h with ⟨_, _, _, h⟩ | ⟨_, _, _, _, _, hz⟩
    · omega
    · exact (hz _ (by omega)).2
set_option maxHeartbeats 1000000 in
theorem word_any (v : Value) (n : Nat) (z : Nat → Int) (i : Int) (w : World) (h : WordsIn w v n z) (hn : n ≤ maxLen) (hi : 0 ≤ i) (hi2 : i ≤ 1000000000) :
    Calls Try.prog 91 #[v, .int .i64 i] w fun e w' => e = .returned (.int .i64 (wordF n z i)) ∧ w = w' := by
  unfold maxLen at hn
  obtain ⟨a, cap, rfl⟩ := h.len
  by_cases h0 : n = 0
  · have HW : Hid (wordF n z i = 0) := by unfold Hid wordF; rw [if_pos h0]
    subst h0
    clear h
    go_enter Try.func91, Try.ntmps91
    go_wp2
    go_ret
    exact ⟨ret_int HW.out.symm, rfl⟩
  · have hnz : ((n : Int) == 0) = false := beq_eq_false_iff_ne.2 (by omega)
    have hnm : ((n : Int) == -1) = false := beq_eq_false_iff_ne.2 (by omega)
    have h1 := Int.emod_nonneg i (show (n : Int) ≠ 0 by omega)
    have h2 := Int.emod_lt_of_pos i (show (0 : Int) < (n : Int) by omega)
    have HW : Hid (wordF n z i = z (i % (n : Int)).toNat) := by unfold Hid wordF; rw [if_neg h0]
    obtain ⟨q, hq, hqn⟩ : ∃ q : Nat, i % (n : Int) = (q : Int) ∧ q < n := ⟨(i % (n : Int)).toNat, by omega, by omega⟩
    rw [show (i % (n : Int)).toNat = q by omega] at HW
    rcases h with ⟨_, _, _, h⟩ | ⟨b, off, c, e, hb, hz⟩
    · omega
    · cases e
      obtain ⟨x0, x1, x2⟩ := hz q hqn
      generalize z q = x at *
      have ki : (0 : Int) ≤ (q : Int) := by omega
      have kj : (q : Int) < (n : Int) := by omega
      clear hz h0 h1 h2
      go_enter Try.func91, Try.ntmps91
      go_wp2
      go_ret
      exact ⟨ret_int HW.out.symm, rfl⟩
def pickI (a b w : Int) : Int := if w % 4 = 0 then a else if w % 4 = 1 then b else a + w / 4 % (b - a + 1)
theorem pickI_in {a b w : Int} (h : a ≤ b) : a ≤ pickI a b w ∧ pickI a b w ≤ b := by
  unfold pickI
  have h1 := Int.emod_nonneg (w / 4) (show b - a + 1 ≠ 0 by omega)
  have h2 := Int.emod_lt_of_pos (w / 4) (show 0 < b - a + 1 by omega)
  split
  · omega
  · split <;> omega
set_option maxHeartbeats 1000000 in
theorem picked_any (a b v : Int) (w : World) (hv : 0 ≤ v) (hv2 : v ≤ 65535) (hab : a ≤ b) (ha : -1000000 ≤ a) (hb : b ≤ 1000000) :
    Calls Try.prog 90 #[.agg #[.int .i64 a, .int .i64 b], .int .i64 v] w fun e w' => e = .returned (.int .i64 (pickI a b v)) ∧ Below w.heap.size w w' := by
  by_cases e0 : v % 4 = 0
  · have HP : Hid (pickI a b v = a) := by unfold Hid pickI; rw [if_pos e0]
    go_enter Try.func90, Try.ntmps90
    go_wp2_with fail
    go_ret
    exact ⟨ret_int HP.out.symm, below_alloc _ _⟩
  by_cases e1 : v % 4 = 1
  · have HP : Hid (pickI a b v = b) := by unfold Hid pickI; rw [if_neg e0, if_pos e1]
    go_enter Try.func90, Try.ntmps90
    go_wp2_with fail
    go_ret
    exact ⟨ret_int HP.out.symm, below_alloc _ _⟩
  have HP : Hid (pickI a b v = a + v / 4 % (b - a + 1)) := by unfold Hid pickI; rw [if_neg e0, if_neg e1]
  have h1 := Int.emod_nonneg (v / 4) (show b - a + 1 ≠ 0 by omega)
  have h2 := Int.emod_lt_of_pos (v / 4) (show 0 < b - a + 1 by omega)
  have w1 : IntKind.i64.wrap (b - a) = b - a := IntWalk.i64_in _ (by omega)
  have w2 : IntKind.i64.wrap (b - a + 1) = b - a + 1 := IntWalk.i64_in _ (by omega)
  have w3 : IntKind.i64.wrap (a + v / 4 % (b - a + 1)) = a + v / 4 % (b - a + 1) := IntWalk.i64_in _ (by omega)
  have hnz : ((b - a + 1) == 0) = false := beq_eq_false_iff_ne.2 (by omega)
  have hnm : ((b - a + 1) == -1) = false := beq_eq_false_iff_ne.2 (by omega)
  have hq : 0 ≤ v / 4 := by omega
  have hd : 0 ≤ b - a + 1 := by omega
  clear h1 h2
  go_enter Try.func90, Try.ntmps90
  go_wp2_with fail
  go_quiet (fail)
  go_wp2
  go_ret
  exact ⟨ret_int HP.out.symm, (below_alloc _ _).trans (below_drewS _ _ _)⟩
def deadT (r : R2) (n : Int) : R2 := ((n * r.1).tdiv 1000, (n * r.2 + 999).tdiv 1000)
theorem deadT_pos {r : R2} {n : Int} (hn : 0 ≤ n) (h1 : 0 ≤ r.1) (h2 : 0 ≤ r.2) : deadT r n = deadR r n := by
  have q1 : 0 ≤ n * r.1 := Int.mul_nonneg hn h1
  have q2 : 0 ≤ n * r.2 := Int.mul_nonneg hn h2
  unfold deadT deadR
  rw [Int.tdiv_eq_ediv_of_nonneg q1, Int.tdiv_eq_ediv_of_nonneg (by omega)]
theorem tdiv_bd {q M : Int} (h1 : -M ≤ q) (h2 : q ≤ M) : -M ≤ q.tdiv 1000 ∧ q.tdiv 1000 ≤ M := by
  rcases Int.le_total 0 q with h | h
  · rw [Int.tdiv_eq_ediv_of_nonneg h]; omega
  · have e : q = -(-q) := by omega
    rw [e, Int.neg_tdiv, Int.tdiv_eq_ediv_of_nonneg (by omega)]; omega
theorem mul_bd {n a N A : Int} (h1 : -N ≤ n) (h2 : n ≤ N) (ha : 0 ≤ a) (hA : a ≤ A) (hN : 0 ≤ N) : -(N * A) ≤ n * a ∧ n * a ≤ N * A := by
  have q1 : N * a ≤ N * A := Int.mul_le_mul_of_nonneg_left hA hN
  have q2 : n * a ≤ N * a := Int.mul_le_mul_of_nonneg_right h2 ha
  have q3 : (-N) * a ≤ n * a := Int.mul_le_mul_of_nonneg_right h1 ha
  have q4 : (-N) * a = -(N * a) := Int.neg_mul _ _
  omega
set_option maxHeartbeats 1000000 in
theorem rDead_any (n a b : Int) (w : World) (hn : -1000000000 ≤ n) (hn2 : n ≤ 1000000000) (ha : 0 ≤ a) (ha2 : a ≤ 1000) (hb : 0 ≤ b) (hb2 : b ≤ 1000) :
    Calls Try.prog 69 #[.int .i64 n, .agg #[.int .i64 a, .int .i64 b]] w fun e w' => e = .returned (.agg #[.int .i64 (deadT (a, b) n).1, .int .i64 (deadT (a, b) n).2]) ∧ Below w.heap.size w w' := by
  obtain ⟨i0, hi0, hz0, hz1, hz2⟩ := info_parts Try.infoRangeR
  obtain ⟨h1, h2⟩ := mul_bd hn hn2 ha ha2 (by omega)
  obtain ⟨h3, h4⟩ := mul_bd hn hn2 hb hb2 (by omega)
  have w1 : IntKind.i64.wrap (n * a) = n * a := IntWalk.i64_in _ (by omega)
  have w2 : IntKind.i64.wrap (n * b) = n * b := IntWalk.i64_in _ (by omega)
  have w3 : IntKind.i64.wrap (n * b + 999) = n * b + 999 := IntWalk.i64_in _ (by omega)
  obtain ⟨t1, t2⟩ := tdiv_bd (q := n * a) (M := 1000000000000) (by omega) (by omega)
  obtain ⟨t3, t4⟩ := tdiv_bd (q := n * b + 999) (M := 1000000000999) (by omega) (by omega)
  have w4 : IntKind.i64.wrap ((n * a).tdiv 1000) = (n * a).tdiv 1000 := IntWalk.i64_in _ (by omega)
  have w5 : IntKind.i64.wrap ((n * b + 999).tdiv 1000) = (n * b + 999).tdiv 1000 := IntWalk.i64_in _ (by omega)
  unfold deadT
  simp only
  clear h1 h2 h3 h4 t1 t2 t3 t4
  go_enter Try.func69, Try.ntmps69
  go_wp2_with fail
  refine bodyPost_ret (v := .agg #[.int .i64 ((n * a).tdiv 1000), .int .i64 ((n * b + 999).tdiv 1000)]) (by simp [results, Try.results69, go_sem]) rfl ⟨rfl, ?_⟩
  exact (below_alloc _ _).alloc (by simp) _
end Go.Proofs.Ytjaoflfophcibaa

namespace Go.Proofs.Ytjaoflfophcibaa
open Go.RowKit Go.Shelf

/-- A truth, as lengths and functions. -/
structure Tr where
  nf : Nat
  f : Nat → Int
  nb : Nat
  b : Nat → Int
  nd : Nat
  dl : Nat → Nat
  d : Nat → Nat → Int
  nm : Nat
  ml : Nat → Nat
  m : Nat → Nat → Int
def deadW (r : R2) (n : Int) : R2 := (wrap64 ((wrap64 (n * r.1)).tdiv 1000), wrap64 ((wrap64 (wrap64 (n * r.2) + 999)).tdiv 1000))
/-- Those who come to the groups. -/
def allS (b : Int) (S : Nat → Int) : Nat → Int
  | 0 => b
  | i + 1 => S i
/-- The row when k of those have come. -/
def addP (last : Nat) (A D : Nat → Int) : Nat → Nat → Int
  | 0, _ => 0
  | k + 1, g => if g = min k last then wrap64 (addP last A D k g + wrap64 (A k - D k)) else addP last A D k g
def siz (ng : Nat) (x : Tr) : Nat → Nat → Int
  | 0, g => x.f g
  | c + 1, g => wrap64 (addP (ng - 1) (allS (x.b c) (siz ng x c)) (x.d c) (ng + 1) g + x.m c g)
def canD (r : Nat → R2) (A D : Nat → Int) : Nat → Bool → Bool
  | 0, b => b
  | k + 1, b => canD r A D k b && (decide (0 ≤ A k) && inB (D k) (deadW (r k) (A k)).1 (deadW (r k) (A k)).2)
def canR (S : Nat → Int) : Nat → Bool → Bool
  | 0, b => b
  | k + 1, b => canR S k b && decide (0 ≤ S k)
def canC (t : Tb) (x : Tr) : Nat → Bool
  | 0 => true
  | c + 1 => canR (siz t.ng x (c + 1)) t.ng (canD t.r (allS (x.b c) (siz t.ng x c)) (x.d c) (t.ng + 1) (canC t x c))
/-- Rows of numbers. -/
def IRows (w : World) (sv : Value) (n : Nat) (rl : Nat → Nat) (ct : Nat → Nat → Int) : Prop :=
  (sv = .slice none 0 0 ∧ n = 0) ∨ ∃ b off cap, sv = .slice (some ⟨b, off, none⟩) n cap ∧ b < w.heap.size ∧ ∀ j, j < n → ∃ rv, w.cell? ⟨b, off + j, none⟩ = some rv ∧ IntsAt w rv (rl j) (ct j)
theorem IRows.below {w w' : World} {sv : Value} {n : Nat} {rl : Nat → Nat} {ct : Nat → Nat → Int} (h : IRows w sv n rl ct) (hB : Below w.heap.size w w') : IRows w' sv n rl ct := by
  rcases h with h | ⟨b, off, cap, rfl, hb, hz⟩
  · exact .inl h
  · refine .inr ⟨b, off, cap, rfl, Nat.lt_of_lt_of_le hb hB.size, fun j hj => ?_⟩
    obtain ⟨rv, h0, h1⟩ := hz j hj
    exact ⟨rv, (hB.cell (p := ⟨b, _, none⟩) hb).trans h0, h1.below hB⟩
theorem IRows.slice {w : World} {sv : Value} {n : Nat} {rl : Nat → Nat} {ct : Nat → Nat → Int} (h : IRows w sv n rl ct) : ∃ a cap, sv = .slice a n cap := by
  rcases h with ⟨rfl, rfl⟩ | ⟨b, off, cap, rfl, _⟩
  · exact ⟨_, _, rfl⟩
  · exact ⟨_, _, rfl⟩
theorem IRows.at {w : World} {a : Option Addr} {n cap : Nat} {rl : Nat → Nat} {ct : Nat → Nat → Int} (h : IRows w (.slice a n cap) n rl ct) {k : Nat} (hk : k < n) : ∃ b off ra rc, a = some ⟨b, off, none⟩ ∧ b < w.heap.size ∧ w.cell? ⟨b, off + k, none⟩ = some (.slice ra (rl k) rc) ∧ IntsAt w (.slice ra (rl k) rc) (rl k) (ct k) := by
  rcases h with ⟨_, h⟩ | ⟨b', o', c', e, hb, hz⟩
  · omega
  · cases e
    obtain ⟨rv, h0, h1⟩ := hz k hk
    obtain ⟨ra, rc, rfl⟩ := h1.len
    exact ⟨_, _, _, _, rfl, hb, h0, h1⟩
theorem IntsAt.at {w : World} {a : Option Addr} {n cap : Nat} {z : Nat → Int} (h : IntsAt w (.slice a n cap) n z) {k : Nat} (hk : k < n) : ∃ b off, a = some ⟨b, off, none⟩ ∧ b < w.heap.size ∧ w.cell? ⟨b, off + k, none⟩ = some (.int .i64 (z k)) := by
  rcases h with ⟨_, h⟩ | ⟨b', o', c', e, hb, hz⟩
  · omega
  · cases e; exact ⟨_, _, rfl, hb, hz k hk⟩
def iL (z : Nat → Int) (n : Nat) : List Value := (List.range n).map fun j => .int .i64 (z j)
theorem iL_length (z : Nat → Int) (n : Nat) : (iL z n).length = n := by simp [iL]
theorem iL_get (z : Nat → Int) {n j : Nat} (hj : j < n) : (iL z n)[j]? = some (.int .i64 (z j)) := by
  unfold iL; rw [List.getElem?_map, List.getElem?_range hj]; rfl
theorem iL_succ (z : Nat → Int) (n : Nat) : iL z (n + 1) = iL z n ++ [.int .i64 (z n)] := by
  unfold iL; rw [List.range_succ, List.map_append]; rfl
theorem iL_congr {z z' : Nat → Int} {n : Nat} (h : ∀ j, j < n → z j = z' j) : iL z n = iL z' n := List.map_congr_left (fun j hj => by rw [h j (List.mem_range.1 hj)])
theorem iL_cons (b : Int) (S : Nat → Int) (n : Nat) : [.int .i64 b] ++ iL S n = iL (allS b S) (n + 1) := by
  unfold iL
  rw [List.range_succ_eq_map, List.map_cons, List.map_map]
  rfl
theorem iL_set (z : Nat → Int) {n k : Nat} (v : Int) (hk : k < n) : (iL z n).set k (.int .i64 v) = iL (fun j => if j = k then v else z j) n := by
  apply List.ext_getElem?
  intro j
  rw [List.getElem?_set]
  by_cases hj : j < n
  · by_cases e : k = j
    · subst e; rw [if_pos rfl, if_pos (by rw [iL_length]; exact hj), iL_get _ hj]; simp
    · rw [if_neg e, iL_get _ hj, iL_get _ hj]; simp [show ¬ j = k from fun h => e h.symm]
  · have e : ¬ k = j := by omega
    rw [if_neg e, List.getElem?_eq_none (by rw [iL_length]; omega), List.getElem?_eq_none (by rw [iL_length]; omega)]
theorem IntsAt.own {W : World} {base : Nat} {v : Value} {n : Nat} {z : Nat → Int} (h : W.ownsRow base 3 1 v n (iL z n)) : IntsAt W v n z := by
  rcases h.2 with ⟨rfl, rfl⟩ | ⟨g, cap, cur, rfl, _, hg, _⟩
  · exact .inl ⟨rfl, rfl⟩
  · refine .inr ⟨g, 0, cap, rfl, (Array.getElem?_eq_some_iff.1 hg).1, fun j hj => ?_⟩
    rw [Nat.zero_add]
    exact (h.cellAt j (by omega)).trans (iL_get z hj)
theorem IntsAt.src {W : World} {a : Option Addr} {cap n : Nat} {z : Nat → Int} (h : IntsAt W (.slice a n cap) n z) : Src W a 1 n (iL z n) := by
  refine ⟨by rw [iL_length]; omega, fun j u hu => ?_⟩
  have hj : j < n := by have := (List.getElem?_eq_some_iff.1 hu).1; rw [iL_length] at this; exact this
  obtain ⟨b, off, rfl, _, hc⟩ := h.at hj
  rw [iL_get z hj] at hu
  cases hu
  exact ⟨_, rfl, by rw [addr_add]; exact hc⟩
/-- The addresses of a truth's lists. -/
structure XV where
  fa : Option Addr
  fc : Nat
  ba : Option Addr
  bc : Nat
  da : Option Addr
  dc : Nat
  ma : Option Addr
  mc : Nat
def XL (W : World) (y : XV) (x : Tr) : Prop := IntsAt W (.slice y.fa x.nf y.fc) x.nf x.f ∧ IntsAt W (.slice y.ba x.nb y.bc) x.nb x.b ∧ IRows W (.slice y.da x.nd y.dc) x.nd x.dl x.d ∧ IRows W (.slice y.ma x.nm y.mc) x.nm x.ml x.m
theorem XL.below {W W' : World} {y : XV} {x : Tr} (h : XL W y x) (hB : Below W.heap.size W W') : XL W' y x := ⟨h.1.below hB, h.2.1.below hB, h.2.2.1.below hB, h.2.2.2.below hB⟩
/-- Own rows in an own row. -/
def IRowsO (base : Nat) (W : World) (v : Value) (k : Nat) (rl : Nat → Nat) (ct : Nat → Nat → Int) (vs : Nat → Value) : Prop :=
  W.ownsRow base 72 1 v k ((List.range k).map vs) ∧ ∀ j, j < k → W.ownsRow base 3 1 (vs j) (rl j) (iL (ct j) (rl j))
section
variable {base k : Nat} {W X Y : World} {v : Value} {rl : Nat → Nat} {ct : Nat → Nat → Int} {vs : Nat → Value}
theorem IRowsO.nil (base : Nat) (W : World) (rl : Nat → Nat) (ct : Nat → Nat → Int) : IRowsO base W (.slice none 0 0) 0 rl ct (fun _ => .slice none 0 0) := ⟨World.ownsRow_nil _ _ _ _, fun _ hj => absurd hj (Nat.not_lt_zero _)⟩
theorem IRowsO.fr {ex : Nat → Prop} (h : IRowsO base W v k rl ct vs) (hf : Fr ex W X) (hx : ∀ b cs T, (T = 72 ∨ T = 3) → W.heap[b]? = some (.cells cs T (0, 0)) → ¬ ex b) : IRowsO base X v k rl ct vs :=
  ⟨own_fr h.1 hf (fun g _ _ _ hc => hx g _ _ (.inl rfl) hc), fun j hj => own_fr (h.2 j hj) hf (fun g _ _ _ hc => hx g _ _ (.inr rfl) hc)⟩
theorem IRowsO.below (h : IRowsO base W v k rl ct vs) (hb : Below W.heap.size W X) : IRowsO base X v k rl ct vs := h.fr (Fr.below hb (fun _ => False)) (fun _ _ _ _ _ h => h)
theorem IRowsO.step {u v1 : Value} (h : IRowsO base X v k rl ct vs) (hu : X.ownsRow base 3 1 u (rl k) (iL (ct k) (rl k)))
    (hown : Y.ownsRow base 72 1 v1 (k + 1) ((List.range k).map vs ++ [u])) (hgr : X.grownBy Y v.ownBlock) :
    IRowsO base Y v1 (k + 1) rl ct (fun j => if j = k then u else vs j) := by
  have hne : ∀ g cur, X.heap[g]? = some (.cells cur 3 (0, 0)) → ¬ v.ownBlock = some g := fun g cur hc e => by
    rcases h.1.2 with ⟨rfl, _⟩ | ⟨g', cap, cur', rfl, _, hg, _⟩
    · cases e
    · cases e; rw [hc] at hg; cases hg
  refine ⟨?_, fun j hj => ?_⟩
  · have e : (List.range (k + 1)).map (fun j => if j = k then u else vs j) = (List.range k).map vs ++ [u] := by
      rw [List.range_succ, List.map_append]
      congr 1
      · exact List.map_congr_left (fun j hj => if_neg (by have := List.mem_range.1 hj; omega))
      · simp
    rw [e]; exact hown
  · show Y.ownsRow base 3 1 (if j = k then u else vs j) (rl j) (iL (ct j) (rl j))
    by_cases e : j = k
    · subst e; rw [if_pos rfl]; exact own_fr hu (Fr.grown hgr) (fun g cur _ _ hc => hne g cur hc)
    · rw [if_neg e]; exact own_fr (h.2 j (by omega)) (Fr.grown hgr) (fun g cur _ _ hc => hne g cur hc)
theorem IRowsO.rows (h : IRowsO base W v k rl ct vs) : IRows W v k rl ct := by
  rcases h.1.2 with ⟨rfl, rfl⟩ | ⟨g, cap, cur, rfl, _, hg, _⟩
  · exact .inl ⟨rfl, rfl⟩
  · refine .inr ⟨g, 0, cap, rfl, (Array.getElem?_eq_some_iff.1 hg).1, fun j hj => ⟨vs j, ?_, IntsAt.own (h.2 j hj)⟩⟩
    rw [Nat.zero_add]
    refine (h.1.cellAt j (by omega)).trans ?_
    rw [List.getElem?_map, List.getElem?_range hj]; rfl
end
set_option maxHeartbeats 1000000 in
theorem rDeadW_any (n a b : Int) (w : World) :
    Calls Try.prog 69 #[.int .i64 n, .agg #[.int .i64 a, .int .i64 b]] w fun e w' => e = .returned (.agg #[.int .i64 (deadW (a, b) n).1, .int .i64 (deadW (a, b) n).2]) ∧ Below w.heap.size w w' := by
  obtain ⟨i0, hi0, hz0, hz1, hz2⟩ := info_parts Try.infoRangeR
  unfold deadW
  simp only
  go_enter Try.func69, Try.ntmps69
  go_wp2_with fail
  refine bodyPost_ret (v := .agg #[.int .i64 (wrap64 ((wrap64 (n * a)).tdiv 1000)), .int .i64 (wrap64 ((wrap64 (wrap64 (n * b) + 999)).tdiv 1000))]) (by simp [results, Try.results69, go_sem]) rfl ⟨rfl, ?_⟩
  exact (below_alloc _ _).alloc (by simp) _
end Go.Proofs.Ytjaoflfophcibaa
