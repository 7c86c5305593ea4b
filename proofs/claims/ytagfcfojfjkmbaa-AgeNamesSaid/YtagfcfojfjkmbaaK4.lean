/- shared, Same, Together. -/
import Derived.Test.YtagfcfojfjkmbaaPC
namespace Go.Proofs.Ytagfcfojfjkmbaa
open Go.RowKit Go.Shelf

def sharedE (p q : Pers) : Int := if p.fault = 0 then q.fault else p.fault
def sharedL (p q : Pers) : RL := if p.fault = 0 ∧ q.fault = 0 then meetL p.born q.born else []
theorem sharedL_length (p q : Pers) : (sharedL p q).length ≤ 2000 := by
  unfold sharedL
  split
  · have := meetL_length _ p.born q.born (Nat.le_refl _)
    have := born_length p
    have := born_length q
    omega
  · simp
set_option maxRecDepth 100000 in
set_option maxHeartbeats 2000000 in
theorem shared_any (v u : Value) (p q : Pers) (w : World) (h : PersAt w v p) (k : PersAt w u q) (hn : p.nr ≤ 100000) (hc : p.nc ≤ 100000) (kn : q.nr ≤ 100000) (kc : q.nc ≤ 100000) :
    Calls Try.prog 88 #[v, u] w (GivesE w w.heap.size (sharedL p q) (sharedE p q)) := by
  obtain ⟨rv, cv, rfl⟩ := h.agg
  obtain ⟨ru, cu, rfl⟩ := k.agg
  have HP := Lib.hid h; have HQ := Lib.hid k; clear h k
  have HB0 : Hid (Below w.heap.size w ((w.alloc (.cells #[.int .i64 p.lo, .int .i64 p.hi, rv, cv] 45)).alloc (.cells #[.int .i64 q.lo, .int .i64 q.hi, ru, cu] 45))) := (below_alloc _ _).alloc (by simp) _
  have HK0 : Hid (((w.alloc (.cells #[.int .i64 p.lo, .int .i64 p.hi, rv, cv] 45)).alloc (.cells #[.int .i64 q.lo, .int .i64 q.hi, ru, cu] 45)).heap[w.heap.size + 1]? = some (.cells #[.int .i64 q.lo, .int .i64 q.hi, ru, cu] 45 (0, 0))) := by
    have := heap_alloc_new (w.alloc (.cells #[.int .i64 p.lo, .int .i64 p.hi, rv, cv] 45)) (.cells #[.int .i64 q.lo, .int .i64 q.hi, ru, cu] 45)
    rw [World.size_alloc] at this; exact this
  by_cases hp : p.fault = 0
  · have hpn : (p.fault != 0) = false := by simp [hp]
    have HPF := Lib.hid hp; clear hp
    go_enter Try.func88, Try.ntmps88
    go_wp2_with fail
    refine (births_any _ p _ (HP.out.below HB0.out) hn hc).mono ?_
    rintro _ w1 ⟨v1, rfl, hr1, hb1⟩
    have HR1 := Lib.hid hr1
    have HB1 : Hid (Below w.heap.size w w1) := below_step HB0.out hb1
    have HK1 : Hid (w1.heap[w.heap.size + 1]? = some (.cells #[.int .i64 q.lo, .int .i64 q.hi, ru, cu] 45 (0, 0))) := (hb1.block _ (by simp)).trans HK0.out
    have d0 : w1.cell? ⟨w.heap.size + 1, 0, none⟩ = some (.int .i64 q.lo) := cell_of_row _ _ 0 _ _ _ HK1.out
    have d1 : w1.cell? ⟨w.heap.size + 1, 1, none⟩ = some (.int .i64 q.hi) := cell_of_row _ _ 1 _ _ _ HK1.out
    have d2 : w1.cell? ⟨w.heap.size + 1, 2, none⟩ = some ru := cell_of_row _ _ 2 _ _ _ HK1.out
    have d3 : w1.cell? ⟨w.heap.size + 1, 3, none⟩ = some cu := cell_of_row _ _ 3 _ _ _ HK1.out
    clear hr1 hb1 HK0 HB0
    go_wp2_with fail
    refine (births_any _ q _ (HQ.out.below HB1.out) kn kc).mono ?_
    rintro _ w2 ⟨v2, rfl, hr2, hb2⟩
    have HB2 : Hid (Below w.heap.size w w2) := below_step HB1.out hb2
    have HA := Lib.hid (HR1.out.rg.kept hb2); have HBB := Lib.hid hr2.rg
    have hl1 := born_length p; have hl2 := born_length q
    have hs2 := HB2.out.size
    clear hr2 hb2 d0 d1 d2 d3
    by_cases hq : q.fault = 0
    · have hqn : (q.fault != 0) = false := by simp [hq]
      have HE : Hid (sharedE p q = 0) := by unfold Hid sharedE; rw [if_pos HPF.out, hq]
      have HL : Hid (sharedL p q = meetL p.born q.born) := by unfold Hid sharedL; rw [if_pos ⟨HPF.out, hq⟩]
      clear hq
      go_wp2_with fail
      refine (meet_any _ _ _ _ _ HA.out HBB.out (by omega) (by omega)).mono ?_
      rintro _ w3 ⟨v3, rfl, hr3, hb3⟩
      go_wp2
      go_ret2
      exact ⟨v3, ret_err HE.out.symm, by rw [HL.out]; exact hr3.mono hs2, HB2.out.trans (hb3.mono hs2)⟩
    · have hqn : (q.fault != 0) = true := by simp [hq]
      have HE : Hid (sharedE p q = q.fault) := by unfold Hid sharedE; rw [if_pos HPF.out]
      have HL : Hid (sharedL p q = []) := by unfold Hid sharedL; rw [if_neg (fun h => hq h.2)]
      clear hq
      go_wp2
      go_ret2
      exact ⟨_, ret_err HE.out.symm, by rw [HL.out]; exact RS.nil _ _, HB2.out⟩
  · have hpn : (p.fault != 0) = true := by simp [hp]
    have HE : Hid (sharedE p q = p.fault) := by unfold Hid sharedE; rw [if_neg hp]
    have HL : Hid (sharedL p q = []) := by unfold Hid sharedL; rw [if_neg (fun h => hp h.1)]
    clear hp
    go_enter Try.func88, Try.ntmps88
    go_wp2_with fail
    refine (births_any _ p _ (HP.out.below HB0.out) hn hc).mono ?_
    rintro _ w1 ⟨v1, rfl, hr1, hb1⟩
    have HB1 : Hid (Below w.heap.size w w1) := below_step HB0.out hb1
    clear hr1 hb1
    go_wp2
    go_ret2
    exact ⟨_, ret_err HE.out.symm, by rw [HL.out]; exact RS.nil _ _, HB1.out⟩

set_option maxRecDepth 100000 in
set_option maxHeartbeats 2000000 in
theorem same_any (v u : Value) (p q : Pers) (w : World) (h : PersAt w v p) (k : PersAt w u q) (hn : p.nr ≤ 100000) (hc : p.nc ≤ 100000) (kn : q.nr ≤ 100000) (kc : q.nc ≤ 100000) :
    Calls Try.prog 56 #[v, u] w fun e w' => e = .returned (.tuple #[.bool (decide (0 < (sharedL p q).length)), .int .i64 (sharedE p q)]) ∧ Below w.heap.size w w' := by
  obtain ⟨rv, cv, rfl⟩ := h.agg
  obtain ⟨ru, cu, rfl⟩ := k.agg
  have HP := Lib.hid h; have HQ := Lib.hid k; clear h k
  have HB0 : Hid (Below w.heap.size w ((w.alloc (.cells #[.int .i64 p.lo, .int .i64 p.hi, rv, cv] 45)).alloc (.cells #[.int .i64 q.lo, .int .i64 q.hi, ru, cu] 45))) := (below_alloc _ _).alloc (by simp) _
  go_enter Try.func56, Try.ntmps56
  go_wp2_with fail
  refine (shared_any _ _ p q _ (HP.out.below HB0.out) (HQ.out.below HB0.out) hn hc kn kc).mono ?_
  rintro _ w1 ⟨v1, rfl, hr1, hb1⟩
  have HB1 : Hid (Below w.heap.size w w1) := below_step HB0.out hb1
  have hlen := sharedL_length p q
  obtain ⟨a1, c1, rfl⟩ := hr1.slice
  clear hr1 hb1
  generalize hgn : (sharedL p q).length = n at *
  have HGN := Lib.hid hgn; clear hgn
  go_wp2
  go_ret2
  exact ⟨by rw [HGN.out]; simp, HB1.out⟩

def togE (p q : Pers) : Int := if sharedE p q = 0 ∧ sharedL p q = [] then 9 else sharedE p q
theorem togE9 {p q : Pers} (h : (sharedE p q == 0) = true) (hl : (sharedL p q).length = 0) : 9 = togE p q := by
  unfold togE; rw [if_pos ⟨by simpa using h, List.eq_nil_of_length_eq_zero hl⟩]
theorem togEF {p q : Pers} (h : (sharedE p q == 0) = false ∨ 0 < (sharedL p q).length) : sharedE p q = togE p q := by
  unfold togE
  rw [if_neg]
  rintro ⟨h1, h2⟩
  rcases h with h | h
  · rw [h1] at h; cases h
  · rw [h2] at h; cases h
set_option maxRecDepth 100000 in
set_option maxHeartbeats 2000000 in
theorem together_any (v u : Value) (p q : Pers) (w : World) (h : PersAt w v p) (k : PersAt w u q) (hn : p.nr ≤ 100000) (hc : p.nc ≤ 100000) (kn : q.nr ≤ 100000) (kc : q.nc ≤ 100000) :
    Calls Try.prog 57 #[v, u] w (GivesE w w.heap.size (sharedL p q) (togE p q)) := by
  obtain ⟨rv, cv, rfl⟩ := h.agg
  obtain ⟨ru, cu, rfl⟩ := k.agg
  have HP := Lib.hid h; have HQ := Lib.hid k; clear h k
  have HB0 : Hid (Below w.heap.size w ((w.alloc (.cells #[.int .i64 p.lo, .int .i64 p.hi, rv, cv] 45)).alloc (.cells #[.int .i64 q.lo, .int .i64 q.hi, ru, cu] 45))) := (below_alloc _ _).alloc (by simp) _
  have hlen := sharedL_length p q
  cases hf : (sharedE p q == 0) <;> rcases Nat.eq_zero_or_pos (sharedL p q).length with hl | hl
  all_goals
    have HL := Lib.hid hl
    first
      | (have hnz : (((sharedL p q).length : Int) == 0) = true := by rw [hl]; rfl)
      | (have hnz : (((sharedL p q).length : Int) == 0) = false := beq_eq_false_iff_ne.2 (by omega))
    have HNZ := Lib.hid hnz
    clear hl hnz
    go_enter Try.func57, Try.ntmps57
    go_wp2_with fail
    refine (shared_any _ _ p q _ (HP.out.below HB0.out) (HQ.out.below HB0.out) hn hc kn kc).mono ?_
    rintro _ w1 ⟨v1, rfl, hr1, hb1⟩
    have HB1 : Hid (Below w.heap.size w w1) := below_step HB0.out hb1
    obtain ⟨a1, c1, rfl⟩ := hr1.slice
    have HR1 : Hid (RS w1 w.heap.size (.slice a1 (sharedL p q).length c1) (sharedL p q)) := hr1.mono (by simp; omega)
    have hnz := HNZ.out
    clear hr1 hb1
    go_wp2
    go_ret2
    first
      | exact ⟨_, ret_err (togE9 hf HL.out), HR1.out, HB1.out⟩
      | exact ⟨_, ret_err (togEF (.inl hf)), HR1.out, HB1.out⟩
      | exact ⟨_, ret_err (togEF (.inr HL.out)), HR1.out, HB1.out⟩
end Go.Proofs.Ytagfcfojfjkmbaa
