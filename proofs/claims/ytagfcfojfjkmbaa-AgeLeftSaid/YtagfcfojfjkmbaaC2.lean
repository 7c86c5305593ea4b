/- days, births, Births. -/
import Derived.Test.YtagfcfojfjkmbaaB5
import Derived.Test.YtagfcfojfjkmbaaC0
namespace Go.Proofs.Ytagfcfojfjkmbaa
open Go.RowKit

theorem file_any (v : Value) (p : Pers) (w : World) (h : PersAt w v p) (hok : p.fault = 0) : Calls Try.prog 71 #[v] w (GivesFile w p) := by
  obtain ⟨rv, cv, rfl, h1, h2⟩ := h
  obtain ⟨a, cap, rfl⟩ := h2.slice
  exact file_some p rv a cap w h1 h2 hok

/-- The days that the first k records allow, but for those that are left out. -/
def daysL (p : Pers) (out : Int → Bool) : Nat → RL
  | 0 => [(p.lo, p.hi)]
  | k + 1 => if out k then daysL p out k else meetL (daysL p out k) (p.allow k)
theorem yearsL_length (l : RL) : (yearsL l).length = l.length := by simp [yearsL, down]
theorem allow_length (p : Pers) (j : Nat) (h : (p.C j).ok p.nr = true) : (p.allow j).length ≤ 121 ∧ ∀ r ∈ p.allow j, -900000000 ≤ r.1 ∧ r.1 ≤ 900000000 ∧ -900000000 ≤ r.2 ∧ r.2 ≤ 900000000 := by
  obtain ⟨h1, h2, _⟩ := Rc.ok_facts h
  have := foldR_facts (p.C j).day h1 h2 _ (yearsL (ageRs (p.rl j).f (p.rl j).b (p.rl j).m (p.rl j).e (p.C j).num)) rfl
  have hl := rngs_length (agesF (p.rl j).f (p.rl j).b (p.rl j).m (p.rl j).e (p.C j).num 126) 121
  rw [yearsL_length] at this
  unfold ageRs at this
  refine ⟨Nat.le_trans this.1 hl, this.2⟩
theorem daysL_facts (p : Pers) (out : Int → Bool) (hok : p.fault = 0) (k : Nat) (hk : k ≤ p.nc) : (daysL p out k).length ≤ 1 + 121 * k ∧ ∀ r ∈ daysL p out k, -900000000 ≤ r.1 ∧ r.1 ≤ 900000000 ∧ -900000000 ≤ r.2 ∧ r.2 ≤ 900000000 := by
  obtain ⟨n4, n8, n0, l1, l2, l3, l4, l5, okR, okC⟩ := Pers.ok_facts hok
  induction k with
  | zero => simp [daysL]; omega
  | succ k ih =>
    obtain ⟨i1, i2⟩ := ih (by omega)
    obtain ⟨a1, a2⟩ := allow_length p k (okC k (by omega))
    rw [daysL]
    split
    · exact ⟨by omega, i2⟩
    · refine ⟨by have := meetL_length _ (daysL p out k) (p.allow k) (Nat.le_refl _); omega, meetL_bd _ 900000000 _ _ (Nat.le_refl _) i2 a2⟩

theorem RS.one (W : World) (base : Nat) (hb : base ≤ W.heap.size) (x y : Int) : RS (W.alloc (.cells #[.int .i64 x, .int .i64 y] 41)) base (.slice (some ⟨W.heap.size, 0, none⟩) 1 1) [(x, y)] := by
  refine ⟨rfl, .inr ⟨W.heap.size, 1, _, rfl, hb, heap_alloc_new _ _, Nat.le_refl _, by unfold maxLen; omega, rfl, rfl⟩⟩

theorem IntsAt.len {w : World} {sv : Value} {n : Nat} {z : Nat → Int} (h : IntsAt w sv n z) : ∃ a cap, sv = .slice a n cap := by
  rcases h with ⟨rfl, rfl⟩ | ⟨b, off, cap, rfl, _⟩
  · exact ⟨_, _, rfl⟩
  · exact ⟨_, _, rfl⟩

set_option maxRecDepth 100000 in
set_option maxHeartbeats 2000000 in
theorem days_any (F : Nat) (p : Pers) (ov : Value) (n : Nat) (z : Nat → Int) (w : World) (hok : p.fault = 0) (hF : FileAt w F p) (hI : IntsAt w ov n z) (hn : n ≤ 100000) :
    Calls Try.prog 73 #[.pointer (some ⟨F, 0, none⟩), ov] w (Gives w w.heap.size (daysL p (inL z n) p.nc)) := by
  obtain ⟨n4, n8, n0, l1, l2, l3, l4, l5, okR, okC⟩ := Pers.ok_facts hok
  have HOK := Lib.hid hok; have OKC := Lib.hid okC; clear okR okC hok n4 n0 l1 l2 l3 l4 l5
  obtain ⟨rv, cv, av, svs, f1, f2, f3, f4⟩ := hF
  obtain ⟨aa, ac, rfl⟩ : ∃ aa ac, av = .slice aa p.nc ac := by
    rcases f3.2 with ⟨rfl, h⟩ | ⟨g, cap, cur, rfl, _⟩
    · exact ⟨_, _, by rw [h]⟩
    · exact ⟨_, _, rfl⟩
  have c0 : w.cell? ⟨F, 0, none⟩ = some (.int .i64 p.lo) := cell_of_row _ _ 0 _ _ _ f1
  have c1 : w.cell? ⟨F, 1, none⟩ = some (.int .i64 p.hi) := cell_of_row _ _ 1 _ _ _ f1
  have c4 : w.cell? ⟨F, 4, none⟩ = some (.slice aa p.nc ac) := cell_of_row _ _ 4 _ _ _ f1
  have hFs := (Array.getElem?_eq_some_iff.1 f1).1
  have F3 := Lib.hid f3; have F4 := Lib.hid f4; have HI := Lib.hid hI; clear f1 f2 f3 f4 hI
  go_enter Try.func73, Try.ntmps73
  go_wp2
  go_loopw [5, 19] (fun v i wr => ∃ k : Nat, k ≤ p.nc ∧ i = .int .i64 k ∧ RS wr w.heap.size v (daysL p (inL z n) k) ∧ Below w.heap.size w wr) (fun _ i _ => p.nc - (intOf i).toNat)
  case atStart => exact ⟨0, Nat.zero_le _, rfl, RS.one _ _ (Nat.le_refl _) _ _, below_alloc _ _⟩
  case round =>
    obtain ⟨k, hk, rfl, hrs, hbl⟩ := hrel
    have hd := (daysL_facts p (inL z n) HOK.out k hk).1
    have HR := Lib.hid hrs; have HB := Lib.hid hbl; clear hrs hbl
    by_cases hlt : k < p.nc
    · obtain ⟨g, rfl, hgs⟩ : ∃ g, aa = some ⟨g, 0, none⟩ ∧ g < w.heap.size := by
        obtain ⟨g, cap, e, _, hg⟩ := F3.out.form (by omega)
        cases e; exact ⟨g, rfl, hg⟩
      have ca : w.cell? ⟨g, k, none⟩ = some (svs k) := by
        have := F3.out.cellAt k (by simp; omega)
        rw [this]; simp [hlt]
      have cw : wr.cell? ⟨g, k, none⟩ = some (svs k) := (HB.out.cell (p := ⟨g, _, none⟩) hgs).trans ca
      have hrs := F4.out k hlt
      have hal := (allow_length p k (OKC.out k hlt)).1
      obtain ⟨sa, sc, hsv⟩ := hrs.slice
      rw [hsv] at cw hrs
      have hrg : RgAt wr (.slice sa (p.allow k).length sc) (p.allow k) := hrs.rg.kept HB.out
      have HRG := Lib.hid hrg; clear hsv hrs hrg ca
      have hIr := HI.out.below HB.out
      have HIR := Lib.hid hIr; clear hIr
      have hL := HR.out.rg
      have HL := Lib.hid hL; clear hL
      have hbs := HB.out.size
      by_cases hin : inL z n k = true
      · go_wp2_with (go_at_call 95; refine (contains_any n _ z _ _ hn HIR.out).mono ?_; rintro e w1 ⟨rfl, rfl⟩)
        go_roundw
        case rel => exact ⟨k + 1, by omega, by go_num, by rw [daysL, if_pos hin]; exact HR.out, HB.out⟩
        case measure => simp [intOf]; omega
      · have hin' : inL z n k = false := by simpa using hin
        clear hin
        go_wp2_with (first | (go_at_call 95; refine (contains_any n _ z _ _ hn HIR.out).mono ?_; rintro e w1 ⟨rfl, rfl⟩) | (go_at_call 96; refine (meet_any _ _ _ _ _ HL.out HRG.out (by omega) (by omega)).mono ?_; rintro e w1 ⟨v1, rfl, hr1, hb1⟩))
        go_roundw
        case rel => exact ⟨k + 1, by omega, by go_num, by rw [daysL, if_neg (by rw [hin']; decide)]; exact hr1.mono hbs, HB.out.trans (hb1.mono hbs)⟩
        case measure => simp [intOf]; omega
    · obtain rfl : k = p.nc := by omega
      go_wp2
      go_ret
      exact ⟨_, rfl, HR.out, HB.out⟩

/-- All days of birth that the records of a person allow. -/
def Pers.days (p : Pers) : RL := daysL p (fun _ => false) p.nc
theorem inL_none (z : Nat → Int) : inL z 0 = fun _ => false := rfl
def Pers.born (p : Pers) : RL := if p.fault = 0 then p.days else []

theorem PersAt.agg {w : World} {v : Value} {p : Pers} (h : PersAt w v p) : ∃ rv cv, v = .agg #[.int .i64 p.lo, .int .i64 p.hi, rv, cv] := by
  obtain ⟨rv, cv, rfl, _⟩ := h; exact ⟨_, _, rfl⟩

theorem ret_err {v : Value} {a b : Int} (h : a = b) : Ending.returned (.tuple #[v, .int .i64 a]) = .returned (.tuple #[v, .int .i64 b]) := by rw [h]

set_option maxRecDepth 100000 in
set_option maxHeartbeats 2000000 in
theorem births_any (v : Value) (p : Pers) (w : World) (h : PersAt w v p) (hn : p.nr ≤ 100000) (hc : p.nc ≤ 100000) :
    Calls Try.prog 65 #[v] w (GivesE w w.heap.size p.born p.fault) := by
  obtain ⟨rv, cv, rfl⟩ := h.agg
  have HP := Lib.hid h; clear h
  by_cases hf : p.fault = 0
  · have hbq : p.born = daysL p (inL (fun _ => 0) 0) p.nc := by unfold Pers.born; rw [if_pos hf]; rfl
    have HBQ := Lib.hid hbq; clear hbq
    have hq : (p.fault != 0) = false := by simp [hf]
    have HF := Lib.hid hf; clear hf
    go_enter Try.func65, Try.ntmps65
    go_wp2_with (first
      | (go_at_call 42; refine (check_any _ p _ (HP.out.below (below_alloc _ _)) hn hc).mono ?_; rintro e w1 ⟨rfl, hb1⟩; obtain ⟨hc1, hf1⟩ := bcell hb1; have hs1 : w.heap.size + 1 ≤ w1.heap.size := by (have := hb1.size; simp at this; omega))
      | (go_at_call 71; refine (file_any _ p _ ((HP.out.below (below_alloc _ _)).below hb1) HF.out).mono ?_; rintro e w2 ⟨F, rfl, hF, hb2⟩)
      | (go_at_call 73; refine (days_any F p _ 0 (fun _ => 0) _ HF.out hF (.inl ⟨rfl, rfl⟩) (by omega)).mono ?_; rintro e w3 ⟨v3, rfl, hr3, hb3⟩))
    go_ret2
    have s2 := hb2.size
    refine ⟨v3, ret_err HF.out.symm, by rw [HBQ.out]; exact hr3.mono (by omega), ?_⟩
    exact (((below_alloc w _).trans (hb1.mono (by simp))).trans (hb2.mono (by omega))).trans (hb3.mono (by omega))
  · have hbq : p.born = [] := by unfold Pers.born; rw [if_neg hf]
    have HBQ := Lib.hid hbq; clear hbq
    have hq : (p.fault != 0) = true := by simp [hf]
    clear hf
    go_enter Try.func65, Try.ntmps65
    go_wp2_with (go_at_call 42; refine (check_any _ p _ (HP.out.below (below_alloc _ _)) hn hc).mono ?_; rintro e w1 ⟨rfl, hb1⟩)
    go_ret2
    exact ⟨_, rfl, by rw [HBQ.out]; exact RS.nil _ _, (below_alloc w _).trans (hb1.mono (by simp))⟩

/-- The error of Births. -/
def Pers.bErr (p : Pers) : Int := if p.fault = 0 ∧ p.days = [] then 9 else p.fault
theorem Pers.bErr_eq (p : Pers) : p.bErr = if p.fault = 0 ∧ p.born = [] then 9 else p.fault := by
  unfold Pers.bErr Pers.born
  by_cases h : p.fault = 0 <;> simp [h]

theorem bErr9 {p : Pers} (h : (p.fault == 0) = true) (hl : p.born.length = 0) : 9 = p.bErr := by
  rw [p.bErr_eq, if_pos ⟨by simpa using h, List.eq_nil_of_length_eq_zero hl⟩]
theorem bErrF {p : Pers} (h : (p.fault == 0) = false ∨ 0 < p.born.length) : p.fault = p.bErr := by
  rw [p.bErr_eq, if_neg]
  rintro ⟨h1, h2⟩
  rcases h with h | h
  · rw [h1] at h; cases h
  · rw [h2] at h; cases h

set_option maxRecDepth 100000 in
set_option maxHeartbeats 2000000 in
theorem Births_any (v : Value) (p : Pers) (w : World) (h : PersAt w v p) (hn : p.nr ≤ 100000) (hc : p.nc ≤ 100000) :
    Calls Try.prog 37 #[v] w (GivesE w w.heap.size p.born p.bErr) := by
  obtain ⟨rv, cv, rfl⟩ := h.agg
  have HP := Lib.hid h; clear h
  cases hf : (p.fault == 0) <;> rcases Nat.eq_zero_or_pos p.born.length with hl | hl
  all_goals
    have hlb : ((p.born.length : Int) == 0) = (p.born.length == 0) := by rw [Bool.eq_iff_iff]; simp
    have HLB := Lib.hid hlb; clear hlb
    have HL := Lib.hid hl; clear hl
    go_enter Try.func37, Try.ntmps37
    go_wp2_with fail
    refine (births_any _ p _ (HP.out.below (below_alloc _ _)) hn hc).mono ?_
    rintro e w1 ⟨v1, rfl, hr1, hb1⟩
    obtain ⟨a1, k1, rfl⟩ := hr1.slice
    have hR : RS w1 w.heap.size (.slice a1 p.born.length k1) p.born := hr1.mono (by simp)
    have HR := Lib.hid hR
    have HB : Hid (Below w.heap.size w w1) := (below_alloc w _).trans (hb1.mono (by simp))
    clear hr1 hb1 hR
    generalize hbl : p.born.length = nl at *
    have HBL := Lib.hid hbl; clear hbl
    first
      | (obtain rfl : nl = 0 := HL.out)
      | (have hnz : ((nl : Int) == 0) = false := by (rw [HLB.out]; have := HL.out; simp; omega))
    go_wp2
    go_ret2
    first
      | exact ⟨_, ret_err (bErr9 hf HBL.out), HR.out, HB.out⟩
      | exact ⟨_, ret_err (bErrF (.inl hf)), HR.out, HB.out⟩
      | exact ⟨_, ret_err (bErrF (.inr (by rw [HBL.out]; exact HL.out))), HR.out, HB.out⟩
end Go.Proofs.Ytagfcfojfjkmbaa
