/- A person of the reference in memory; Thin, Fault. -/
import Derived.Test.YtagfcfojfjkmbaaF3
namespace Go.Proofs.Ytagfcfojfjkmbaa
open Go.RowKit Go.Shelf

def RlsIn (w : World) (sv : Value) (n : Nat) (R : Nat → Rl) : Prop :=
  (∃ a cap, sv = .slice a 0 cap ∧ n = 0) ∨ ∃ b off cap, sv = .slice (some ⟨b, off, none⟩) n cap ∧ b < w.heap.size ∧ ∀ j, j < n →
    w.cell? ⟨b, off + j * 4, none⟩ = some (.int .i64 (R j).f) ∧ w.cell? ⟨b, off + j * 4 + 1, none⟩ = some (.int .i64 (R j).b) ∧ w.cell? ⟨b, off + j * 4 + 2, none⟩ = some (.int .i64 (R j).m) ∧ w.cell? ⟨b, off + j * 4 + 3, none⟩ = some (.int .i64 (R j).e)
def RcsIn (w : World) (sv : Value) (n : Nat) (C : Nat → Rc) : Prop :=
  (∃ a cap, sv = .slice a 0 cap ∧ n = 0) ∨ ∃ b off cap, sv = .slice (some ⟨b, off, none⟩) n cap ∧ b < w.heap.size ∧ ∀ j, j < n →
    w.cell? ⟨b, off + j * 3, none⟩ = some (.int .i64 (C j).day) ∧ w.cell? ⟨b, off + j * 3 + 1, none⟩ = some (.int .i64 (C j).rule) ∧ w.cell? ⟨b, off + j * 3 + 2, none⟩ = some (.int .i64 (C j).num)
theorem RlsIn.slice {w : World} {sv : Value} {n : Nat} {R : Nat → Rl} (h : RlsIn w sv n R) : ∃ a cap, sv = .slice a n cap := by
  rcases h with ⟨a, cap, rfl, rfl⟩ | ⟨b, off, cap, rfl, _⟩
  · exact ⟨_, _, rfl⟩
  · exact ⟨_, _, rfl⟩
theorem RcsIn.slice {w : World} {sv : Value} {n : Nat} {C : Nat → Rc} (h : RcsIn w sv n C) : ∃ a cap, sv = .slice a n cap := by
  rcases h with ⟨a, cap, rfl, rfl⟩ | ⟨b, off, cap, rfl, _⟩
  · exact ⟨_, _, rfl⟩
  · exact ⟨_, _, rfl⟩
theorem RlsIn.at {w w' : World} {a : Option Addr} {n cap : Nat} {R : Nat → Rl} (h : RlsIn w (.slice a n cap) n R) (hb : Below w.heap.size w w') {k : Nat} (hk : k < n) : ∃ b off, a = some ⟨b, off, none⟩ ∧ b < w.heap.size ∧ w'.cell? ⟨b, off + k * 4, none⟩ = some (.int .i64 (R k).f) ∧ w'.cell? ⟨b, off + k * 4 + 1, none⟩ = some (.int .i64 (R k).b) ∧ w'.cell? ⟨b, off + k * 4 + 2, none⟩ = some (.int .i64 (R k).m) ∧ w'.cell? ⟨b, off + k * 4 + 3, none⟩ = some (.int .i64 (R k).e) := by
  rcases h with ⟨_, _, _, h⟩ | ⟨b', o', c', e, hb', hz⟩
  · omega
  · cases e
    obtain ⟨h0, h1, h2, h3⟩ := hz k hk
    exact ⟨b', o', rfl, hb', kept hb hb' h0, kept hb hb' h1, kept hb hb' h2, kept hb hb' h3⟩
theorem RcsIn.at {w w' : World} {a : Option Addr} {n cap : Nat} {C : Nat → Rc} (h : RcsIn w (.slice a n cap) n C) (hb : Below w.heap.size w w') {k : Nat} (hk : k < n) : ∃ b off, a = some ⟨b, off, none⟩ ∧ b < w.heap.size ∧ w'.cell? ⟨b, off + k * 3, none⟩ = some (.int .i64 (C k).day) ∧ w'.cell? ⟨b, off + k * 3 + 1, none⟩ = some (.int .i64 (C k).rule) ∧ w'.cell? ⟨b, off + k * 3 + 2, none⟩ = some (.int .i64 (C k).num) := by
  rcases h with ⟨_, _, _, h⟩ | ⟨b', o', c', e, hb', hz⟩
  · omega
  · cases e
    obtain ⟨h0, h1, h2⟩ := hz k hk
    exact ⟨b', o', rfl, hb', kept hb hb' h0, kept hb hb' h1, kept hb hb' h2⟩
theorem RlsIn.below {w w' : World} {sv : Value} {n : Nat} {R : Nat → Rl} (h : RlsIn w sv n R) (hB : Below w.heap.size w w') : RlsIn w' sv n R := by
  rcases h with h | ⟨b, off, cap, rfl, hb, hz⟩
  · exact .inl h
  · refine .inr ⟨b, off, cap, rfl, Nat.lt_of_lt_of_le hb hB.size, fun j hj => ?_⟩
    obtain ⟨h0, h1, h2, h3⟩ := hz j hj
    exact ⟨kept hB hb h0, kept hB hb h1, kept hB hb h2, kept hB hb h3⟩
theorem RcsIn.below {w w' : World} {sv : Value} {n : Nat} {C : Nat → Rc} (h : RcsIn w sv n C) (hB : Below w.heap.size w w') : RcsIn w' sv n C := by
  rcases h with h | ⟨b, off, cap, rfl, hb, hz⟩
  · exact .inl h
  · refine .inr ⟨b, off, cap, rfl, Nat.lt_of_lt_of_le hb hB.size, fun j hj => ?_⟩
    obtain ⟨h0, h1, h2⟩ := hz j hj
    exact ⟨kept hB hb h0, kept hB hb h1, kept hB hb h2⟩
/-- The person p of the reference lies in world w as value v. -/
def PersIn (w : World) (v : Value) (p : Pers) : Prop := ∃ rv cv, v = .agg #[.int .i64 p.lo, .int .i64 p.hi, rv, cv] ∧ RlsIn w rv p.nr p.R ∧ RcsIn w cv p.nc p.C
theorem PersIn.below {w w' : World} {v : Value} {p : Pers} (h : PersIn w v p) (hB : Below w.heap.size w w') : PersIn w' v p := by
  obtain ⟨rv, cv, rfl, h1, h2⟩ := h
  exact ⟨rv, cv, rfl, h1.below hB, h2.below hB⟩

def Pers.thin (p : Pers) : Bool := decide ((p.nr : Int) ≤ 7) && decide ((p.nc : Int) ≤ 11)
set_option maxHeartbeats 1000000 in
theorem thin_any (v : Value) (p : Pers) (w : World) (h : PersIn w v p) : Calls Try.prog 25 #[v] w fun e w' => e = .returned (.bool p.thin) ∧ Below w.heap.size w w' := by
  obtain ⟨rv, cv, rfl, h1, h2⟩ := h
  obtain ⟨ra, rc, rfl⟩ := h1.slice
  obtain ⟨ca, cc, rfl⟩ := h2.slice
  clear h1 h2
  unfold Pers.thin
  generalize p.nr = nr
  generalize p.nc = nc
  by_cases h1 : (nr : Int) ≤ 7 <;> by_cases h2 : (nc : Int) ≤ 11
  all_goals
    go_enter Try.func25, Try.ntmps25
    go_wp2
    go_ret
    exact ⟨ret_bool (by simp [*] <;> omega), below_alloc _ _⟩

set_option maxRecDepth 100000 in
set_option maxHeartbeats 4000000 in
theorem refFault_any (v : Value) (p : Pers) (w : World) (h : PersIn w v p) : Calls Try.prog 70 #[v] w fun e w' => e = .returned (.int .i64 p.fault) ∧ Below w.heap.size w w' := by
  obtain ⟨rv, cv, rfl, h1, h2⟩ := h
  obtain ⟨ra, rc, rfl⟩ := h1.slice
  obtain ⟨ca, cc, rfl⟩ := h2.slice
  have HR := Lib.hid h1; have HC := Lib.hid h2; clear h1 h2
  by_cases hbig : 4 < p.nr ∨ 8 < p.nc
  · have HF : Hid (p.fault = 3) := by unfold Hid Pers.fault; rw [if_pos hbig]
    by_cases h4 : 4 < p.nr
    · go_enter Try.func70, Try.ntmps70
      go_wp2
      go_ret
      exact ⟨ret_int HF.out.symm, below_alloc _ _⟩
    · have h8 : 8 < p.nc := by omega
      go_enter Try.func70, Try.ntmps70
      go_wp2
      go_ret
      exact ⟨ret_int HF.out.symm, below_alloc _ _⟩
  have hn4 : p.nr ≤ 4 := by omega
  have hn8 : p.nc ≤ 8 := by omega
  have HF : Hid (p.fault = errOf p.okAll) := by unfold Hid Pers.fault; rw [if_neg hbig]
  clear hbig
  by_cases hpre : inB p.lo (-50000) 50000 = true ∧ inB p.hi (-50000) 50000 = true ∧ p.lo ≤ p.hi ∧ p.nr ≠ 0
  · obtain ⟨q1, q2, q3, q4⟩ := hpre
    have hnz : ((p.nr : Int) == 0) = false := by simp; omega
    have HOK : Hid (p.okAll = (allB (fun j => (p.R j).ok) p.nr && allB (fun j => (p.C j).ok p.nr) p.nc)) := by
      unfold Hid Pers.okAll; rw [q1, q2, show (p.nr == 0) = false from by simp [q4]]; simp [q3]
    go_enter Try.func70, Try.ntmps70
    go_wp2_with (go_at_call 29; refine (isDayR_any _ _).mono ?_; rintro _ _ ⟨rfl, rfl⟩)
    go_loopw [3] (fun i wr => ∃ k : Nat, k ≤ p.nr ∧ i = .int .i64 k ∧ (∀ q, q < k → (p.R q).ok = true) ∧ Below (w.heap.size + 1) (w.alloc (.cells #[.int .i64 p.lo, .int .i64 p.hi, .slice ra p.nr rc, .slice ca p.nc cc] 36)) wr) (fun i _ => p.nr - (intOf i).toNat)
    case atStart => exact ⟨0, Nat.zero_le _, rfl, fun q h => absurd h (Nat.not_lt_zero _), Below.refl _ _⟩
    case round =>
      obtain ⟨k, hk, rfl, hall, hbl⟩ := hrel
      have hblk := (hbl.block w.heap.size (by omega)).trans (heap_alloc_new w _)
      have c2 : wr.cell? ⟨w.heap.size, 2, none⟩ = some (.slice ra p.nr rc) := cell_of_row _ _ 2 _ _ _ hblk
      have c3 : wr.cell? ⟨w.heap.size, 3, none⟩ = some (.slice ca p.nc cc) := cell_of_row _ _ 3 _ _ _ hblk
      have HALL := Lib.hid hall; have HBL := Lib.hid hbl
      have HBW : Hid (Below w.heap.size w wr) := (below_alloc w _).trans (hbl.mono (by omega))
      have hsz : w.heap.size + 1 ≤ wr.heap.size := by have := hbl.size; simpa using this
      clear hall hbl hblk
      by_cases hlt : k < p.nr
      · obtain ⟨b, off, rfl, hbs, x0, x1, x2, x3⟩ := HR.out.at HBW.out hlt
        have HIR := Lib.hid (fun W => isRule_any (p.R k).f (p.R k).b (p.R k).m (p.R k).e W)
        cases hok : (p.R k).ok
        · have hok' : okRule (p.R k).f (p.R k).b (p.R k).m (p.R k).e = false := hok
          go_wp2_with (go_at_call 46; refine (HIR.out _).mono ?_; rintro _ w1 ⟨rfl, hb1⟩)
          go_ret
          exact ⟨ret_int (by rw [HF.out, HOK.out, allB_false hlt hok]; rfl), below_step HBW.out hb1⟩
        · have hok' : okRule (p.R k).f (p.R k).b (p.R k).m (p.R k).e = true := hok
          go_wp2_with (go_at_call 46; refine (HIR.out _).mono ?_; rintro _ w1 ⟨rfl, hb1⟩)
          go_roundw
          case rel => exact ⟨k + 1, by omega, by go_num, (fun q hq => by rcases Nat.lt_succ_iff_lt_or_eq.1 hq with h | rfl; exact HALL.out q h; exact hok), HBL.out.trans (hb1.mono hsz)⟩
          case measure => simp [intOf]; omega
      · obtain rfl : k = p.nr := by omega
        have HA : Hid (allB (fun j => (p.R j).ok) p.nr = true) := allB_true HALL.out
        go_wp2
        obtain ⟨wo, rfl⟩ : ∃ wo : World, wo = wr := ⟨_, rfl⟩
        go_loopw [4] (fun i wr => ∃ k : Nat, k ≤ p.nc ∧ i = .int .i64 k ∧ (∀ q, q < k → (p.C q).ok p.nr = true) ∧ Below (w.heap.size + 1) (w.alloc (.cells #[.int .i64 p.lo, .int .i64 p.hi, .slice ra p.nr rc, .slice ca p.nc cc] 36)) wr) (fun i _ => p.nc - (intOf i).toNat)
        case atStart => exact ⟨0, Nat.zero_le _, rfl, fun q h => absurd h (Nat.not_lt_zero _), HBL.out⟩
        case round =>
          clear HALL HBL HBW c2 c3 hsz
          obtain ⟨k, hk, rfl, hall, hbl⟩ := hrel
          have hblk := (hbl.block w.heap.size (by omega)).trans (heap_alloc_new w _)
          have c2 : wr.cell? ⟨w.heap.size, 2, none⟩ = some (.slice ra p.nr rc) := cell_of_row _ _ 2 _ _ _ hblk
          have c3 : wr.cell? ⟨w.heap.size, 3, none⟩ = some (.slice ca p.nc cc) := cell_of_row _ _ 3 _ _ _ hblk
          have HALL := Lib.hid hall; have HBL := Lib.hid hbl
          have HBW : Hid (Below w.heap.size w wr) := (below_alloc w _).trans (hbl.mono (by omega))
          have hsz : w.heap.size + 1 ≤ wr.heap.size := by have := hbl.size; simpa using this
          have hsz' : w.heap.size < wr.heap.size := by omega
          clear hall hbl hblk
          by_cases hlt : k < p.nc
          · obtain ⟨b, off, rfl, hbs, x0, x1, x2⟩ := HC.out.at HBW.out hlt
            have HOKC : Hid ((p.C k).ok p.nr = (inB (p.C k).day (-50000) 50000 && inB (p.C k).rule 0 ((p.nr : Int) - 1) && inB (p.C k).num 0 140)) := rfl
            generalize (p.C k).day = day at *
            generalize (p.C k).rule = rule at *
            generalize (p.C k).num = num at *
            cases t1 : inB day (-50000) 50000 <;> cases t2 : inB rule 0 ((p.nr : Int) - 1) <;> cases t3 : inB num 0 140
            all_goals
              go_wp2_with (first | (go_at_call 29; refine (isDayR_any _ _).mono ?_; rintro _ _ ⟨rfl, rfl⟩) | (go_at_call 23; refine (refIn_any _ _ _ _).mono ?_; rintro _ _ ⟨rfl, rfl⟩))
              first
                | (go_ret
                   exact ⟨ret_int (by rw [HF.out, HOK.out, HA.out, allB_false hlt (by rw [HOKC.out, t1, t2, t3]; rfl)]; rfl), HBW.out.trans ((below_alloc _ _).mono (by omega))⟩)
                | (go_roundw
                   case rel => exact ⟨k + 1, by omega, by go_num, (fun q hq => by rcases Nat.lt_succ_iff_lt_or_eq.1 hq with h | rfl; exact HALL.out q h; rw [HOKC.out, t1, t2, t3]; rfl), HBL.out.trans ((below_alloc _ _).mono hsz)⟩
                   case measure => simp [intOf]; omega)
          · obtain rfl : k = p.nc := by omega
            go_wp2
            go_ret
            exact ⟨ret_int (by rw [HF.out, HOK.out, HA.out, allB_true HALL.out]; rfl), HBW.out⟩
  · have HOK : Hid (p.fault = 1) := by
      unfold Hid; rw [HF.out]; unfold Pers.okAll
      cases q1 : inB p.lo (-50000) 50000
      · rfl
      cases q2 : inB p.hi (-50000) 50000
      · rfl
      by_cases q3 : p.lo ≤ p.hi
      · by_cases q4 : p.nr = 0
        · simp [q4, errOf]
        · exact absurd ⟨q1, q2, q3, q4⟩ hpre
      · simp [q3, errOf]
    have hcases : inB p.lo (-50000) 50000 = false ∨ (inB p.lo (-50000) 50000 = true ∧ inB p.hi (-50000) 50000 = false) ∨ (inB p.lo (-50000) 50000 = true ∧ inB p.hi (-50000) 50000 = true ∧ p.hi < p.lo) ∨ (inB p.lo (-50000) 50000 = true ∧ inB p.hi (-50000) 50000 = true ∧ p.lo ≤ p.hi ∧ ((p.nr : Int) == 0) = true) := by
      cases q1 : inB p.lo (-50000) 50000
      · exact .inl rfl
      cases q2 : inB p.hi (-50000) 50000
      · exact .inr (.inl ⟨rfl, rfl⟩)
      by_cases q3 : p.lo ≤ p.hi
      · by_cases q4 : p.nr = 0
        · exact .inr (.inr (.inr ⟨rfl, rfl, q3, by simp [q4]⟩))
        · exact absurd ⟨q1, q2, q3, q4⟩ hpre
      · exact .inr (.inr (.inl ⟨rfl, rfl, by omega⟩))
    clear hpre
    rcases hcases with t1 | ⟨t1, t2⟩ | ⟨t1, t2, t3⟩ | ⟨t1, t2, t3, t4⟩
    all_goals
      go_enter Try.func70, Try.ntmps70
      go_wp2_with (go_at_call 29; refine (isDayR_any _ _).mono ?_; rintro _ _ ⟨rfl, rfl⟩)
      go_ret
      exact ⟨ret_int HOK.out.symm, below_alloc _ _⟩

set_option maxHeartbeats 1000000 in
theorem fault_any (v : Value) (p : Pers) (w : World) (h : PersIn w v p) : Calls Try.prog 28 #[v] w fun e w' => e = .returned (.int .i64 p.fault) ∧ Below w.heap.size w w' := by
  have HP := Lib.hid h
  obtain ⟨rv, cv, rfl, _⟩ := h
  have hfb : p.fault = 0 ∨ p.fault = 1 ∨ p.fault = 3 := by unfold Pers.fault errOf; split <;> simp; split <;> simp
  go_enter Try.func28, Try.ntmps28
  go_wp2_with (go_at_call 70; refine (refFault_any _ p _ (HP.out.below (below_alloc _ _))).mono ?_; rintro _ w1 ⟨rfl, hb1⟩)
  go_ret
  exact ⟨rfl, below_step (below_alloc _ _) hb1⟩
end Go.Proofs.Ytagfcfojfjkmbaa
