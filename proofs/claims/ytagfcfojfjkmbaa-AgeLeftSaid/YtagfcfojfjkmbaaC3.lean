/- ProveBirth, Heaping. -/
import Derived.Test.YtagfcfojfjkmbaaC2
namespace Go.Proofs.Ytagfcfojfjkmbaa
open Go.RowKit

theorem hasR_at {l : RL} {n : Int} {k : Nat} (hk : k < l.length) (h : inB n l[k].1 l[k].2 = true) : hasR l n = true := by
  rw [hasR_iff]; refine ⟨l[k], List.getElem_mem hk, ?_⟩; simpa [inB] using h
theorem hasR_none {l : RL} {n : Int} (h : ∀ k (hk : k < l.length), inB n l[k].1 l[k].2 = false) : hasR l n = false := by
  rw [hasR_false]
  intro r hr
  obtain ⟨k, hk, rfl⟩ := List.mem_iff_getElem.1 hr
  have := h k hk
  simp [inB] at this; omega

def IdxB (b : Bool) (w : World) (e : Ending) (w' : World) : Prop := ∃ r : Int, e = .returned (.int .i64 r) ∧ decide (0 ≤ r) = b ∧ Below w.heap.size w w'

set_option maxHeartbeats 1000000 in
theorem closure_prove (c : Nat) (birth lo hi : Int) (w : World) (hl : c < w.heap.size) (hc : w.cell? ⟨c, 0, none⟩ = some (.int .i64 birth)) :
    Calls Try.prog 81 #[.agg #[.int .i64 lo, .int .i64 hi], .pointer (some ⟨c, 0, none⟩)] w fun e w' => e = .returned (.bool (inB birth lo hi)) ∧ Below w.heap.size w w' := by
  go_enter Try.func81, Try.ntmps81
  go_wp2_with (go_at_call 62; refine (within_any _ _ _ _).mono ?_; rintro e w' ⟨rfl, rfl⟩)
  go_ret
  exact ⟨rfl, below_alloc _ _⟩

set_option maxHeartbeats 1000000 in
theorem indexFunc_ranges (c : Nat) (birth : Int) (sv : Value) (l : RL) (w : World) (hlen : l.length ≤ 100000) (hl : c < w.heap.size) (hc : w.cell? ⟨c, 0, none⟩ = some (.int .i64 birth)) (hz : RgAt w sv l) :
    Calls Try.prog 102 #[sv, .func (.func 81) #[] #[.pointer (some ⟨c, 0, none⟩)]] w (IdxB (hasR l birth) w) := by
  obtain ⟨a, cap, rfl⟩ := hz.slice
  have HZ := Lib.hid hz; clear hz
  have HC := Lib.hid hc; clear hc
  generalize hn : l.length = n at *
  have HN := Lib.hid hn; clear hn
  go_enter Try.func102, Try.ntmps102
  go_wp2
  go_loopw [8] (fun i wr => ∃ k : Nat, k ≤ n ∧ i = .int .i64 k ∧ (∀ q (h : q < l.length), q < k → inB birth l[q].1 l[q].2 = false) ∧ Below w.heap.size w wr) (fun i _ => n - (intOf i).toNat)
  case atStart => exact ⟨0, Nat.zero_le _, rfl, fun q _ h => absurd h (Nat.not_lt_zero _), Below.refl _ _⟩
  case round =>
    obtain ⟨k, hk, rfl, hall, hbl⟩ := hrel
    have HA := Lib.hid hall; clear hall
    have hl' := Nat.lt_of_lt_of_le hl hbl.size
    have HC' := Lib.hid ((hbl.cell (p := ⟨c, 0, none⟩) hl).trans HC.out)
    have HB := Lib.hid hbl; clear hbl
    by_cases hlt : k < n
    · have hkl : k < l.length := by rw [HN.out]; exact hlt
      obtain ⟨b, off, rfl, x0, x1⟩ : ∃ b off, a = some ⟨b, off, none⟩ ∧ wr.cell? ⟨b, off + k * 2, none⟩ = some (.int .i64 l[k].1) ∧ wr.cell? ⟨b, off + k * 2 + 1, none⟩ = some (.int .i64 l[k].2) := by
        rcases HZ.out.kept HB.out with ⟨h, _⟩ | ⟨b', off', cap', h, _, _, hz⟩
        · rw [h] at hkl; simp at hkl
        · cases h; exact ⟨b', off', rfl, hz k hkl⟩
      generalize hlk : l[k].1 = lo at *
      generalize hlk2 : l[k].2 = hi at *
      have HK1 := Lib.hid hlk; have HK2 := Lib.hid hlk2; clear hlk hlk2
      by_cases hin : inB birth lo hi = true
      · go_wp2_with (go_at_call 81; refine (closure_prove c birth _ _ _ hl' HC'.out).mono ?_; rintro r w2 ⟨rfl, hb2⟩)
        go_ret
        exact ⟨_, rfl, by rw [hasR_at hkl (by rw [HK1.out, HK2.out]; exact hin)]; simp, HB.out.trans (hb2.mono HB.out.size)⟩
      · have hin' : inB birth lo hi = false := by simpa using hin
        clear hin
        go_wp2_with (go_at_call 81; refine (closure_prove c birth _ _ _ hl' HC'.out).mono ?_; rintro r w2 ⟨rfl, hb2⟩)
        go_roundw
        case rel => exact ⟨k + 1, by omega, by go_num, (fun q hq hqk => by rcases Nat.lt_succ_iff_lt_or_eq.1 hqk with h | rfl; exact HA.out q hq h; rw [HK1.out, HK2.out]; exact hin'), HB.out.trans (hb2.mono HB.out.size)⟩
        case measure => simp [intOf]; omega
    · obtain rfl : k = n := by omega
      go_wp2
      go_ret
      exact ⟨_, rfl, by rw [hasR_none (fun q hq => HA.out q hq (by rw [← HN.out]; exact hq))]; rfl, HB.out⟩

set_option maxHeartbeats 1000000 in
theorem containsFunc_ranges (c : Nat) (birth : Int) (sv : Value) (l : RL) (w : World) (hlen : l.length ≤ 100000) (hl : c < w.heap.size) (hc : w.cell? ⟨c, 0, none⟩ = some (.int .i64 birth)) (hz : RgAt w sv l) :
    Calls Try.prog 80 #[sv, .func (.func 81) #[] #[.pointer (some ⟨c, 0, none⟩)]] w fun e w' => e = .returned (.bool (hasR l birth)) ∧ Below w.heap.size w w' := by
  have HI := Lib.hid (indexFunc_ranges c birth sv l w hlen hl hc hz); clear hc hz
  go_enter Try.func80, Try.ntmps80
  go_wp2_with (go_at_call 102; refine HI.out.mono ?_; rintro e w' ⟨r, rfl, hr, hb⟩; have HR := Lib.hid hr; clear hr)
  go_ret
  exact ⟨ret_bool HR.out, hb⟩

theorem born_length (p : Pers) : p.born.length ≤ 1000 := by
  unfold Pers.born
  split
  · rename_i h
    have := (daysL_facts p (fun _ => false) h p.nc (Nat.le_refl _)).1
    have := (Pers.ok_facts h).2.1
    unfold Pers.days; omega
  · simp

set_option maxRecDepth 100000 in
set_option maxHeartbeats 2000000 in
theorem prove_any (v : Value) (p : Pers) (birth : Int) (w : World) (h : PersAt w v p) (hn : p.nr ≤ 100000) (hc : p.nc ≤ 100000) :
    Calls Try.prog 43 #[v, .int .i64 birth] w fun e w' => e = .returned (.bool (hasR p.born birth)) ∧ Below w.heap.size w w' := by
  obtain ⟨rv, cv, rfl⟩ := h.agg
  have HP := Lib.hid h; clear h
  cases hf : (p.fault == 0)
  all_goals
    go_enter Try.func43, Try.ntmps43
    go_wp2_with fail
    refine (births_any _ p _ (HP.out.below (((below_alloc _ _)).trans ((below_alloc _ _).mono (by simp)))) hn hc).mono ?_
    rintro e w1 ⟨v1, rfl, hr1, hb1⟩
    obtain ⟨a1, k1, rfl⟩ := hr1.slice
    have HRG := Lib.hid hr1.rg
    have HB : Hid (Below w.heap.size w w1) := ((below_alloc w _).trans ((below_alloc _ _).mono (by simp))).trans (hb1.mono (by simp; omega))
    have hbx : w1.cell? ⟨w.heap.size + 1, 0, none⟩ = some (.int .i64 birth) := by
      rw [hb1.cell (p := ⟨w.heap.size + 1, 0, none⟩) (by simp)]
      have := box_cell (w.alloc (.cells #[.int .i64 p.lo, .int .i64 p.hi, rv, cv] 45)) (.int .i64 birth) 3
      rw [World.size_alloc] at this; exact this
    have HBX := Lib.hid hbx
    have hs : w.heap.size + 1 < w1.heap.size := by have := hb1.size; simp at this; omega
    clear hr1 hb1 hbx
    have hlen := born_length p
    go_wp2_with (go_at_call 80; refine (containsFunc_ranges (w.heap.size + 1) birth _ p.born _ (by omega) hs HBX.out HRG.out).mono ?_; rintro e w2 ⟨rfl, hb2⟩)
    go_ret
    first
      | exact ⟨ret_bool (by simp), HB.out.trans (hb2.mono (by omega))⟩
      | (have hq : p.born = [] := by (unfold Pers.born; rw [if_neg (fun h => by rw [h] at hf; cases hf)])
         exact ⟨ret_bool (by rw [hq]; rfl), HB.out⟩)

/-- How many of some numbers are multiples of a base. -/
def heapN (z : Nat → Int) (base : Int) : Nat → Nat
  | 0 => 0
  | k + 1 => if z k % base = 0 then heapN z base k + 1 else heapN z base k
theorem heapN_le (z : Nat → Int) (base : Int) (k : Nat) : heapN z base k ≤ k := by
  induction k with
  | zero => exact Nat.le_refl _
  | succ k ih => rw [heapN]; split <;> omega
def heapE (z : Nat → Int) (n : Nat) (base : Int) : Int := if 200 < n then 3 else if inB base 1 12 = false then 1 else if allB (fun j => inB (z j) 0 140) n = false then 2 else if n = 0 then 7 else 0
def heapR (z : Nat → Int) (n : Nat) (base : Int) : Int := if heapE z n base = 0 then heapN z base n * base * 1000 / n else 0

set_option maxRecDepth 100000 in
set_option maxHeartbeats 2000000 in
theorem heaping_any (sv : Value) (n : Nat) (z : Nat → Int) (base : Int) (w : World) (hz : IntsAt w sv n z) (hn : n ≤ 100000) :
    Calls Try.prog 21 #[sv, .int .i64 base] w fun e w' => e = .returned (.tuple #[.int .i64 (heapR z n base), .int .i64 (heapE z n base)]) ∧ Below w.heap.size w w' := by
  obtain ⟨a, cap, rfl⟩ := hz.len
  have HZ := Lib.hid hz; clear hz
  by_cases h200 : 200 < n
  · have hE : heapE z n base = 3 := by unfold heapE; rw [if_pos h200]
    have hR : heapR z n base = 0 := by unfold heapR; rw [hE]; rfl
    rw [hE, hR]; clear hE hR
    go_enter Try.func21, Try.ntmps21
    go_wp2
    go_ret2
    exact ⟨rfl, Below.refl _ _⟩
  cases hb : inB base 1 12
  · have hE : heapE z n base = 1 := by unfold heapE; rw [if_neg h200, if_pos hb]
    have hR : heapR z n base = 0 := by unfold heapR; rw [hE]; rfl
    rw [hE, hR]; clear hE hR
    go_enter Try.func21, Try.ntmps21
    go_wp2_with (go_at_call 62; refine (within_any _ _ _ _).mono ?_; rintro e w' ⟨rfl, rfl⟩)
    go_ret2
    exact ⟨rfl, Below.refl _ _⟩
  cases ha : allB (fun j => inB (z j) 0 140) n
  · have hE : heapE z n base = 2 := by unfold heapE; rw [if_neg h200, if_neg (by rw [hb]; decide), if_pos ha]
    have hR : heapR z n base = 0 := by unfold heapR; rw [hE]; rfl
    rw [hE, hR]; clear hE hR
    go_enter Try.func21, Try.ntmps21
    go_wp2_with (first | (go_at_call 62; refine (within_any _ _ _ _).mono ?_; rintro e w' ⟨rfl, rfl⟩) | (go_at_call 63; refine (all_int n _ z _ (by omega) HZ.out).mono ?_; rintro e w1 ⟨rfl, hb1⟩))
    go_ret2
    exact ⟨rfl, hb1⟩
  by_cases h0 : n = 0
  · have hE : heapE z n base = 7 := by unfold heapE; rw [if_neg h200, if_neg (by rw [hb]; decide), if_neg (by rw [ha]; decide), if_pos h0]
    have hR : heapR z n base = 0 := by unfold heapR; rw [hE]; rfl
    rw [hE, hR]; clear hE hR
    subst h0
    go_enter Try.func21, Try.ntmps21
    go_wp2_with (first | (go_at_call 62; refine (within_any _ _ _ _).mono ?_; rintro e w' ⟨rfl, rfl⟩) | (go_at_call 63; refine (all_int 0 _ z _ (by omega) HZ.out).mono ?_; rintro e w1 ⟨rfl, hb1⟩))
    go_ret2
    exact ⟨rfl, hb1⟩
  · have hE : heapE z n base = 0 := by unfold heapE; rw [if_neg h200, if_neg (by rw [hb]; decide), if_neg (by rw [ha]; decide), if_neg h0]
    have hR : heapR z n base = heapN z base n * base * 1000 / n := by unfold heapR; rw [hE, if_pos rfl]
    rw [hE, hR]; clear hE hR
    have hbb : 1 ≤ base ∧ base ≤ 12 := by simpa [inB] using hb
    have hall : ∀ j, j < n → 0 ≤ z j ∧ z j ≤ 140 := by
      intro j hj
      simp only [allB, List.all_eq_true, List.mem_range] at ha
      simpa [inB] using ha j hj
    have HALL := Lib.hid hall; clear hall
    obtain ⟨hb1', hb2'⟩ := hbb
    have hnz : ((n : Int) == 0) = false := by simp; omega
    obtain ⟨b, off, rfl, hbs, hcell⟩ : ∃ b off, a = some ⟨b, off, none⟩ ∧ b < w.heap.size ∧ ∀ j, j < n → w.cell? ⟨b, off + j, none⟩ = some (.int .i64 (z j)) := by
      rcases HZ.out with ⟨_, h⟩ | ⟨b, off, cap', e, hb, hz⟩
      · exact absurd h h0
      · cases e; exact ⟨b, off, rfl, hb, hz⟩
    have HCELL := Lib.hid hcell; clear hcell
    have hbz : (base == 0) = false := by simp; omega
    have hbm : (base == -1) = false := by simp; omega
    go_enter Try.func21, Try.ntmps21
    go_wp2_with (first | (go_at_call 62; refine (within_any _ _ _ _).mono ?_; rintro e w' ⟨rfl, rfl⟩) | (go_at_call 63; refine (all_int n _ z _ (by omega) HZ.out).mono ?_; rintro e w1 ⟨rfl, hb1⟩; have HB1 := Lib.hid hb1; clear hb1))
    go_loop [6, 27] (fun s i => ∃ k : Nat, k ≤ n ∧ i = .int .i64 k ∧ s = .int .i64 (heapN z base k)) (fun _ i => n - (intOf i).toNat)
    case atStart => exact ⟨0, Nat.zero_le _, rfl, rfl⟩
    case round =>
      obtain ⟨k, hk, rfl, rfl⟩ := hrel
      have hle := heapN_le z base k
      by_cases hlt : k < n
      · have hc : w1.cell? ⟨b, off + k, none⟩ = some (.int .i64 (z k)) := (HB1.out.cell (p := ⟨b, _, none⟩) hbs).trans (HCELL.out k hlt)
        obtain ⟨hz0, hz1⟩ := HALL.out k hlt
        cases hm : (z k % base == 0)
        all_goals
          go_wp2
          go_round
          case rel => exact ⟨k + 1, by omega, by go_num, by rw [heapN]; first | rw [if_pos (by simpa using hm)]; go_num | rw [if_neg (by simpa using hm)]⟩
          case measure => simp [intOf]; omega
      · obtain rfl : k = n := by omega
        have h1 : (heapN z base k : Int) * base ≤ 200 * 12 := Int.mul_le_mul (by omega) hb2' (by omega) (by omega)
        have h2 : 0 ≤ (heapN z base k : Int) * base := Int.mul_nonneg (by omega) (by omega)
        go_wp2
        go_ret2
        exact ⟨rfl, HB1.out⟩
end Go.Proofs.Ytagfcfojfjkmbaa
