/- Contracts: all over rules and records, CheckPerson. -/
import Derived.Test.YtagfcfojfjkmbaaA7
namespace Go.Proofs.Ytagfcfojfjkmbaa
open Go.RowKit

set_option maxHeartbeats 1000000 in
theorem indexFunc_recs_some (c b off cap n : Nat) (lo hi : Int) (a : Option Addr) (nr cap' : Nat) (cv : Value) (C : Nat → Rc) (w : World) (hn : nr ≤ 100000) (hlen : n ≤ 100000) (hl : c < w.heap.size) (hc : w.cell? ⟨c, 0, none⟩ = some (.func (.func 76) #[.agg #[.int .i64 lo, .int .i64 hi, .slice a nr cap', cv]] #[]))
    (hz : RcsAt w (.slice (some ⟨b, off, none⟩) n cap) n C) :
    Calls Try.prog 108 #[.slice (some ⟨b, off, none⟩) n cap, .func (.func 101) #[] #[.pointer (some ⟨c, 0, none⟩)]] w (IdxPost (fun j => (C j).ok nr) n w) := by
  have HZ := Lib.hid hz; clear hz
  have HC := Lib.hid hc; clear hc
  have HV := Lib.hid closure_rec
  unfold Rc.v at HV
  go_enter Try.func108, Try.ntmps108
  go_wp2
  go_loopw [8] (fun i wr => ∃ k : Nat, k ≤ n ∧ i = .int .i64 k ∧ (∀ q, q < k → (C q).ok nr = true) ∧ Below w.heap.size w wr) (fun i _ => n - (intOf i).toNat)
  case atStart => exact ⟨0, Nat.zero_le _, rfl, fun q h => absurd h (Nat.not_lt_zero _), Below.refl _ _⟩
  case round =>
    obtain ⟨k, hk, rfl, hall, hbl⟩ := hrel
    have HA := Lib.hid hall; clear hall
    have hl' := Nat.lt_of_lt_of_le hl hbl.size
    have HC' := Lib.hid ((hbl.cell (p := ⟨c, 0, none⟩) hl).trans HC.out)
    have HB := Lib.hid hbl; clear hbl
    by_cases hlt : k < n
    · have hcx : wr.cell? ⟨b, off + k * 3, none⟩ = some (.int .i64 (C k).day) ∧ wr.cell? ⟨b, off + k * 3 + 1, none⟩ = some (.int .i64 (C k).rule) ∧ wr.cell? ⟨b, off + k * 3 + 2, none⟩ = some (.int .i64 (C k).num) := by
        rcases HZ.out.below HB.out with ⟨h, _⟩ | ⟨b', off', cap', h, _, hz⟩
        · cases h
        · cases h; exact hz k hlt
      obtain ⟨x0, x1, x2⟩ := hcx
      by_cases hin : (C k).ok nr = true
      · go_wp2_with (go_at_call 101; refine (HV.out c lo hi a nr cap' cv (C k) _ hn hl' HC'.out).mono ?_; rintro r w2 ⟨rfl, hb2⟩)
        go_roundw
        case rel => exact ⟨k + 1, by omega, by go_num, (fun q hq => by rcases Nat.lt_succ_iff_lt_or_eq.1 hq with h | rfl; exact HA.out q h; exact hin), HB.out.trans (hb2.mono HB.out.size)⟩
        case measure => simp [intOf]; omega
      · have hin' : (C k).ok nr = false := by simpa using hin
        clear hin
        go_wp2_with (go_at_call 101; refine (HV.out c lo hi a nr cap' cv (C k) _ hn hl' HC'.out).mono ?_; rintro r w2 ⟨rfl, hb2⟩)
        go_ret
        exact ⟨_, rfl, by rw [allB_false hlt hin']; simp, HB.out.trans (hb2.mono HB.out.size)⟩
    · obtain rfl : k = n := by omega
      go_wp2
      go_ret
      exact ⟨_, rfl, by rw [allB_true HA.out]; rfl, HB.out⟩


theorem indexFunc_rules (c n : Nat) (sv : Value) (R : Nat → Rl) (w : World) (hlen : n ≤ 100000) (hl : c < w.heap.size) (hc : w.cell? ⟨c, 0, none⟩ = some (.func (.func 78) #[] #[])) (hz : RlsAt w sv n R) :
    Calls Try.prog 107 #[sv, .func (.func 99) #[] #[.pointer (some ⟨c, 0, none⟩)]] w (IdxPost (fun j => (R j).ok) n w) := by
  have hz' := hz
  rcases hz with ⟨rfl, rfl⟩ | ⟨b, off, cap, rfl, _, hz⟩
  · refine (indexFunc_rules_nil _ w).mono ?_
    rintro e w' ⟨rfl, rfl⟩
    exact ⟨_, rfl, by simp [allB], Below.refl _ _⟩
  · exact indexFunc_rules_some c b off cap n R w  hlen hl hc hz'

set_option maxHeartbeats 1000000 in
theorem containsFunc_rules (c n : Nat) (sv : Value) (R : Nat → Rl) (w : World) (hlen : n ≤ 100000) (hl : c < w.heap.size) (hc : w.cell? ⟨c, 0, none⟩ = some (.func (.func 78) #[] #[])) (hz : RlsAt w sv n R) :
    Calls Try.prog 98 #[sv, .func (.func 99) #[] #[.pointer (some ⟨c, 0, none⟩)]] w fun e w' => e = .returned (.bool (!allB (fun j => (R j).ok) n)) ∧ Below w.heap.size w w' := by
  have HI := Lib.hid (indexFunc_rules c n sv R w  hlen hl hc hz); clear hc hz
  go_enter Try.func98, Try.ntmps98
  go_wp2_with (go_at_call 107; refine HI.out.mono ?_; rintro e w' ⟨r, rfl, hr, hb⟩; have HR := Lib.hid hr; clear hr)
  go_ret
  exact ⟨ret_bool HR.out, hb⟩

set_option maxHeartbeats 1000000 in
theorem all_rules (n : Nat) (sv : Value) (R : Nat → Rl) (w : World) (hlen : n ≤ 100000) (hz : RlsAt w sv n R) :
    Calls Try.prog 77 #[sv, .func (.func 78) #[] #[]] w fun e w' => e = .returned (.bool (allB (fun j => (R j).ok) n)) ∧ Below w.heap.size w w' := by
  have HI := Lib.hid hz; clear hz
  go_enter Try.func77, Try.ntmps77
  go_wp2_with (go_at_call 98; refine (containsFunc_rules _ n sv R _  hlen (by simp) (box_cell _ _ _) (HI.out.below (below_alloc _ _))).mono ?_; rintro e w' ⟨rfl, hb⟩)
  go_ret
  exact ⟨ret_bool (by simp), (below_alloc _ _).trans (hb.mono (by simp))⟩

theorem indexFunc_recs (c n : Nat) (sv : Value) (lo hi : Int) (a : Option Addr) (nr cap' : Nat) (cv : Value) (C : Nat → Rc) (w : World) (hn : nr ≤ 100000) (hlen : n ≤ 100000) (hl : c < w.heap.size) (hc : w.cell? ⟨c, 0, none⟩ = some (.func (.func 76) #[.agg #[.int .i64 lo, .int .i64 hi, .slice a nr cap', cv]] #[])) (hz : RcsAt w sv n C) :
    Calls Try.prog 108 #[sv, .func (.func 101) #[] #[.pointer (some ⟨c, 0, none⟩)]] w (IdxPost (fun j => (C j).ok nr) n w) := by
  have hz' := hz
  rcases hz with ⟨rfl, rfl⟩ | ⟨b, off, cap, rfl, _, hz⟩
  · refine (indexFunc_recs_nil _ w).mono ?_
    rintro e w' ⟨rfl, rfl⟩
    exact ⟨_, rfl, by simp [allB], Below.refl _ _⟩
  · exact indexFunc_recs_some c b off cap n lo hi a nr cap' cv C w hn hlen hl hc hz'

set_option maxHeartbeats 1000000 in
theorem containsFunc_recs (c n : Nat) (sv : Value) (lo hi : Int) (a : Option Addr) (nr cap' : Nat) (cv : Value) (C : Nat → Rc) (w : World) (hn : nr ≤ 100000) (hlen : n ≤ 100000) (hl : c < w.heap.size) (hc : w.cell? ⟨c, 0, none⟩ = some (.func (.func 76) #[.agg #[.int .i64 lo, .int .i64 hi, .slice a nr cap', cv]] #[])) (hz : RcsAt w sv n C) :
    Calls Try.prog 100 #[sv, .func (.func 101) #[] #[.pointer (some ⟨c, 0, none⟩)]] w fun e w' => e = .returned (.bool (!allB (fun j => (C j).ok nr) n)) ∧ Below w.heap.size w w' := by
  have HI := Lib.hid (indexFunc_recs c n sv lo hi a nr cap' cv C w hn hlen hl hc hz); clear hc hz
  go_enter Try.func100, Try.ntmps100
  go_wp2_with (go_at_call 108; refine HI.out.mono ?_; rintro e w' ⟨r, rfl, hr, hb⟩; have HR := Lib.hid hr; clear hr)
  go_ret
  exact ⟨ret_bool HR.out, hb⟩

set_option maxHeartbeats 1000000 in
theorem all_recs (n : Nat) (sv : Value) (lo hi : Int) (a : Option Addr) (nr cap' : Nat) (cv : Value) (C : Nat → Rc) (w : World) (hn : nr ≤ 100000) (hlen : n ≤ 100000) (hz : RcsAt w sv n C) :
    Calls Try.prog 79 #[sv, (.func (.func 76) #[.agg #[.int .i64 lo, .int .i64 hi, .slice a nr cap', cv]] #[])] w fun e w' => e = .returned (.bool (allB (fun j => (C j).ok nr) n)) ∧ Below w.heap.size w w' := by
  have HI := Lib.hid hz; clear hz
  go_enter Try.func79, Try.ntmps79
  go_wp2_with (go_at_call 100; refine (containsFunc_recs _ n sv lo hi a nr cap' cv C _ hn hlen (by simp) (box_cell _ _ _) (HI.out.below (below_alloc _ _))).mono ?_; rintro e w' ⟨rfl, hb⟩)
  go_ret
  exact ⟨ret_bool (by simp), (below_alloc _ _).trans (hb.mono (by simp))⟩
end Go.Proofs.Ytagfcfojfjkmbaa
