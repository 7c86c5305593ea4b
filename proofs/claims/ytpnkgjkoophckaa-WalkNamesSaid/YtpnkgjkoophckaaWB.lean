/- Walk: lists, ranges and roads in memory; loops over them: rises, all, IndexFunc, road. Printed by gen_wb.py. -/
import Derived.Test.YtpnkgjkoophckaaWP
namespace Go.Proofs.Ytpnkgjkoophckaa
open Go.RowKit Go.Shelf

def IntsIn (w : World) (sv : Value) (n : Nat) (z : Nat → Int) : Prop :=
  (∃ a cap, sv = .slice a 0 cap ∧ n = 0) ∨ ∃ b off cap, sv = .slice (some ⟨b, off, none⟩) n cap ∧ b < w.heap.size ∧ ∀ j, j < n → w.cell? ⟨b, off + j, none⟩ = some (.int .i64 (z j))
theorem IntsAt.toIn {w : World} {sv : Value} {n : Nat} {z : Nat → Int} (h : IntsAt w sv n z) : IntsIn w sv n z := by
  rcases h with ⟨h, h2⟩ | h
  · exact .inl ⟨_, _, h, h2⟩
  · exact .inr h
theorem IntsIn.below {w w' : World} {sv : Value} {n : Nat} {z : Nat → Int} (h : IntsIn w sv n z) (hB : Below w.heap.size w w') : IntsIn w' sv n z := by
  rcases h with h | ⟨b, off, cap, rfl, hb, hz⟩
  · exact .inl h
  · exact .inr ⟨b, off, cap, rfl, Nat.lt_of_lt_of_le hb hB.size, fun j hj => kept hB hb (hz j hj)⟩
theorem IntsIn.slice {w : World} {sv : Value} {n : Nat} {z : Nat → Int} (h : IntsIn w sv n z) : ∃ a cap, sv = .slice a n cap := by
  rcases h with ⟨a, cap, rfl, rfl⟩ | ⟨b, off, cap, rfl, _⟩
  · exact ⟨_, _, rfl⟩
  · exact ⟨_, _, rfl⟩
theorem IntsIn.at {w : World} {a : Option Addr} {n cap : Nat} {z : Nat → Int} (h : IntsIn w (.slice a n cap) n z) {k : Nat} (hk : k < n) : ∃ b off, a = some ⟨b, off, none⟩ ∧ b < w.heap.size ∧ w.cell? ⟨b, off + k, none⟩ = some (.int .i64 (z k)) := by
  rcases h with ⟨_, _, _, h⟩ | ⟨b', o', c', e, hb, hz⟩
  · omega
  · cases e; exact ⟨_, _, rfl, hb, hz k hk⟩
theorem IntsIn.at2 {w : World} {a : Option Addr} {n cap : Nat} {z : Nat → Int} (h : IntsIn w (.slice a n cap) n z) {k l : Nat} (hk : k < n) (hl : l < n) : ∃ b off, a = some ⟨b, off, none⟩ ∧ b < w.heap.size ∧ w.cell? ⟨b, off + k, none⟩ = some (.int .i64 (z k)) ∧ w.cell? ⟨b, off + l, none⟩ = some (.int .i64 (z l)) := by
  rcases h with ⟨_, _, _, h⟩ | ⟨b', o', c', e, hb, hz⟩
  · omega
  · cases e; exact ⟨_, _, rfl, hb, hz k hk, hz l hl⟩
def RsIn (w : World) (sv : Value) (n : Nat) (R : Nat → R2) : Prop :=
  (∃ a cap, sv = .slice a 0 cap ∧ n = 0) ∨ ∃ b off cap, sv = .slice (some ⟨b, off, none⟩) n cap ∧ b < w.heap.size ∧ ∀ j, j < n →
    w.cell? ⟨b, off + j * 2, none⟩ = some (.int .i64 (R j).1) ∧ w.cell? ⟨b, off + j * 2 + 1, none⟩ = some (.int .i64 (R j).2)
theorem RsIn.below {w w' : World} {sv : Value} {n : Nat} {R : Nat → R2} (h : RsIn w sv n R) (hB : Below w.heap.size w w') : RsIn w' sv n R := by
  rcases h with h | ⟨b, off, cap, rfl, hb, hz⟩
  · exact .inl h
  · exact .inr ⟨b, off, cap, rfl, Nat.lt_of_lt_of_le hb hB.size, fun j hj => ⟨kept hB hb (hz j hj).1, kept hB hb (hz j hj).2⟩⟩
theorem RsIn.at {w : World} {a : Option Addr} {n cap : Nat} {R : Nat → R2} (h : RsIn w (.slice a n cap) n R) {k : Nat} (hk : k < n) : ∃ b off, a = some ⟨b, off, none⟩ ∧ b < w.heap.size ∧ w.cell? ⟨b, off + k * 2, none⟩ = some (.int .i64 (R k).1) ∧ w.cell? ⟨b, off + k * 2 + 1, none⟩ = some (.int .i64 (R k).2) := by
  rcases h with ⟨_, _, _, h⟩ | ⟨b', o', c', e, hb, hz⟩
  · omega
  · cases e; exact ⟨_, _, rfl, hb, hz k hk⟩
/-- Roads in memory. -/
def RdIn (w : World) (sv : Value) (n : Nat) (m : Mp) : Prop :=
  (∃ a cap, sv = .slice a 0 cap ∧ n = 0) ∨ ∃ b off cap, sv = .slice (some ⟨b, off, none⟩) n cap ∧ b < w.heap.size ∧ ∀ j, j < n →
    w.cell? ⟨b, off + j * 4, none⟩ = some (.int .i64 (m.ra j)) ∧ w.cell? ⟨b, off + j * 4 + 1, none⟩ = some (.int .i64 (m.rb j)) ∧ w.cell? ⟨b, off + j * 4 + 2, none⟩ = some (.int .i64 (m.rt j).1) ∧ w.cell? ⟨b, off + j * 4 + 3, none⟩ = some (.int .i64 (m.rt j).2)
theorem RdIn.below {w w' : World} {sv : Value} {n : Nat} {m : Mp} (h : RdIn w sv n m) (hB : Below w.heap.size w w') : RdIn w' sv n m := by
  rcases h with h | ⟨b, off, cap, rfl, hb, hz⟩
  · exact .inl h
  · exact .inr ⟨b, off, cap, rfl, Nat.lt_of_lt_of_le hb hB.size, fun j hj => ⟨kept hB hb (hz j hj).1, kept hB hb (hz j hj).2.1, kept hB hb (hz j hj).2.2.1, kept hB hb (hz j hj).2.2.2⟩⟩
theorem RdIn.at {w : World} {a : Option Addr} {n cap : Nat} {m : Mp} (h : RdIn w (.slice a n cap) n m) {k : Nat} (hk : k < n) : ∃ b off, a = some ⟨b, off, none⟩ ∧ b < w.heap.size ∧ w.cell? ⟨b, off + k * 4, none⟩ = some (.int .i64 (m.ra k)) ∧ w.cell? ⟨b, off + k * 4 + 1, none⟩ = some (.int .i64 (m.rb k)) ∧ w.cell? ⟨b, off + k * 4 + 2, none⟩ = some (.int .i64 (m.rt k).1) ∧ w.cell? ⟨b, off + k * 4 + 3, none⟩ = some (.int .i64 (m.rt k).2) := by
  rcases h with ⟨_, _, _, h⟩ | ⟨b', o', c', e, hb, hz⟩
  · omega
  · cases e; exact ⟨_, _, rfl, hb, hz k hk⟩
/-- Where a map's lists lie. -/
structure MV where
  wa : Option Addr
  wc : Nat
  ra : Option Addr
  rc : Nat
structure MpIn (w : World) (x : MV) (m : Mp) : Prop where
  wk : RsIn w (.slice x.wa m.nw x.wc) m.nw m.wk
  rd : RdIn w (.slice x.ra m.nr x.rc) m.nr m
theorem MpIn.below {w w' : World} {x : MV} {m : Mp} (h : MpIn w x m) (hB : Below w.heap.size w w') : MpIn w' x m := ⟨h.wk.below hB, h.rd.below hB⟩
/-- Each number is greater than the one before it. -/
def risesB (z : Nat → Int) (n : Nat) : Bool := allB (fun k => decide (z k < z (k + 1))) (n - 1)
set_option maxHeartbeats 1000000 in
theorem rises_any (a : Option Addr) (n cap : Nat) (z : Nat → Int) (w : World) (hn : n ≤ 100000) (hz : IntsIn w (.slice a n cap) n z) :
    Calls Try.prog 67 #[.slice a n cap] w fun e w' => e = .returned (.bool (risesB z n)) ∧ Below w.heap.size w w' := by
  have HZ := Lib.hid hz; clear hz
  go_enter Try.func67, Try.ntmps67
  go_wp2
  go_loopw [3] (fun i wr => ∃ k : Nat, i = .int .i64 (k + 1 : Nat) ∧ (k ≤ n - 1) ∧ (∀ q, q < k → z q < z (q + 1)) ∧ Below w.heap.size w wr) (fun i _ => n + 1 - (intOf i).toNat)
  case atStart => exact ⟨0, rfl, Nat.zero_le _, fun q h => absurd h (Nat.not_lt_zero _), Below.refl _ _⟩
  case round =>
    obtain ⟨k, rfl, hk, hall, hbl⟩ := hrel
    have HA := Lib.hid hall; clear hall
    have HB := Lib.hid hbl; clear hbl
    by_cases hlt : k + 1 < n
    · obtain ⟨b, off, rfl, hb, x0, x1⟩ := (HZ.out.below HB.out).at2 (k := k + 1) (l := k) hlt (by omega)
      have hs : IntKind.i64.wrap (((k + 1 : Nat) : Int) - 1) = k := by rw [IntWalk.i64_in _ (by omega)]; omega
      by_cases hin : z k < z (k + 1)
      · go_wp2_with fail
        go_quiet (fail)
        go_wp2_with fail
        go_roundw
        case rel => exact ⟨k + 1, by go_num, by omega, (fun q hq => by rcases Nat.lt_succ_iff_lt_or_eq.1 hq with h | rfl; exact HA.out q h; exact hin), HB.out.trans (below_drewS _ _ _)⟩
        case measure => simp [intOf]; omega
      · go_wp2_with fail
        go_quiet (fail)
        go_wp2_with fail
        go_ret
        exact ⟨ret_bool (by unfold risesB; rw [allB_false (k := k) (by omega) (by simp; omega)]), HB.out.trans (below_drewS _ _ _)⟩
    · go_wp2_with fail
      go_ret
      exact ⟨ret_bool (by unfold risesB; rw [allB_true (fun q hq => by simpa using HA.out q (by omega))]), HB.out⟩

/-- What IndexFunc gives for 'not p'. -/
def IdxPost (p : Nat → Bool) (n : Nat) (w : World) (e : Ending) (w' : World) : Prop := ∃ r : Int, e = .returned (.int .i64 r) ∧ decide (0 ≤ r) = !allB p n ∧ Below w.heap.size w w'
def neB (z : Nat → Int) (x : Int) (j : Nat) : Bool := decide (z j ≠ x)
theorem neB_no {z : Nat → Int} {x : Int} {k : Nat} (h : x = z k) : neB z x k = false := by simp [neB, h]
theorem neB_ok {z : Nat → Int} {x : Int} {k : Nat} (h : ¬ x = z k) : neB z x k = true := by simp [neB]; omega
set_option maxHeartbeats 1000000 in
theorem index_any (a : Option Addr) (n cap : Nat) (z : Nat → Int) (x : Int) (w : World) (hn : n ≤ 100000) (hz : IntsIn w (.slice a n cap) n z) :
    Calls Try.prog 119 #[.slice a n cap, .int .i64 x] w fun e w' => ∃ r : Int, e = .returned (.int .i64 r) ∧ decide (0 ≤ r) = !allB (neB z x) n ∧ w = w' := by
  have HZ := Lib.hid hz; clear hz
  go_enter Try.func119, Try.ntmps119
  go_wp2
  go_loop [8] (fun i => ∃ k : Nat, k ≤ n ∧ i = .int .i64 k ∧ (∀ q, q < k → neB z x q = true)) (fun i => n - (intOf i).toNat)
  case atStart => exact ⟨0, Nat.zero_le _, rfl, fun q h => absurd h (Nat.not_lt_zero _)⟩
  case round =>
    obtain ⟨k, hk, rfl, hall⟩ := hrel
    have HA := Lib.hid hall; clear hall
    by_cases hlt : k < n
    · obtain ⟨b, off, rfl, hb, x0⟩ := HZ.out.at hlt
      by_cases hin : x = z k
      · go_wp2_with fail
        go_ret
        exact ⟨_, rfl, by rw [allB_false hlt (neB_no rfl)]; simp, rfl⟩
      · go_wp2_with fail
        go_round
        case rel => exact ⟨k + 1, by omega, by go_num, (fun q hq => by rcases Nat.lt_succ_iff_lt_or_eq.1 hq with h | rfl; exact HA.out q h; exact neB_ok hin)⟩
        case measure => simp [intOf]; omega
    · obtain rfl : k = n := by omega
      go_wp2
      go_ret
      exact ⟨_, rfl, by rw [allB_true HA.out]; rfl, rfl⟩
/-- A list has a number. -/
def hasB (z : Nat → Int) (n : Nat) (x : Int) : Bool := !allB (neB z x) n
set_option maxHeartbeats 1000000 in
theorem contains_any (a : Option Addr) (n cap : Nat) (z : Nat → Int) (x : Int) (w : World) (hn : n ≤ 100000) (hz : IntsIn w (.slice a n cap) n z) :
    Calls Try.prog 109 #[.slice a n cap, .int .i64 x] w fun e w' => e = .returned (.bool (hasB z n x)) ∧ w = w' := by
  have HI := Lib.hid (index_any a n cap z x w hn hz); clear hz
  go_enter Try.func109, Try.ntmps109
  go_wp2_with (go_at_call 119; refine HI.out.mono ?_; rintro e w' ⟨r, rfl, hr, rfl⟩; have HR := Lib.hid hr; clear hr)
  go_ret
  exact ⟨ret_bool HR.out, rfl⟩
set_option maxHeartbeats 1000000 in
theorem visited_any (c : Nat) (a : Option Addr) (n cap : Nat) (z : Nat → Int) (x : Int) (w : World) (hn : n ≤ 100000) (hz : IntsIn w (.slice a n cap) n z) (hc : w.cell? ⟨c, 0, none⟩ = some (.slice a n cap)) :
    Calls Try.prog 108 #[.int .i64 x, .pointer (some ⟨c, 0, none⟩)] w fun e w' => e = .returned (.bool (hasB z n x)) ∧ w = w' := by
  have HI := Lib.hid (contains_any a n cap z x w hn hz); clear hz
  go_enter Try.func108, Try.ntmps108
  go_wp2_with (go_at_call 109; refine HI.out.mono ?_; rintro e w' ⟨rfl, rfl⟩)
  go_ret
  exact ⟨rfl, rfl⟩

set_option maxHeartbeats 1000000 in
theorem closure_work (c : Nat)  (r : R2) (w : World)  (hl : c < w.heap.size) (hc : w.cell? ⟨c, 0, none⟩ = some (.func (.func 84) #[] #[])) :
    Calls Try.prog 105 #[.agg #[.int .i64 r.1, .int .i64 r.2], .pointer (some ⟨c, 0, none⟩)] w fun e w' => e = .returned (.bool (!insideR r 0 50)) ∧ Below w.heap.size w w' := by
  go_enter Try.func105, Try.ntmps105
  go_wp2_with (go_at_call 84; refine (work_any r.1 r.2 _).mono ?_; rintro e w2 ⟨rfl, hb⟩)
  go_ret
  have HBZ := Lib.hid ((below_alloc w _).trans (hb.mono (by simp)))
  exact ⟨rfl, HBZ.out⟩
set_option maxHeartbeats 1000000 in
theorem indexFunc_work (c n : Nat) (a : Option Addr) (cap : Nat)  (R : Nat → R2) (w : World) (hlen : n ≤ 100000) (hl : c < w.heap.size)  (hc : w.cell? ⟨c, 0, none⟩ = some (.func (.func 84) #[] #[])) (hz : RsIn w (.slice a n cap) n R) :
    Calls Try.prog 115 #[.slice a n cap, .func (.func 105) #[] #[.pointer (some ⟨c, 0, none⟩)]] w (IdxPost (fun j => insideR (R j) 0 50) n w) := by
  have HZ := Lib.hid hz; clear hz
  have HC := Lib.hid (fun W (hW : Below w.heap.size w W) => (hW.cell (p := ⟨c, 0, none⟩) hl).trans hc); clear hc
  have HV := Lib.hid (fun W (hW : Below w.heap.size w W) (r : R2) => closure_work c  r W  (Nat.lt_of_lt_of_le hl hW.size) (HC.out W hW))
  go_enter Try.func115, Try.ntmps115
  go_wp2
  go_loopw [8] (fun i wr => ∃ k : Nat, k ≤ n ∧ i = .int .i64 k ∧ (∀ q, q < k → insideR (R q) 0 50 = true) ∧ Below w.heap.size w wr) (fun i _ => n - (intOf i).toNat)
  case atStart => exact ⟨0, Nat.zero_le _, rfl, fun q h => absurd h (Nat.not_lt_zero _), Below.refl _ _⟩
  case round =>
    obtain ⟨k, hk, rfl, hall, hbl⟩ := hrel
    have HA := Lib.hid hall; clear hall
    have HB := Lib.hid hbl; clear hbl
    by_cases hlt : k < n
    · obtain ⟨b, off, rfl, hb, x0, x1⟩ := (HZ.out.below HB.out).at hlt
      by_cases hin : insideR (R k) 0 50 = true
      · go_wp2_with (go_at_call 105; refine (HV.out _ HB.out (R k)).mono ?_; rintro r w2 ⟨rfl, hb2⟩)
        go_roundw
        case rel => exact ⟨k + 1, by omega, by go_num, (fun q hq => by rcases Nat.lt_succ_iff_lt_or_eq.1 hq with h | rfl; exact HA.out q h; exact hin), HB.out.trans (hb2.mono HB.out.size)⟩
        case measure => simp [intOf]; omega
      · have hin' : insideR (R k) 0 50 = false := by simpa using hin
        clear hin
        go_wp2_with (go_at_call 105; refine (HV.out _ HB.out (R k)).mono ?_; rintro r w2 ⟨rfl, hb2⟩)
        go_ret
        exact ⟨_, rfl, by rw [allB_false hlt hin']; simp, HB.out.trans (hb2.mono HB.out.size)⟩
    · obtain rfl : k = n := by omega
      go_wp2
      go_ret
      exact ⟨_, rfl, by rw [allB_true HA.out]; rfl, HB.out⟩
set_option maxHeartbeats 1000000 in
theorem containsFunc_work (c n : Nat) (a : Option Addr) (cap : Nat)  (R : Nat → R2) (w : World) (hlen : n ≤ 100000) (hl : c < w.heap.size)  (hc : w.cell? ⟨c, 0, none⟩ = some (.func (.func 84) #[] #[])) (hz : RsIn w (.slice a n cap) n R) :
    Calls Try.prog 104 #[.slice a n cap, .func (.func 105) #[] #[.pointer (some ⟨c, 0, none⟩)]] w fun e w' => e = .returned (.bool (!allB (fun j => insideR (R j) 0 50) n)) ∧ Below w.heap.size w w' := by
  have HI := Lib.hid (indexFunc_work c n a cap  R w hlen hl  hc hz); clear hc hz
  go_enter Try.func104, Try.ntmps104
  go_wp2_with (go_at_call 115; refine HI.out.mono ?_; rintro e w' ⟨r, rfl, hr, hb⟩; have HR := Lib.hid hr; clear hr)
  go_ret
  exact ⟨ret_bool HR.out, hb⟩
set_option maxHeartbeats 1000000 in
theorem all_work (n : Nat) (a : Option Addr) (cap : Nat)  (R : Nat → R2) (w : World) (hlen : n ≤ 100000)  (hz : RsIn w (.slice a n cap) n R) :
    Calls Try.prog 83 #[.slice a n cap, .func (.func 84) #[] #[]] w fun e w' => e = .returned (.bool (allB (fun j => insideR (R j) 0 50) n)) ∧ Below w.heap.size w w' := by
  have HI := Lib.hid (fun c W (hW : Below w.heap.size w W) (hl : c < W.heap.size) (hc : W.cell? ⟨c, 0, none⟩ = some (.func (.func 84) #[] #[])) => containsFunc_work c n a cap  R W hlen hl  hc (hz.below hW)); clear hz
  go_enter Try.func83, Try.ntmps83
  go_wp2_with (go_at_call 104; refine (HI.out _ _ (below_alloc _ _) (by simp) (box_cell _ _ _)).mono ?_; rintro e w' ⟨rfl, hb⟩)
  go_ret
  exact ⟨ret_bool (by simp), (below_alloc _ _).trans (hb.mono (by simp))⟩

set_option maxHeartbeats 1000000 in
theorem closure_place (c : Nat) (x : MV) (nw nr : Nat) (r : Int) (w : World) (hnw : nw ≤ 1000000) (hc : w.cell? ⟨c, 0, none⟩ = some (.func (.func 66) #[.agg #[.slice x.wa nw x.wc, .slice x.ra nr x.rc]] #[])) :
    Calls Try.prog 96 #[.int .i64 r, .pointer (some ⟨c, 0, none⟩)] w fun e w' => e = .returned (.bool (!inB r 0 ((nw : Int) - 1))) ∧ Below w.heap.size w w' := by
  go_enter Try.func96, Try.ntmps96
  go_wp2_with (go_at_call 66; refine (place_any x.wa x.ra x.wc x.rc nw nr r w hnw).mono ?_; rintro e w2 ⟨rfl, hb⟩; have HBZ := Lib.hid hb; clear hb)
  go_ret
  exact ⟨rfl, HBZ.out⟩
set_option maxHeartbeats 1000000 in
theorem indexFunc_place (c n : Nat) (a : Option Addr) (cap : Nat) (x : MV) (nw nr : Nat) (R : Nat → Int) (w : World) (hlen : n ≤ 100000) (hl : c < w.heap.size) (hnw : nw ≤ 1000000) (hc : w.cell? ⟨c, 0, none⟩ = some (.func (.func 66) #[.agg #[.slice x.wa nw x.wc, .slice x.ra nr x.rc]] #[])) (hz : IntsIn w (.slice a n cap) n R) :
    Calls Try.prog 112 #[.slice a n cap, .func (.func 96) #[] #[.pointer (some ⟨c, 0, none⟩)]] w (IdxPost (fun j => inB (R j) 0 ((nw : Int) - 1)) n w) := by
  have HZ := Lib.hid hz; clear hz
  have HC := Lib.hid (fun W (hW : Below w.heap.size w W) => (hW.cell (p := ⟨c, 0, none⟩) hl).trans hc); clear hc
  have HV := Lib.hid (fun W (hW : Below w.heap.size w W) (r : Int) => closure_place c x nw nr r W hnw (HC.out W hW))
  go_enter Try.func112, Try.ntmps112
  go_wp2
  go_loopw [8] (fun i wr => ∃ k : Nat, k ≤ n ∧ i = .int .i64 k ∧ (∀ q, q < k → inB (R q) 0 ((nw : Int) - 1) = true) ∧ Below w.heap.size w wr) (fun i _ => n - (intOf i).toNat)
  case atStart => exact ⟨0, Nat.zero_le _, rfl, fun q h => absurd h (Nat.not_lt_zero _), Below.refl _ _⟩
  case round =>
    obtain ⟨k, hk, rfl, hall, hbl⟩ := hrel
    have HA := Lib.hid hall; clear hall
    have HB := Lib.hid hbl; clear hbl
    by_cases hlt : k < n
    · obtain ⟨b, off, rfl, hb, x0⟩ := (HZ.out.below HB.out).at hlt
      by_cases hin : inB (R k) 0 ((nw : Int) - 1) = true
      · go_wp2_with (go_at_call 96; refine (HV.out _ HB.out (R k)).mono ?_; rintro r w2 ⟨rfl, hb2⟩)
        go_roundw
        case rel => exact ⟨k + 1, by omega, by go_num, (fun q hq => by rcases Nat.lt_succ_iff_lt_or_eq.1 hq with h | rfl; exact HA.out q h; exact hin), HB.out.trans (hb2.mono HB.out.size)⟩
        case measure => simp [intOf]; omega
      · have hin' : inB (R k) 0 ((nw : Int) - 1) = false := by simpa using hin
        clear hin
        go_wp2_with (go_at_call 96; refine (HV.out _ HB.out (R k)).mono ?_; rintro r w2 ⟨rfl, hb2⟩)
        go_ret
        exact ⟨_, rfl, by rw [allB_false hlt hin']; simp, HB.out.trans (hb2.mono HB.out.size)⟩
    · obtain rfl : k = n := by omega
      go_wp2
      go_ret
      exact ⟨_, rfl, by rw [allB_true HA.out]; rfl, HB.out⟩
set_option maxHeartbeats 1000000 in
theorem containsFunc_place (c n : Nat) (a : Option Addr) (cap : Nat) (x : MV) (nw nr : Nat) (R : Nat → Int) (w : World) (hlen : n ≤ 100000) (hl : c < w.heap.size) (hnw : nw ≤ 1000000) (hc : w.cell? ⟨c, 0, none⟩ = some (.func (.func 66) #[.agg #[.slice x.wa nw x.wc, .slice x.ra nr x.rc]] #[])) (hz : IntsIn w (.slice a n cap) n R) :
    Calls Try.prog 95 #[.slice a n cap, .func (.func 96) #[] #[.pointer (some ⟨c, 0, none⟩)]] w fun e w' => e = .returned (.bool (!allB (fun j => inB (R j) 0 ((nw : Int) - 1)) n)) ∧ Below w.heap.size w w' := by
  have HI := Lib.hid (indexFunc_place c n a cap x nw nr R w hlen hl hnw hc hz); clear hc hz
  go_enter Try.func95, Try.ntmps95
  go_wp2_with (go_at_call 112; refine HI.out.mono ?_; rintro e w' ⟨r, rfl, hr, hb⟩; have HR := Lib.hid hr; clear hr)
  go_ret
  exact ⟨ret_bool HR.out, hb⟩
set_option maxHeartbeats 1000000 in
theorem all_place (n : Nat) (a : Option Addr) (cap : Nat) (x : MV) (nw nr : Nat) (R : Nat → Int) (w : World) (hlen : n ≤ 100000) (hnw : nw ≤ 1000000) (hz : IntsIn w (.slice a n cap) n R) :
    Calls Try.prog 68 #[.slice a n cap, .func (.func 66) #[.agg #[.slice x.wa nw x.wc, .slice x.ra nr x.rc]] #[]] w fun e w' => e = .returned (.bool (allB (fun j => inB (R j) 0 ((nw : Int) - 1)) n)) ∧ Below w.heap.size w w' := by
  have HI := Lib.hid (fun c W (hW : Below w.heap.size w W) (hl : c < W.heap.size) (hc : W.cell? ⟨c, 0, none⟩ = some (.func (.func 66) #[.agg #[.slice x.wa nw x.wc, .slice x.ra nr x.rc]] #[])) => containsFunc_place c n a cap x nw nr R W hlen hl hnw hc (hz.below hW)); clear hz
  go_enter Try.func68, Try.ntmps68
  go_wp2_with (go_at_call 95; refine (HI.out _ _ (below_alloc _ _) (by simp) (box_cell _ _ _)).mono ?_; rintro e w' ⟨rfl, hb⟩)
  go_ret
  exact ⟨ret_bool (by simp), (below_alloc _ _).trans (hb.mono (by simp))⟩

set_option maxHeartbeats 1000000 in
theorem closure_visited (c : Nat) (c3 : Nat) (a3 : Option Addr) (n3 cap3 : Nat) (z3 : Nat → Int) (r : Int) (w : World) (hn3 : n3 ≤ 100000) (hz3 : IntsIn w (.slice a3 n3 cap3) n3 z3) (hc3 : w.cell? ⟨c3, 0, none⟩ = some (.slice a3 n3 cap3)) (hc : w.cell? ⟨c, 0, none⟩ = some (.func (.func 108) #[] #[.pointer (some ⟨c3, 0, none⟩)])) :
    Calls Try.prog 96 #[.int .i64 r, .pointer (some ⟨c, 0, none⟩)] w fun e w' => e = .returned (.bool (!hasB z3 n3 r)) ∧ Below w.heap.size w w' := by
  have HI := Lib.hid (visited_any c3 a3 n3 cap3 z3 r w hn3 hz3 hc3)
  go_enter Try.func96, Try.ntmps96
  go_wp2_with (go_at_call 108; refine (HI.out).mono ?_; rintro e w2 ⟨rfl, hb⟩; have HBZ := Lib.hid (show Below w.heap.size w w2 from hb ▸ Below.refl _ _); clear hb)
  go_ret
  exact ⟨rfl, HBZ.out⟩
set_option maxHeartbeats 1000000 in
theorem indexFunc_visited (c n : Nat) (a : Option Addr) (cap : Nat) (c3 : Nat) (a3 : Option Addr) (n3 cap3 : Nat) (z3 : Nat → Int) (R : Nat → Int) (w : World) (hlen : n ≤ 100000) (hl : c < w.heap.size) (hn3 : n3 ≤ 100000) (hl3 : c3 < w.heap.size) (hz3 : IntsIn w (.slice a3 n3 cap3) n3 z3) (hc3 : w.cell? ⟨c3, 0, none⟩ = some (.slice a3 n3 cap3)) (hc : w.cell? ⟨c, 0, none⟩ = some (.func (.func 108) #[] #[.pointer (some ⟨c3, 0, none⟩)])) (hz : IntsIn w (.slice a n cap) n R) :
    Calls Try.prog 112 #[.slice a n cap, .func (.func 96) #[] #[.pointer (some ⟨c, 0, none⟩)]] w (IdxPost (fun j => hasB z3 n3 (R j)) n w) := by
  have HZ := Lib.hid hz; clear hz
  have HC := Lib.hid (fun W (hW : Below w.heap.size w W) => (hW.cell (p := ⟨c, 0, none⟩) hl).trans hc); clear hc
  have HV := Lib.hid (fun W (hW : Below w.heap.size w W) (r : Int) => closure_visited c c3 a3 n3 cap3 z3 r W hn3 (hz3.below hW) ((hW.cell (p := ⟨c3, 0, none⟩) hl3).trans hc3) (HC.out W hW))
  go_enter Try.func112, Try.ntmps112
  go_wp2
  go_loopw [8] (fun i wr => ∃ k : Nat, k ≤ n ∧ i = .int .i64 k ∧ (∀ q, q < k → hasB z3 n3 (R q) = true) ∧ Below w.heap.size w wr) (fun i _ => n - (intOf i).toNat)
  case atStart => exact ⟨0, Nat.zero_le _, rfl, fun q h => absurd h (Nat.not_lt_zero _), Below.refl _ _⟩
  case round =>
    obtain ⟨k, hk, rfl, hall, hbl⟩ := hrel
    have HA := Lib.hid hall; clear hall
    have HB := Lib.hid hbl; clear hbl
    by_cases hlt : k < n
    · obtain ⟨b, off, rfl, hb, x0⟩ := (HZ.out.below HB.out).at hlt
      by_cases hin : hasB z3 n3 (R k) = true
      · go_wp2_with (go_at_call 96; refine (HV.out _ HB.out (R k)).mono ?_; rintro r w2 ⟨rfl, hb2⟩)
        go_roundw
        case rel => exact ⟨k + 1, by omega, by go_num, (fun q hq => by rcases Nat.lt_succ_iff_lt_or_eq.1 hq with h | rfl; exact HA.out q h; exact hin), HB.out.trans (hb2.mono HB.out.size)⟩
        case measure => simp [intOf]; omega
      · have hin' : hasB z3 n3 (R k) = false := by simpa using hin
        clear hin
        go_wp2_with (go_at_call 96; refine (HV.out _ HB.out (R k)).mono ?_; rintro r w2 ⟨rfl, hb2⟩)
        go_ret
        exact ⟨_, rfl, by rw [allB_false hlt hin']; simp, HB.out.trans (hb2.mono HB.out.size)⟩
    · obtain rfl : k = n := by omega
      go_wp2
      go_ret
      exact ⟨_, rfl, by rw [allB_true HA.out]; rfl, HB.out⟩
set_option maxHeartbeats 1000000 in
theorem containsFunc_visited (c n : Nat) (a : Option Addr) (cap : Nat) (c3 : Nat) (a3 : Option Addr) (n3 cap3 : Nat) (z3 : Nat → Int) (R : Nat → Int) (w : World) (hlen : n ≤ 100000) (hl : c < w.heap.size) (hn3 : n3 ≤ 100000) (hl3 : c3 < w.heap.size) (hz3 : IntsIn w (.slice a3 n3 cap3) n3 z3) (hc3 : w.cell? ⟨c3, 0, none⟩ = some (.slice a3 n3 cap3)) (hc : w.cell? ⟨c, 0, none⟩ = some (.func (.func 108) #[] #[.pointer (some ⟨c3, 0, none⟩)])) (hz : IntsIn w (.slice a n cap) n R) :
    Calls Try.prog 95 #[.slice a n cap, .func (.func 96) #[] #[.pointer (some ⟨c, 0, none⟩)]] w fun e w' => e = .returned (.bool (!allB (fun j => hasB z3 n3 (R j)) n)) ∧ Below w.heap.size w w' := by
  have HI := Lib.hid (indexFunc_visited c n a cap c3 a3 n3 cap3 z3 R w hlen hl hn3 hl3 hz3 hc3 hc hz); clear hc hz
  go_enter Try.func95, Try.ntmps95
  go_wp2_with (go_at_call 112; refine HI.out.mono ?_; rintro e w' ⟨r, rfl, hr, hb⟩; have HR := Lib.hid hr; clear hr)
  go_ret
  exact ⟨ret_bool HR.out, hb⟩
set_option maxHeartbeats 1000000 in
theorem all_visited (n : Nat) (a : Option Addr) (cap : Nat) (c3 : Nat) (a3 : Option Addr) (n3 cap3 : Nat) (z3 : Nat → Int) (R : Nat → Int) (w : World) (hlen : n ≤ 100000) (hn3 : n3 ≤ 100000) (hl3 : c3 < w.heap.size) (hz3 : IntsIn w (.slice a3 n3 cap3) n3 z3) (hc3 : w.cell? ⟨c3, 0, none⟩ = some (.slice a3 n3 cap3)) (hz : IntsIn w (.slice a n cap) n R) :
    Calls Try.prog 68 #[.slice a n cap, .func (.func 108) #[] #[.pointer (some ⟨c3, 0, none⟩)]] w fun e w' => e = .returned (.bool (allB (fun j => hasB z3 n3 (R j)) n)) ∧ Below w.heap.size w w' := by
  have HI := Lib.hid (fun c W (hW : Below w.heap.size w W) (hl : c < W.heap.size) (hc : W.cell? ⟨c, 0, none⟩ = some (.func (.func 108) #[] #[.pointer (some ⟨c3, 0, none⟩)])) => containsFunc_visited c n a cap c3 a3 n3 cap3 z3 R W hlen hl hn3 (Nat.lt_of_lt_of_le hl3 hW.size) (hz3.below hW) ((hW.cell (p := ⟨c3, 0, none⟩) hl3).trans hc3) hc (hz.below hW)); clear hz
  go_enter Try.func68, Try.ntmps68
  go_wp2_with (go_at_call 95; refine (HI.out _ _ (below_alloc _ _) (by simp) (box_cell _ _ _)).mono ?_; rintro e w' ⟨rfl, hb⟩)
  go_ret
  exact ⟨ret_bool (by simp), (below_alloc _ _).trans (hb.mono (by simp))⟩
end Go.Proofs.Ytpnkgjkoophckaa
