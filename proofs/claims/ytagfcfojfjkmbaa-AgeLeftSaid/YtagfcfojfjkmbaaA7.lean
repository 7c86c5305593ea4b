/- Contracts: all over rules and records, record, CheckPerson. -/
import Derived.Test.YtagfcfojfjkmbaaA6
namespace Go.Proofs.Ytagfcfojfjkmbaa
open Go.RowKit

structure Rl where
  f : Int
  b : Int
  m : Int
  e : Int
structure Rc where
  day : Int
  rule : Int
  num : Int
def Rl.v (r : Rl) : Value := .agg #[.int .i64 r.f, .int .i64 r.b, .int .i64 r.m, .int .i64 r.e]
def Rl.ok (r : Rl) : Bool := okRule r.f r.b r.m r.e
def Rc.v (r : Rc) : Value := .agg #[.int .i64 r.day, .int .i64 r.rule, .int .i64 r.num]
def Rc.ok (nr : Nat) (r : Rc) : Bool := inB r.day (-50000) 50000 && inB r.rule 0 ((nr : Int) - 1) && inB r.num 0 140

def RlsAt (w : World) (sv : Value) (n : Nat) (R : Nat → Rl) : Prop :=
  (sv = .slice none 0 0 ∧ n = 0) ∨ ∃ b off cap, sv = .slice (some ⟨b, off, none⟩) n cap ∧ b < w.heap.size ∧ ∀ j, j < n →
    w.cell? ⟨b, off + j * 4, none⟩ = some (.int .i64 (R j).f) ∧ w.cell? ⟨b, off + j * 4 + 1, none⟩ = some (.int .i64 (R j).b) ∧ w.cell? ⟨b, off + j * 4 + 2, none⟩ = some (.int .i64 (R j).m) ∧ w.cell? ⟨b, off + j * 4 + 3, none⟩ = some (.int .i64 (R j).e)
def RcsAt (w : World) (sv : Value) (n : Nat) (C : Nat → Rc) : Prop :=
  (sv = .slice none 0 0 ∧ n = 0) ∨ ∃ b off cap, sv = .slice (some ⟨b, off, none⟩) n cap ∧ b < w.heap.size ∧ ∀ j, j < n →
    w.cell? ⟨b, off + j * 3, none⟩ = some (.int .i64 (C j).day) ∧ w.cell? ⟨b, off + j * 3 + 1, none⟩ = some (.int .i64 (C j).rule) ∧ w.cell? ⟨b, off + j * 3 + 2, none⟩ = some (.int .i64 (C j).num)

theorem RlsAt.below {w w' : World} {sv : Value} {n : Nat} {R : Nat → Rl} (h : RlsAt w sv n R) (hB : Below w.heap.size w w') : RlsAt w' sv n R := by
  rcases h with h | ⟨b, off, cap, rfl, hb, hz⟩
  · exact .inl h
  · refine .inr ⟨b, off, cap, rfl, Nat.lt_of_lt_of_le hb hB.size, fun j hj => ?_⟩
    obtain ⟨h0, h1, h2, h3⟩ := hz j hj
    exact ⟨(hB.cell (p := ⟨b, _, none⟩) hb).trans h0, (hB.cell (p := ⟨b, _, none⟩) hb).trans h1, (hB.cell (p := ⟨b, _, none⟩) hb).trans h2, (hB.cell (p := ⟨b, _, none⟩) hb).trans h3⟩
theorem RcsAt.below {w w' : World} {sv : Value} {n : Nat} {C : Nat → Rc} (h : RcsAt w sv n C) (hB : Below w.heap.size w w') : RcsAt w' sv n C := by
  rcases h with h | ⟨b, off, cap, rfl, hb, hz⟩
  · exact .inl h
  · refine .inr ⟨b, off, cap, rfl, Nat.lt_of_lt_of_le hb hB.size, fun j hj => ?_⟩
    obtain ⟨h0, h1, h2⟩ := hz j hj
    exact ⟨(hB.cell (p := ⟨b, _, none⟩) hb).trans h0, (hB.cell (p := ⟨b, _, none⟩) hb).trans h1, (hB.cell (p := ⟨b, _, none⟩) hb).trans h2⟩
theorem RlsAt.slice {w : World} {sv : Value} {n : Nat} {R : Nat → Rl} (h : RlsAt w sv n R) : ∃ a cap, sv = .slice a n cap := by
  rcases h with ⟨rfl, rfl⟩ | ⟨b, off, cap, rfl, _⟩
  · exact ⟨_, _, rfl⟩
  · exact ⟨_, _, rfl⟩
theorem RcsAt.slice {w : World} {sv : Value} {n : Nat} {C : Nat → Rc} (h : RcsAt w sv n C) : ∃ a cap, sv = .slice a n cap := by
  rcases h with ⟨rfl, rfl⟩ | ⟨b, off, cap, rfl, _⟩
  · exact ⟨_, _, rfl⟩
  · exact ⟨_, _, rfl⟩
theorem below_alloc (w : World) (o : Obj) : Below w.heap.size w (w.alloc o) := (Below.refl _ _).alloc (Nat.le_refl _) _
theorem box_cell (w : World) (v : Value) (t : TypeId) : (w.alloc (.cells #[v] t)).cell? ⟨w.heap.size, 0, none⟩ = some v := cell_of_row _ _ 0 _ _ _ (heap_alloc_new _ _)

theorem valid_rl (r : Rl) (w : World) : Calls Try.prog 78 #[.agg #[.int .i64 r.f, .int .i64 r.b, .int .i64 r.m, .int .i64 r.e]] w fun e w' => e = .returned (.bool r.ok) ∧ Below w.heap.size w w' := valid_any _ _ _ _ _

set_option maxHeartbeats 1000000 in
theorem closure_rule (c : Nat) (r : Rl) (w : World) (hl : c < w.heap.size) (hc : w.cell? ⟨c, 0, none⟩ = some (.func (.func 78) #[] #[])) :
    Calls Try.prog 99 #[r.v, .pointer (some ⟨c, 0, none⟩)] w fun e w' => e = .returned (.bool (!r.ok)) ∧ Below w.heap.size w w' := by
  unfold Rl.v
  go_enter Try.func99, Try.ntmps99
  go_wp2_with (go_at_call 78; refine (valid_rl r _).mono ?_; rintro e w2 ⟨rfl, hb⟩)
  go_ret
  exact ⟨rfl, (below_alloc w _).trans (hb.mono (by simp))⟩

set_option maxHeartbeats 1000000 in
theorem record_any (lo hi : Int) (a : Option Addr) (nr cap : Nat) (cv : Value) (r : Rc) (w : World) (hn : nr ≤ 100000) :
    Calls Try.prog 76 #[.agg #[.int .i64 lo, .int .i64 hi, .slice a nr cap, cv], r.v] w fun e w' => e = .returned (.bool (r.ok nr)) ∧ Below w.heap.size w w' := by
  unfold Rc.v
  go_enter Try.func76, Try.ntmps76
  go_wp2_with (first | (go_at_call 66; refine (isDay_any _ _).mono ?_; rintro e w' ⟨rfl, rfl⟩) | (go_at_call 62; refine (within_any _ _ _ _).mono ?_; rintro e w' ⟨rfl, rfl⟩) | (go_at_call 64; refine (isWritten_any _ _).mono ?_; rintro e w' ⟨rfl, rfl⟩))
  all_goals go_ret
  all_goals exact ⟨ret_bool (by simp [Rc.ok, *]), ((Below.refl _ _).alloc (Nat.le_refl _) _).alloc (by simp) _⟩

set_option maxHeartbeats 1000000 in
theorem closure_rec (c : Nat) (lo hi : Int) (a : Option Addr) (nr cap : Nat) (cv : Value) (r : Rc) (w : World) (hn : nr ≤ 100000) (hl : c < w.heap.size) (hc : w.cell? ⟨c, 0, none⟩ = some (.func (.func 76) #[.agg #[.int .i64 lo, .int .i64 hi, .slice a nr cap, cv]] #[])) :
    Calls Try.prog 101 #[r.v, .pointer (some ⟨c, 0, none⟩)] w fun e w' => e = .returned (.bool (!r.ok nr)) ∧ Below w.heap.size w w' := by
  have HR := Lib.hid (fun W => record_any lo hi a nr cap cv r W hn)
  unfold Rc.v at HR ⊢
  go_enter Try.func101, Try.ntmps101
  go_wp2_with (go_at_call 76; refine (HR.out _).mono ?_; rintro e w2 ⟨rfl, hb⟩)
  go_ret
  exact ⟨rfl, (below_alloc w _).trans (hb.mono (by simp))⟩

set_option maxHeartbeats 1000000 in
theorem indexFunc_rules_nil (fv : Value) (w : World) :
    Calls Try.prog 107 #[.slice none 0 0, fv] w fun e w' => e = .returned (.int .i64 (-1)) ∧ w = w' := by
  go_enter Try.func107, Try.ntmps107
  go_wp2
  go_loop [8] (fun i => i = .int .i64 0) (fun _ => 0)
  case atStart => rfl
  case round =>
    obtain rfl := hrel
    go_wp2
    go_ret
    exact ⟨rfl, rfl⟩

set_option maxHeartbeats 1000000 in
theorem indexFunc_recs_nil (fv : Value) (w : World) :
    Calls Try.prog 108 #[.slice none 0 0, fv] w fun e w' => e = .returned (.int .i64 (-1)) ∧ w = w' := by
  go_enter Try.func108, Try.ntmps108
  go_wp2
  go_loop [8] (fun i => i = .int .i64 0) (fun _ => 0)
  case atStart => rfl
  case round =>
    obtain rfl := hrel
    go_wp2
    go_ret
    exact ⟨rfl, rfl⟩

set_option maxHeartbeats 1000000 in
theorem indexFunc_rules_some (c b off cap n : Nat) (R : Nat → Rl) (w : World) (hlen : n ≤ 100000) (hl : c < w.heap.size) (hc : w.cell? ⟨c, 0, none⟩ = some (.func (.func 78) #[] #[]))
    (hz : RlsAt w (.slice (some ⟨b, off, none⟩) n cap) n R) :
    Calls Try.prog 107 #[.slice (some ⟨b, off, none⟩) n cap, .func (.func 99) #[] #[.pointer (some ⟨c, 0, none⟩)]] w (IdxPost (fun j => (R j).ok) n w) := by
  have HZ := Lib.hid hz; clear hz
  have HC := Lib.hid hc; clear hc
  have HV := Lib.hid closure_rule
  unfold Rl.v at HV
  go_enter Try.func107, Try.ntmps107
  go_wp2
  go_loopw [8] (fun i wr => ∃ k : Nat, k ≤ n ∧ i = .int .i64 k ∧ (∀ q, q < k → (R q).ok = true) ∧ Below w.heap.size w wr) (fun i _ => n - (intOf i).toNat)
  case atStart => exact ⟨0, Nat.zero_le _, rfl, fun q h => absurd h (Nat.not_lt_zero _), Below.refl _ _⟩
  case round =>
    obtain ⟨k, hk, rfl, hall, hbl⟩ := hrel
    have HA := Lib.hid hall; clear hall
    have hl' := Nat.lt_of_lt_of_le hl hbl.size
    have HC' := Lib.hid ((hbl.cell (p := ⟨c, 0, none⟩) hl).trans HC.out)
    have HB := Lib.hid hbl; clear hbl
    by_cases hlt : k < n
    · have hcx : wr.cell? ⟨b, off + k * 4, none⟩ = some (.int .i64 (R k).f) ∧ wr.cell? ⟨b, off + k * 4 + 1, none⟩ = some (.int .i64 (R k).b) ∧ wr.cell? ⟨b, off + k * 4 + 2, none⟩ = some (.int .i64 (R k).m) ∧ wr.cell? ⟨b, off + k * 4 + 3, none⟩ = some (.int .i64 (R k).e) := by
        rcases HZ.out.below HB.out with ⟨h, _⟩ | ⟨b', off', cap', h, _, hz⟩
        · cases h
        · cases h; exact hz k hlt
      obtain ⟨x0, x1, x2, x3⟩ := hcx
      by_cases hin : (R k).ok = true
      · go_wp2_with (go_at_call 99; refine (HV.out c (R k) _ hl' HC'.out).mono ?_; rintro r w2 ⟨rfl, hb2⟩)
        go_roundw
        case rel => exact ⟨k + 1, by omega, by go_num, (fun q hq => by rcases Nat.lt_succ_iff_lt_or_eq.1 hq with h | rfl; exact HA.out q h; exact hin), HB.out.trans (hb2.mono HB.out.size)⟩
        case measure => simp [intOf]; omega
      · have hin' : (R k).ok = false := by simpa using hin
        clear hin
        go_wp2_with (go_at_call 99; refine (HV.out c (R k) _ hl' HC'.out).mono ?_; rintro r w2 ⟨rfl, hb2⟩)
        go_ret
        exact ⟨_, rfl, by rw [allB_false hlt hin']; simp, HB.out.trans (hb2.mono HB.out.size)⟩
    · obtain rfl : k = n := by omega
      go_wp2
      go_ret
      exact ⟨_, rfl, by rw [allB_true HA.out]; rfl, HB.out⟩
end Go.Proofs.Ytagfcfojfjkmbaa
