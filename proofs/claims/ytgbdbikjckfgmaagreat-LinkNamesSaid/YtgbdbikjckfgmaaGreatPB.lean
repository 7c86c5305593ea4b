/- Age: persons, births, Same; the reference (turned from the Age seat) (2 of 8). -/
import Derived.Test.YtgbdbikjckfgmaaGreatWG
import Derived.Test.YtgbdbikjckfgmaaGreatPA
import Derived.BigQuiet
import Derived.Carry
import Derived.Deep.AppendLies
import Derived.Deep.DeepCutAuto
import Derived.Deep.DrawnRows
import Derived.Deep.MidRow
import Derived.Deep.QuietTactic
import Derived.Deep.RegionHeld3
import Derived.Deep.RegionLaw
import Derived.Deep.RegionLawGrows
import Derived.Deep.RegionWith
import Derived.Deep.Slices
import Derived.Deep.Strs
import Derived.Laws.EntriesVeiled
import Derived.Laws.Rows
import Derived.Laws.Tables
import Derived.Lib.Hide
import Derived.Lib.SliceRun
import Derived.Lib.SmallJoins
import Derived.LoopIn
import Derived.LoopNIn
import Derived.LoopTactic
import Derived.Maps.AppendAt
import Derived.OpenShut
import Derived.OrdersHeld
import Derived.OrdersIn
import Derived.Outline
import Derived.OwnWalkIn
import Derived.ProofKit
import Derived.RangeFuncBound
import Derived.RangeFuncCalls
import Derived.RangeFuncLeaves
import Derived.RangeFuncNested
import Derived.Shelf.Abstract
import Derived.Shelf.RegionOpen
import Derived.TacticsInMore
import Derived.WalkKit
import Derived.WalkLawsBesides
import Derived.WalkSpells
namespace Go.Proofs.YtgbdbikjckfgmaaGreat
open Go.RowKit
theorem RS.nil (w : World) (base : Nat) : RS w base (.slice none 0 0) [] := World.ownsRow_nil _ _ _ _
theorem okRule_bd {f b m e : Int} (h : okRule f b m e = true) : 0 ≤ f ∧ f ≤ 120 ∧ 1 ≤ b ∧ b ≤ 12 ∧ 0 ≤ m ∧ m ≤ 1 ∧ 0 ≤ e ∧ e ≤ 5 := by
  simp [okRule, inB] at h; omega
/-- What IndexFunc gives for 'not p'. -/
def IdxPost (p : Nat → Bool) (n : Nat) (w : World) (e : Ending) (w' : World) : Prop := ∃ r : Int, e = .returned (.int .i64 r) ∧ decide (0 ≤ r) = !allB p n ∧ Below w.heap.size w w'
end Go.Proofs.YtgbdbikjckfgmaaGreat
namespace Go.Proofs.YtgbdbikjckfgmaaGreat
open Go.RowKit
structure Rl where
  f : Int
  b : Int
  m : Int
  e : Int
structure Rc where
  day : Int
  rule : Int
  num : Int
def Rl.v (r : Rl) : Value := .agg #[.int .i64 r.f, .int .i64 r.b, .int .i64 r.m, .int .i64 r.e]
def Rl.ok (r : Rl) : Bool := okRule r.f r.b r.m r.e
def Rc.v (r : Rc) : Value := .agg #[.int .i64 r.day, .int .i64 r.rule, .int .i64 r.num]
def Rc.ok (nr : Nat) (r : Rc) : Bool := inB r.day (-50000) 50000 && inB r.rule 0 ((nr : Int) - 1) && inB r.num 0 140
def RlsAt (w : World) (sv : Value) (n : Nat) (R : Nat → Rl) : Prop :=
  (sv = .slice none 0 0 ∧ n = 0) ∨ ∃ b off cap, sv = .slice (some ⟨b, off, none⟩) n cap ∧ b < w.heap.size ∧ ∀ j, j < n →
    w.cell? ⟨b, off + j * 4, none⟩ = some (.int .i64 (R j).f) ∧ w.cell? ⟨b, off + j * 4 + 1, none⟩ = some (.int .i64 (R j).b) ∧ w.cell? ⟨b, off + j * 4 + 2, none⟩ = some (.int .i64 (R j).m) ∧ w.cell? ⟨b, off + j * 4 + 3, none⟩ = some (.int .i64 (R j).e)
def RcsAt (w : World) (sv : Value) (n : Nat) (C : Nat → Rc) : Prop :=
  (sv = .slice none 0 0 ∧ n = 0) ∨ ∃ b off cap, sv = .slice (some ⟨b, off, none⟩) n cap ∧ b < w.heap.size ∧ ∀ j, j < n →
    w.cell? ⟨b, off + j * 3, none⟩ = some (.int .i64 (C j).day) ∧ w.cell? ⟨b, off + j * 3 + 1, none⟩ = some (.int .i64 (C j).rule) ∧ w.cell? ⟨b, off + j * 3 + 2, none⟩ = some (.int .i64 (C j).num)
theorem RlsAt.below {w w' : World} {sv : Value} {n : Nat} {R : Nat → Rl} (h : RlsAt w sv n R) (hB : Below w.heap.size w w') : RlsAt w' sv n R := by
  rcases h with h | ⟨b, off, cap, rfl, hb, hz⟩
  · exact .inl h
  · refine .inr ⟨b, off, cap, rfl, Nat.lt_of_lt_of_le hb hB.size, fun j hj => ?_⟩
    obtain ⟨h0, h1, h2, h3⟩ := hz j hj
    exact ⟨(hB.cell (p := ⟨b, _, none⟩) hb).trans h0, (hB.cell (p := ⟨b, _, none⟩) hb).trans h1, (hB.cell (p := ⟨b, _, none⟩) hb).trans h2, (hB.cell (p := ⟨b, _, none⟩) hb).trans h3⟩
theorem RcsAt.below {w w' : World} {sv : Value} {n : Nat} {C : Nat → Rc} (h : RcsAt w sv n C) (hB : Below w.heap.size w w') : RcsAt w' sv n C := by
  rcases h with h | ⟨b, off, cap, rfl, hb, hz⟩
  · exact .inl h
  · refine .inr ⟨b, off, cap, rfl, Nat.lt_of_lt_of_le hb hB.size, fun j hj => ?_⟩
    obtain ⟨h0, h1, h2⟩ := hz j hj
    exact ⟨(hB.cell (p := ⟨b, _, none⟩) hb).trans h0, (hB.cell (p := ⟨b, _, none⟩) hb).trans h1, (hB.cell (p := ⟨b, _, none⟩) hb).trans h2⟩
theorem RlsAt.slice {w : World} {sv : Value} {n : Nat} {R : Nat → Rl} (h : RlsAt w sv n R) : ∃ a cap, sv = .slice a n cap := by
  rcases h with ⟨rfl, rfl⟩ | ⟨b, off, cap, rfl, _⟩
  · exact ⟨_, _, rfl⟩
  · exact ⟨_, _, rfl⟩
theorem RcsAt.slice {w : World} {sv : Value} {n : Nat} {C : Nat → Rc} (h : RcsAt w sv n C) : ∃ a cap, sv = .slice a n cap := by
  rcases h with ⟨rfl, rfl⟩ | ⟨b, off, cap, rfl, _⟩
  · exact ⟨_, _, rfl⟩
  · exact ⟨_, _, rfl⟩
theorem valid_rl (r : Rl) (w : World) : Calls Tryz.prog 99 #[.agg #[.int .i64 r.f, .int .i64 r.b, .int .i64 r.m, .int .i64 r.e]] w fun e w' => e = .returned (.bool r.ok) ∧ Below w.heap.size w w' := valid_any _ _ _ _ _
set_option maxHeartbeats 1000000 in
theorem closure_rule (c : Nat) (r : Rl) (w : World) (hl : c < w.heap.size) (hc : w.cell? ⟨c, 0, none⟩ = some (.func (.func 99) #[] #[])) :
    Calls Tryz.prog 125 #[r.v, .pointer (some ⟨c, 0, none⟩)] w fun e w' => e = .returned (.bool (!r.ok)) ∧ Below w.heap.size w w' := by
  unfold Rl.v
  go_enter Tryz.func125, Tryz.ntmps125
  go_wp2_with (go_at_call 99; refine (valid_rl r _).mono ?_; rintro e w2 ⟨rfl, hb⟩)
  go_ret
  exact ⟨rfl, (below_alloc w _).trans (hb.mono (by simp))⟩
set_option maxHeartbeats 1000000 in
theorem record_any (lo hi : Int) (a : Option Addr) (nr cap : Nat) (cv : Value) (r : Rc) (w : World) (hn : nr ≤ 100000) :
    Calls Tryz.prog 96 #[.agg #[.int .i64 lo, .int .i64 hi, .slice a nr cap, cv], r.v] w fun e w' => e = .returned (.bool (r.ok nr)) ∧ Below w.heap.size w w' := by
  unfold Rc.v
  go_enter Tryz.func96, Tryz.ntmps96
  go_wp2_with (first | (go_at_call 97; refine (isDay_any _ _).mono ?_; rintro e w' ⟨rfl, rfl⟩) | (go_at_call 122; refine (within_any _ _ _ _).mono ?_; rintro e w' ⟨rfl, rfl⟩) | (go_at_call 123; refine (isWritten_any _ _).mono ?_; rintro e w' ⟨rfl, rfl⟩))
  all_goals go_ret
  all_goals exact ⟨ret_bool (by simp [Rc.ok, *]), ((Below.refl _ _).alloc (Nat.le_refl _) _).alloc (by simp) _⟩
set_option maxHeartbeats 1000000 in
theorem closure_rec (c : Nat) (lo hi : Int) (a : Option Addr) (nr cap : Nat) (cv : Value) (r : Rc) (w : World) (hn : nr ≤ 100000) (hl : c < w.heap.size) (hc : w.cell? ⟨c, 0, none⟩ = some (.func (.func 96) #[.agg #[.int .i64 lo, .int .i64 hi, .slice a nr cap, cv]] #[])) :
    Calls Tryz.prog 127 #[r.v, .pointer (some ⟨c, 0, none⟩)] w fun e w' => e = .returned (.bool (!r.ok nr)) ∧ Below w.heap.size w w' := by
  have HR := Lib.hid (fun W => record_any lo hi a nr cap cv r W hn)
  unfold Rc.v at HR ⊢
  go_enter Tryz.func127, Tryz.ntmps127
  go_wp2_with (go_at_call 96; refine (HR.out _).mono ?_; rintro e w2 ⟨rfl, hb⟩)
  go_ret
  exact ⟨rfl, (below_alloc w _).trans (hb.mono (by simp))⟩
set_option maxHeartbeats 1000000 in
theorem indexFunc_rules_nil (fv : Value) (w : World) :
    Calls Tryz.prog 140 #[.slice none 0 0, fv] w fun e w' => e = .returned (.int .i64 (-1)) ∧ w = w' := by
  go_enter Tryz.func140, Tryz.ntmps140
  go_wp2
  go_loop [8] (fun i => i = .int .i64 0) (fun _ => 0)
  case atStart => rfl
  case round =>
    obtain rfl := hrel
    go_wp2
    go_ret
    exact ⟨rfl, rfl⟩
set_option maxHeartbeats 1000000 in
theorem indexFunc_recs_nil (fv : Value) (w : World) :
    Calls Tryz.prog 141 #[.slice none 0 0, fv] w fun e w' => e = .returned (.int .i64 (-1)) ∧ w = w' := by
  go_enter Tryz.func141, Tryz.ntmps141
  go_wp2
  go_loop [8] (fun i => i = .int .i64 0) (fun _ => 0)
  case atStart => rfl
  case round =>
    obtain rfl := hrel
    go_wp2
    go_ret
    exact ⟨rfl, rfl⟩
set_option maxHeartbeats 1000000 in
theorem indexFunc_rules_some (c b off cap n : Nat) (R : Nat → Rl) (w : World) (hlen : n ≤ 100000) (hl : c < w.heap.size) (hc : w.cell? ⟨c, 0, none⟩ = some (.func (.func 99) #[] #[]))
    (hz : RlsAt w (.slice (some ⟨b, off, none⟩) n cap) n R) :
    Calls Tryz.prog 140 #[.slice (some ⟨b, off, none⟩) n cap, .func (.func 125) #[] #[.pointer (some ⟨c, 0, none⟩)]] w (IdxPost (fun j => (R j).ok) n w) := by
  have HZ := Lib.hid hz; clear hz
  have HC := Lib.hid hc; clear hc
  have HV := Lib.hid closure_rule
  unfold Rl.v at HV
  go_enter Tryz.func140, Tryz.ntmps140
  go_wp2
  go_loopw [8] (fun i wr => ∃ k : Nat, k ≤ n ∧ i = .int .i64 k ∧ (∀ q, q < k → (R q).ok = true) ∧ Below w.heap.size w wr) (fun i _ => n - (intOf i).toNat)
  case atStart => exact ⟨0, Nat.zero_le _, rfl, fun q h => absurd h (Nat.not_lt_zero _), Below.refl _ _⟩
  case round =>
    obtain ⟨k, hk, rfl, hall, hbl⟩ := hrel
    have HA := Lib.hid hall; clear hall
    have hl' := Nat.lt_of_lt_of_le hl hbl.size
    have HC' := Lib.hid ((hbl.cell (p := ⟨c, 0, none⟩) hl).trans HC.out)
    have HB := Lib.hid hbl; clear hbl
    by_cases hlt : k < n
    · have hcx : wr.cell? ⟨b, off + k * 4, none⟩ = some (.int .i64 (R k).f) ∧ wr.cell? ⟨b, off + k * 4 + 1, none⟩ = some (.int .i64 (R k).b) ∧ wr.cell? ⟨b, off + k * 4 + 2, none⟩ = some (.int .i64 (R k).m) ∧ wr.cell? ⟨b, off + k * 4 + 3, none⟩ = some (.int .i64 (R k).e) := by
        rcases HZ.out.below HB.out with ⟨h, _⟩ | ⟨b', off', cap', h, _, hz⟩
        · cases h
        · cases h; exact hz k hlt
      obtain ⟨x0, x1, x2, x3⟩ := hcx
      by_cases hin : (R k).ok = true
      · go_wp2_with (go_at_call 125; refine (HV.out c (R k) _ hl' HC'.out).mono ?_; rintro r w2 ⟨rfl, hb2⟩)
        go_roundw
        case rel => exact ⟨k + 1, by omega, by go_num, (fun q hq => by rcases Nat.lt_succ_iff_lt_or_eq.1 hq with h | rfl; exact HA.out q h; exact hin), HB.out.trans (hb2.mono HB.out.size)⟩
        case measure => simp [intOf]; omega
      · have hin' : (R k).ok = false := by simpa using hin
        clear hin
        go_wp2_with (go_at_call 125; refine (HV.out c (R k) _ hl' HC'.out).mono ?_; rintro r w2 ⟨rfl, hb2⟩)
        go_ret
        exact ⟨_, rfl, by rw [allB_false hlt hin']; simp, HB.out.trans (hb2.mono HB.out.size)⟩
    · obtain rfl : k = n := by omega
      go_wp2
      go_ret
      exact ⟨_, rfl, by rw [allB_true HA.out]; rfl, HB.out⟩
end Go.Proofs.YtgbdbikjckfgmaaGreat
namespace Go.Proofs.YtgbdbikjckfgmaaGreat
open Go.RowKit
set_option maxHeartbeats 1000000 in
theorem indexFunc_recs_some (c b off cap n : Nat) (lo hi : Int) (a : Option Addr) (nr cap' : Nat) (cv : Value) (C : Nat → Rc) (w : World) (hn : nr ≤ 100000) (hlen : n ≤ 100000) (hl : c < w.heap.size) (hc : w.cell? ⟨c, 0, none⟩ = some (.func (.func 96) #[.agg #[.int .i64 lo, .int .i64 hi, .slice a nr cap', cv]] #[]))
    (hz : RcsAt w (.slice (some ⟨b, off, none⟩) n cap) n C) :
    Calls Tryz.prog 141 #[.slice (some ⟨b, off, none⟩) n cap, .func (.func 127) #[] #[.pointer (some ⟨c, 0, none⟩)]] w (IdxPost (fun j => (C j).ok nr) n w) := by
  have HZ := Lib.hid hz; clear hz
  have HC := Lib.hid hc; clear hc
  have HV := Lib.hid closure_rec
  unfold Rc.v at HV
  go_enter Tryz.func141, Tryz.ntmps141
  go_wp2
  go_loopw [8] (fun i wr => ∃ k : Nat, k ≤ n ∧ i = .int .i64 k ∧ (∀ q, q < k → (C q).ok nr = true) ∧ Below w.heap.size w wr) (fun i _ => n - (intOf i).toNat)
  case atStart => exact ⟨0, Nat.zero_le _, rfl, fun q h => absurd h (Nat.not_lt_zero _), Below.refl _ _⟩
  case round =>
    obtain ⟨k, hk, rfl, hall, hbl⟩ := hrel
    have HA := Lib.hid hall; clear hall
    have hl' := Nat.lt_of_lt_of_le hl hbl.size
    have HC' := Lib.hid ((hbl.cell (p := ⟨c, 0, none⟩) hl).trans HC.out)
    have HB := Lib.hid hbl; clear hbl
    by_cases hlt : k < n
    · have hcx : wr.cell? ⟨b, off + k * 3, none⟩ = some (.int .i64 (C k).day) ∧ wr.cell? ⟨b, off + k * 3 + 1, none⟩ = some (.int .i64 (C k).rule) ∧ wr.cell? ⟨b, off + k * 3 + 2, none⟩ = some (.int .i64 (C k).num) := by
        rcases HZ.out.below HB.out with ⟨h, _⟩ | ⟨b', off', cap', h, _, hz⟩
        · cases h
        · cases h; exact hz k hlt
      obtain ⟨x0, x1, x2⟩ := hcx
      by_cases hin : (C k).ok nr = true
      · go_wp2_with (go_at_call 127; refine (HV.out c lo hi a nr cap' cv (C k) _ hn hl' HC'.out).mono ?_; rintro r w2 ⟨rfl, hb2⟩)
        go_roundw
        case rel => exact ⟨k + 1, by omega, by go_num, (fun q hq => by rcases Nat.lt_succ_iff_lt_or_eq.1 hq with h | rfl; exact HA.out q h; exact hin), HB.out.trans (hb2.mono HB.out.size)⟩
        case measure => simp [intOf]; omega
      · have hin' : (C k).ok nr = false := by simpa using hin
        clear hin
        go_wp2_with (go_at_call 127; refine (HV.out c lo hi a nr cap' cv (C k) _ hn hl' HC'.out).mono ?_; rintro r w2 ⟨rfl, hb2⟩)
        go_ret
        exact ⟨_, rfl, by rw [allB_false hlt hin']; simp, HB.out.trans (hb2.mono HB.out.size)⟩
    · obtain rfl : k = n := by omega
      go_wp2
      go_ret
      exact ⟨_, rfl, by rw [allB_true HA.out]; rfl, HB.out⟩
theorem indexFunc_rules (c n : Nat) (sv : Value) (R : Nat → Rl) (w : World) (hlen : n ≤ 100000) (hl : c < w.heap.size) (hc : w.cell? ⟨c, 0, none⟩ = some (.func (.func 99) #[] #[])) (hz : RlsAt w sv n R) :
    Calls Tryz.prog 140 #[sv, .func (.func 125) #[] #[.pointer (some ⟨c, 0, none⟩)]] w (IdxPost (fun j => (R j).ok) n w) := by
  have hz' := hz
  rcases hz with ⟨rfl, rfl⟩ | ⟨b, off, cap, rfl, _, hz⟩
  · refine (indexFunc_rules_nil _ w).mono ?_
    rintro e w' ⟨rfl, rfl⟩
    exact ⟨_, rfl, by simp [allB], Below.refl _ _⟩
  · exact indexFunc_rules_some c b off cap n R w  hlen hl hc hz'
set_option maxHeartbeats 1000000 in
theorem containsFunc_rules (c n : Nat) (sv : Value) (R : Nat → Rl) (w : World) (hlen : n ≤ 100000) (hl : c < w.heap.size) (hc : w.cell? ⟨c, 0, none⟩ = some (.func (.func 99) #[] #[])) (hz : RlsAt w sv n R) :
    Calls Tryz.prog 124 #[sv, .func (.func 125) #[] #[.pointer (some ⟨c, 0, none⟩)]] w fun e w' => e = .returned (.bool (!allB (fun j => (R j).ok) n)) ∧ Below w.heap.size w w' := by
  have HI := Lib.hid (indexFunc_rules c n sv R w  hlen hl hc hz); clear hc hz
  go_enter Tryz.func124, Tryz.ntmps124
  go_wp2_with (go_at_call 140; refine HI.out.mono ?_; rintro e w' ⟨r, rfl, hr, hb⟩; have HR := Lib.hid hr; clear hr)
  go_ret
  exact ⟨ret_bool HR.out, hb⟩
set_option maxHeartbeats 1000000 in
theorem all_rules (n : Nat) (sv : Value) (R : Nat → Rl) (w : World) (hlen : n ≤ 100000) (hz : RlsAt w sv n R) :
    Calls Tryz.prog 98 #[sv, .func (.func 99) #[] #[]] w fun e w' => e = .returned (.bool (allB (fun j => (R j).ok) n)) ∧ Below w.heap.size w w' := by
  have HI := Lib.hid hz; clear hz
  go_enter Tryz.func98, Tryz.ntmps98
  go_wp2_with (go_at_call 124; refine (containsFunc_rules _ n sv R _  hlen (by simp) (box_cell _ _ _) (HI.out.below (below_alloc _ _))).mono ?_; rintro e w' ⟨rfl, hb⟩)
  go_ret
  exact ⟨ret_bool (by simp), (below_alloc _ _).trans (hb.mono (by simp))⟩
theorem indexFunc_recs (c n : Nat) (sv : Value) (lo hi : Int) (a : Option Addr) (nr cap' : Nat) (cv : Value) (C : Nat → Rc) (w : World) (hn : nr ≤ 100000) (hlen : n ≤ 100000) (hl : c < w.heap.size) (hc : w.cell? ⟨c, 0, none⟩ = some (.func (.func 96) #[.agg #[.int .i64 lo, .int .i64 hi, .slice a nr cap', cv]] #[])) (hz : RcsAt w sv n C) :
    Calls Tryz.prog 141 #[sv, .func (.func 127) #[] #[.pointer (some ⟨c, 0, none⟩)]] w (IdxPost (fun j => (C j).ok nr) n w) := by
  have hz' := hz
  rcases hz with ⟨rfl, rfl⟩ | ⟨b, off, cap, rfl, _, hz⟩
  · refine (indexFunc_recs_nil _ w).mono ?_
    rintro e w' ⟨rfl, rfl⟩
    exact ⟨_, rfl, by simp [allB], Below.refl _ _⟩
  · exact indexFunc_recs_some c b off cap n lo hi a nr cap' cv C w hn hlen hl hc hz'
set_option maxHeartbeats 1000000 in
theorem containsFunc_recs (c n : Nat) (sv : Value) (lo hi : Int) (a : Option Addr) (nr cap' : Nat) (cv : Value) (C : Nat → Rc) (w : World) (hn : nr ≤ 100000) (hlen : n ≤ 100000) (hl : c < w.heap.size) (hc : w.cell? ⟨c, 0, none⟩ = some (.func (.func 96) #[.agg #[.int .i64 lo, .int .i64 hi, .slice a nr cap', cv]] #[])) (hz : RcsAt w sv n C) :
    Calls Tryz.prog 126 #[sv, .func (.func 127) #[] #[.pointer (some ⟨c, 0, none⟩)]] w fun e w' => e = .returned (.bool (!allB (fun j => (C j).ok nr) n)) ∧ Below w.heap.size w w' := by
  have HI := Lib.hid (indexFunc_recs c n sv lo hi a nr cap' cv C w hn hlen hl hc hz); clear hc hz
  go_enter Tryz.func126, Tryz.ntmps126
  go_wp2_with (go_at_call 141; refine HI.out.mono ?_; rintro e w' ⟨r, rfl, hr, hb⟩; have HR := Lib.hid hr; clear hr)
  go_ret
  exact ⟨ret_bool HR.out, hb⟩
set_option maxHeartbeats 1000000 in
theorem all_recs (n : Nat) (sv : Value) (lo hi : Int) (a : Option Addr) (nr cap' : Nat) (cv : Value) (C : Nat → Rc) (w : World) (hn : nr ≤ 100000) (hlen : n ≤ 100000) (hz : RcsAt w sv n C) :
    Calls Tryz.prog 100 #[sv, (.func (.func 96) #[.agg #[.int .i64 lo, .int .i64 hi, .slice a nr cap', cv]] #[])] w fun e w' => e = .returned (.bool (allB (fun j => (C j).ok nr) n)) ∧ Below w.heap.size w w' := by
  have HI := Lib.hid hz; clear hz
  go_enter Tryz.func100, Tryz.ntmps100
  go_wp2_with (go_at_call 126; refine (containsFunc_recs _ n sv lo hi a nr cap' cv C _ hn hlen (by simp) (box_cell _ _ _) (HI.out.below (below_alloc _ _))).mono ?_; rintro e w' ⟨rfl, hb⟩)
  go_ret
  exact ⟨ret_bool (by simp), (below_alloc _ _).trans (hb.mono (by simp))⟩
end Go.Proofs.YtgbdbikjckfgmaaGreat
namespace Go.Proofs.YtgbdbikjckfgmaaGreat
open Go.RowKit
structure Pers where
  lo : Int
  hi : Int
  nr : Nat
  R : Nat → Rl
  nc : Nat
  C : Nat → Rc
def Pers.okAll (p : Pers) : Bool := inB p.lo (-50000) 50000 && inB p.hi (-50000) 50000 && decide (p.lo ≤ p.hi) && !(p.nr == 0) && allB (fun j => (p.R j).ok) p.nr && allB (fun j => (p.C j).ok p.nr) p.nc
def errOf (b : Bool) : Int := if b then 0 else 1
def Pers.fault (p : Pers) : Int := if 4 < p.nr ∨ 8 < p.nc then 3 else errOf p.okAll
/-- The person p lies in world w as value v. -/
def PersAt (w : World) (v : Value) (p : Pers) : Prop := ∃ rv cv, v = .agg #[.int .i64 p.lo, .int .i64 p.hi, rv, cv] ∧ RlsAt w rv p.nr p.R ∧ RcsAt w cv p.nc p.C
theorem PersAt.below {w w' : World} {v : Value} {p : Pers} (h : PersAt w v p) (hB : Below w.heap.size w w') : PersAt w' v p := by
  obtain ⟨rv, cv, rfl, h1, h2⟩ := h
  exact ⟨rv, cv, rfl, h1.below hB, h2.below hB⟩
set_option maxHeartbeats 1000000 in
theorem check_limit (lo hi : Int) (a a' : Option Addr) (nr cap nc cap' : Nat) (w : World) (h : 4 < nr ∨ 8 < nc) (hn : nr ≤ 100000) (hc : nc ≤ 100000) :
    Calls Tryz.prog 59 #[.agg #[.int .i64 lo, .int .i64 hi, .slice a nr cap, .slice a' nc cap']] w fun e w' => e = .returned (.int .i64 3) ∧ Below w.heap.size w w' := by
  rcases h with h | h
  · go_enter Tryz.func59, Tryz.ntmps59
    go_wp2
    go_ret
    exact ⟨rfl, below_alloc _ _⟩
  · by_cases h4 : 4 < nr
    · go_enter Tryz.func59, Tryz.ntmps59
      go_wp2
      go_ret
      exact ⟨rfl, below_alloc _ _⟩
    · go_enter Tryz.func59, Tryz.ntmps59
      go_wp2
      go_ret
      exact ⟨rfl, below_alloc _ _⟩
set_option maxRecDepth 100000 in
set_option maxHeartbeats 4000000 in
theorem check_rest (lo hi : Int) (a a' : Option Addr) (nr cap nc cap' : Nat) (R : Nat → Rl) (C : Nat → Rc) (w : World) (hn : nr ≤ 4) (hc : nc ≤ 8)
    (hR : RlsAt w (.slice a nr cap) nr R) (hC : RcsAt w (.slice a' nc cap') nc C) :
    Calls Tryz.prog 59 #[.agg #[.int .i64 lo, .int .i64 hi, .slice a nr cap, .slice a' nc cap']] w fun e w' => e = .returned (.int .i64 (errOf (Pers.okAll ⟨lo, hi, nr, R, nc, C⟩))) ∧ Below w.heap.size w w' := by
  have HR := Lib.hid hR; clear hR
  have HC := Lib.hid hC; clear hC
  have hb0 : nr ≠ 0 → ((nr : Int) == 0) = false := fun h => by simp [h]
  by_cases h0 : nr = 0 <;> cases hA : allB (fun j => (C j).ok nr) nc <;> by_cases hlo : lo ≤ hi
  all_goals first | subst h0 | have hb0 := hb0 h0
  all_goals
    go_enter Tryz.func59, Tryz.ntmps59
    go_wp2_with (first | (go_at_call 97; refine (isDay_any _ _).mono ?_; rintro e w' ⟨rfl, rfl⟩) | (go_at_call 98; refine (all_rules nr _ R _ (by omega) (HR.out.below (below_alloc _ _))).mono ?_; rintro e w1 ⟨rfl, hb1⟩; obtain ⟨hc1, hf1⟩ := bcell hb1; have hs1 : w.heap.size + 1 ≤ w1.heap.size := by have := hb1.size; simp at this; omega) | (go_at_call 100; refine (all_recs nc _ lo hi a nr cap _ C _ (by omega) (by omega) (HC.out.below ((below_alloc _ _).trans (hb1.mono (by simp))))).mono ?_; rintro e w2 ⟨rfl, hb2⟩))
    all_goals go_ret
    all_goals (refine ⟨ret_int (by first | (simp [Pers.okAll, errOf, *]; done) | (simp [Pers.okAll, errOf, *]; intro h; omega)), ?_⟩)
    all_goals first | exact below_alloc _ _ | exact (below_alloc _ _).trans (hb1.mono (by simp)) | exact ((below_alloc _ _).trans (hb1.mono (by simp))).trans (hb2.mono (by omega))
theorem check_any (v : Value) (p : Pers) (w : World) (h : PersAt w v p) (hn : p.nr ≤ 100000) (hc : p.nc ≤ 100000) :
    Calls Tryz.prog 59 #[v] w fun e w' => e = .returned (.int .i64 p.fault) ∧ Below w.heap.size w w' := by
  obtain ⟨rv, cv, rfl, h1, h2⟩ := h
  obtain ⟨a, cap, rfl⟩ := h1.slice
  obtain ⟨a', cap', rfl⟩ := h2.slice
  by_cases h : 4 < p.nr ∨ 8 < p.nc
  · unfold Pers.fault; rw [if_pos h]
    exact check_limit _ _ _ _ _ _ _ _ _ h hn hc
  · unfold Pers.fault; rw [if_neg h]
    exact check_rest _ _ _ _ _ _ _ _ _ _ _ (by omega) (by omega) h1 h2
end Go.Proofs.YtgbdbikjckfgmaaGreat
namespace Go.Proofs.YtgbdbikjckfgmaaGreat
open Go.RowKit Go.Shelf
/-- The block of the slice that lies in box Bl. -/
def ownB (W : World) (Bl : Nat) : Option Nat := match W.cell? ⟨Bl, 0, none⟩ with | some v => v.ownBlock | none => none
/-- What a round keeps: all cells but the box Bl and the row of the slice in it. -/
structure Kp (Bl : Nat) (W W' : World) : Prop where
  os : W'.os = W.os
  tape : W'.tape = W.tape
  output : W'.output = W.output
  size : W.heap.size ≤ W'.heap.size
  keep : ∀ k c t fr, W.heap[k]? = some (.cells c t fr) → k ≠ Bl → ownB W Bl ≠ some k → W'.heap[k]? = some (.cells c t fr)
  own : ownB W' Bl = ownB W Bl ∨ ∀ k, ownB W' Bl = some k → W.heap.size ≤ k
theorem Kp.refl (Bl : Nat) (W : World) : Kp Bl W W := ⟨rfl, rfl, rfl, Nat.le_refl _, fun _ _ _ _ h _ _ => h, .inl rfl⟩
theorem Kp.trans {Bl : Nat} {A B C : World} (h : Kp Bl A B) (k : Kp Bl B C) : Kp Bl A C := by
  refine ⟨k.os.trans h.os, k.tape.trans h.tape, k.output.trans h.output, Nat.le_trans h.size k.size, fun q c t fr hq h1 h2 => ?_, ?_⟩
  · refine k.keep q c t fr (h.keep q c t fr hq h1 h2) h1 ?_
    have hl := (Array.getElem?_eq_some_iff.1 hq).1
    rcases h.own with e | e
    · rw [e]; exact h2
    · intro e2; have := e q e2; omega
  · rcases k.own with e | e
    · rw [e]; exact h.own
    · exact .inr fun q hq => Nat.le_trans h.size (e q hq)
theorem ownB_same {Bl : Nat} {W W' : World} (h : W'.heap[Bl]? = W.heap[Bl]?) : ownB W' Bl = ownB W Bl := by
  unfold ownB; rw [World.cell?_of_block (a := ⟨Bl, 0, none⟩) h]
theorem Kp.below {Bl : Nat} {W W' : World} (hB : Bl < W.heap.size) (h : Below W.heap.size W W') : Kp Bl W W' :=
  ⟨h.os, h.tape, h.output, h.size, fun k _ _ _ hk _ _ => (h.block k (Array.getElem?_eq_some_iff.1 hk).1).trans hk, .inl (ownB_same (h.block _ hB))⟩
theorem Kp.alloc {Bl : Nat} {W : World} (hB : Bl < W.heap.size) (o : Obj) : Kp Bl W (W.alloc o) := Kp.below hB (below_alloc _ _)
theorem Kp.b {Bl : Nat} {w : World} (hB : Bl < w.heap.size) : ∀ (W : World) (l : Nat) (o o' : Obj), w.heap.size ≤ l → W.heap[l]? = some o → o.isCells = false → o.isWalk = false → Kp Bl W (W.putObj l o') := by
  intro W l o o' hl ho hc _
  refine ⟨rfl, rfl, rfl, by simp, fun k c t fr hk _ _ => ?_, .inl (ownB_same (World.putObj_heap_other (by omega)))⟩
  rw [World.putObj_heap_other (fun e => by subst e; rw [ho] at hk; cases hk; cases hc)]
  exact hk
/-- Block k is none of the round's. -/
def Mine (Bl : Nat) (W : World) (k : Nat) (c : Array Value) (t : TypeId) : Prop := W.heap[k]? = some (.cells c t (0, 0)) ∧ k ≠ Bl ∧ ownB W Bl ≠ some k
theorem Mine.kp {Bl : Nat} {W W' : World} {k : Nat} {c : Array Value} {t : TypeId} (h : Mine Bl W k c t) (hk : Kp Bl W W') : Mine Bl W' k c t := by
  refine ⟨hk.keep _ _ _ _ h.1 h.2.1 h.2.2, h.2.1, ?_⟩
  have hl := (Array.getElem?_eq_some_iff.1 h.1).1
  rcases hk.own with e | e
  · rw [e]; exact h.2.2
  · intro e2; have := e k e2; omega
theorem Mine.new {Bl : Nat} {W : World} (hB : Bl < W.heap.size) (ho : ∀ k, ownB W Bl = some k → k < W.heap.size) (c : Array Value) (t : TypeId) : Mine Bl (W.alloc (.cells c t)) W.heap.size c t := by
  refine ⟨heap_alloc_new _ _, by omega, ?_⟩
  rw [ownB_same ((below_alloc W _).block _ hB)]
  intro e; have := ho _ e; omega
theorem Mine.cell {Bl : Nat} {W : World} {k : Nat} {c : Array Value} {t : TypeId} (h : Mine Bl W k c t) (j : Nat) : W.cell? ⟨k, j, none⟩ = c[j]? := cell_of_row _ _ _ _ _ _ h.1
/-- A range whose ends are no great numbers. -/
abbrev BR := { r : Int × Int // -1000000 ≤ r.1 ∧ r.1 ≤ 1000000 ∧ -1000000 ≤ r.2 ∧ r.2 ≤ 1000000 }
def encB (x : Nat × BR) : Array Value := #[.int .i64 (x.1 : Int), .agg #[.int .i64 x.2.1.1, .int .i64 x.2.1.2]]
set_option maxHeartbeats 1000000 in
theorem backward_any (a : Option Addr) (n cap : Nat) (w : World) :
    Calls Tryz.prog 167 #[.slice a n cap] w fun e w' => e = .returned (.func (.func 169) #[] #[.pointer (some ⟨w.heap.size, 0, none⟩)]) ∧ w' = w.alloc (.cells #[.slice a n cap] 210) := by
  go_enter Tryz.func167, Tryz.ntmps167
  go_wp2
  go_ret
  exact ⟨rfl, rfl⟩
/-- What has come of the n elements when k rounds are over, the last ones first. -/
def down (n : Nat) (r : Nat → BR) (k : Nat) : List (Nat × BR) := (List.range k).map fun j => (n - 1 - j, r (n - 1 - j))
theorem down_succ (n : Nat) (r : Nat → BR) (k : Nat) : down n r (k + 1) = down n r k ++ [(n - 1 - k, r (n - 1 - k))] := by simp [down, List.range_succ]
theorem down_length (n : Nat) (r : Nat → BR) (k : Nat) : (down n r k).length = k := by simp [down]
attribute [local go_sem] Oper.semAt_some
set_option maxRecDepth 100000 in
set_option maxHeartbeats 2000000 in
theorem backward1_in (n l Bs Bl g len cap : Nat) (cur : Array Value) (r : Nat → BR) (hlen : len ≤ 100000) (J Jx : List (Nat × BR) → World → Prop)
    (hY : ∀ pre x W, J pre W → pre.length < len → YieldAt Fence.wide (n - 1) Tryz.prog l (encB x) W fun e W' =>
      (e = .returned (.bool true) ∧ J (pre ++ [x]) W' ∧ Kp Bl W W') ∨ (e = .returned (.bool false) ∧ Jx (pre ++ [x]) W'))
    (W : World) (hBs : Mine Bl W Bs #[.slice (some ⟨g, 0, none⟩) len cap] 210) (hg : Mine Bl W g cur 94)
    (hc : ∀ j, j < len → cur[j * 2]? = some (.int .i64 (r j).1.1) ∧ cur[j * 2 + 1]? = some (.int .i64 (r j).1.2)) (h0 : J [] W) :
    CallsIn Fence.wide n Tryz.prog 169 #[.func (.yield l) #[] #[], .pointer (some ⟨Bs, 0, none⟩)] W fun e W' => (∃ v, e = .returned v) ∧
      ((∃ ys, ys = down len r len ∧ J ys W') ∨ (∃ pre, (∃ k, k ≤ len ∧ pre = down len r k) ∧ Jx pre W')) := by
  refine callsIn_of_wp Tryz.func169 rfl trivial ?_ rfl
  simp only [Tryz.ntmps169, List.size_toArray, List.length_cons, List.length_nil, Nat.reduceAdd, Nat.reduceSub, Array.replicate_succ, Array.replicate_zero, List.push_toArray, List.append_toArray, List.nil_append, List.cons_append]
  have hb0 : W.cell? ⟨Bs, 0, none⟩ = some (.slice (some ⟨g, 0, none⟩) len cap) := hBs.cell 0
  have HBs := Lib.hid hBs; clear hBs
  have HG := Lib.hid hg; clear hg
  have HC := Lib.hid hc; clear hc
  have HY := Lib.hid hY; clear hY
  gi_wp2
  gi_loopw [3] (fun i wr => ∃ k : Nat, ((k = len ∧ i = .int .i64 (-1)) ∨ ∃ q : Nat, q + k + 1 = len ∧ i = .int .i64 (q : Int)) ∧ J (down len r k) wr ∧ Kp Bl W wr) (fun i _ => (intOf i + 1).toNat)
  case atStart =>
    refine ⟨0, ?_, h0, Kp.refl _ _⟩
    rcases Nat.eq_zero_or_pos len with h | h
    · exact .inl ⟨h.symm, by rw [h]; rfl⟩
    · exact .inr ⟨len - 1, by omega, by congr 1; omega⟩
  case round =>
    obtain ⟨k, hd, hJs, hnx⟩ := hrel
    have hb1 : wr.cell? ⟨Bs, 0, none⟩ = some (.slice (some ⟨g, 0, none⟩) len cap) := (HBs.out.kp hnx).cell 0
    rcases hd with ⟨rfl, rfl⟩ | ⟨q, hq, rfl⟩
    · gi_wp2
      go_end0
      exact ⟨⟨_, rfl⟩, .inl ⟨_, rfl, hJs⟩⟩
    · have hql : q < len := by omega
      have hqe : len - 1 - k = q := by omega
      have hq0 : wr.cell? ⟨g, q * 2, none⟩ = some (.int .i64 (r q).1.1) := ((HG.out.kp hnx).cell _).trans (HC.out q hql).1
      have hq1 : wr.cell? ⟨g, q * 2 + 1, none⟩ = some (.int .i64 (r q).1.2) := ((HG.out.kp hnx).cell _).trans (HC.out q hql).2
      obtain ⟨fn, tmps, assign, body, hy, hR⟩ := HY.out _ (q, r q) wr hJs (by rw [down_length]; omega)
      dsimp only [encB] at hy
      have HR := Lib.hid hR; clear hR
      have HE := Lib.hid hqe; clear hqe
      have HQ := Lib.hid hq; clear hq
      have HN := Lib.hid hnx; clear hnx
      gi_wp2
      refine ⟨(fun h => by cases h), ?_⟩
      refine HR.out.mono ?_
      rintro e W3 (⟨rfl, hJ3, hk3⟩ | ⟨rfl, hJx3⟩)
      · have hk3' := Lib.hid hk3; clear hk3
        gi_wp2
        go_roundw
        case rel =>
          refine ⟨k + 1, ?_, by rw [down_succ, HE.out]; exact hJ3, HN.out.trans hk3'.out⟩
          have := HQ.out
          rcases Nat.eq_zero_or_pos q with h | h
          · exact .inl ⟨by omega, by subst h; rfl⟩
          · exact .inr ⟨q - 1, by omega, by congr 1; omega⟩
        case measure => simp [intOf]
      · gi_wp2
        refine bodyPost_ret (results_none rfl _ _ _) rfl ?_
        exact ⟨⟨_, rfl⟩, .inr ⟨_, ⟨k + 1, by have := HQ.out; omega, by rw [down_succ, HE.out]⟩, hJx3⟩⟩
set_option maxRecDepth 100000 in
set_option maxHeartbeats 1000000 in
theorem backward1_nil_in (n l Bs Bl : Nat) (J : List (Nat × BR) → World → Prop) (W : World) (hBs : Mine Bl W Bs #[.slice none 0 0] 210) (h0 : J [] W) :
    CallsIn Fence.wide n Tryz.prog 169 #[.func (.yield l) #[] #[], .pointer (some ⟨Bs, 0, none⟩)] W fun e W' => (∃ v, e = .returned v) ∧ J [] W' := by
  refine callsIn_of_wp Tryz.func169 rfl trivial ?_ rfl
  simp only [Tryz.ntmps169, List.size_toArray, List.length_cons, List.length_nil, Nat.reduceAdd, Nat.reduceSub, Array.replicate_succ, Array.replicate_zero, List.push_toArray, List.append_toArray, List.nil_append, List.cons_append]
  have hb0 : W.cell? ⟨Bs, 0, none⟩ = some (.slice none 0 0) := hBs.cell 0
  clear hBs
  gi_wp2
  gi_loopw [3] (fun i wr => i = .int .i64 (-1) ∧ J [] wr) (fun _ _ => 0)
  case atStart => exact ⟨rfl, h0⟩
  case round =>
    obtain ⟨rfl, hJs⟩ := hrel
    gi_wp2
    go_end0
    exact ⟨⟨_, rfl⟩, hJs⟩
theorem Mine.below {Bl : Nat} {w W : World} {k : Nat} {c : Array Value} {t : TypeId} (hB : Bl < w.heap.size) (h : Mine Bl w k c t) (hb : Below w.heap.size w W) : Mine Bl W k c t := h.kp (Kp.below hB hb)
/-- The slice in box Bs holds the ranges r 0 .. r (n - 1), and is none of the rounds'. -/
def BackAt (Bl : Nat) (w : World) (Bs n : Nat) (r : Nat → BR) : Prop :=
  (Mine Bl w Bs #[.slice none 0 0] 210 ∧ n = 0) ∨ ∃ g cap cur, Mine Bl w Bs #[.slice (some ⟨g, 0, none⟩) n cap] 210 ∧ Mine Bl w g cur 94 ∧ ∀ j, j < n → cur[j * 2]? = some (.int .i64 (r j).1.1) ∧ cur[j * 2 + 1]? = some (.int .i64 (r j).1.2)
theorem backward_stops (m Bl Bs n : Nat) (r : Nat → BR) (hn : n ≤ 100000) (w : World) (hB : Bl < w.heap.size) (h : BackAt Bl w Bs n r) :
    SeqStopsK Fence.wide m Tryz.prog 169 #[.pointer (some ⟨Bs, 0, none⟩)] encB (Kp Bl) (fun ys => ys = down n r n) (fun pre => ∃ k, k ≤ n ∧ pre = down n r k) n w := fun l J Jx W hW _ _ hY h0 => by
  rcases h with ⟨h1, rfl⟩ | ⟨g, cap, cur, h1, h2, h3⟩
  · exact (backward1_nil_in m l Bs Bl J W (h1.below hB hW) h0).mono fun e W' ⟨he, hj⟩ => ⟨he, .inl ⟨_, rfl, hj⟩⟩
  · exact backward1_in m l Bs Bl g n cap cur r hn J Jx hY W (h1.below hB hW) (h2.below hB hW) h3 h0
end Go.Proofs.YtgbdbikjckfgmaaGreat
namespace Go.Proofs.YtgbdbikjckfgmaaGreat
open Go.RowKit Go.Shelf
/-- The two blocks of a loop: the rounds' deferred calls at D, the record behind it. -/
structure Book (D : Nat) (r : Loop) (W : World) : Prop where
  lp : W.heap[D + 1]? = some (.loop r)
  df : W.heap[D]? = some (.deferred (some []))
theorem Book.grown {D : Nat} {r : Loop} {W W' : World} {row : Option Nat} (h : Book D r W) (hg : W.grownBy W' row) (hr : ∀ q, row = some q → D + 1 < q) : Book D r W' := by
  have hl := (Array.getElem?_eq_some_iff.1 h.lp).1
  exact ⟨(hg.block _ hl (fun e => by have := hr _ e.symm; omega)).trans h.lp, (hg.block _ (by omega) (fun e => by have := hr _ e.symm; omega)).trans h.df⟩
theorem Book.keeps {D : Nat} {r : Loop} {W W' : World} (h : Book D r W) (hk : KeepsFrom D W W') : Book D r W' :=
  ⟨hk.same _ _ (by omega) h.lp rfl, hk.same _ _ (Nat.le_refl _) h.df rfl⟩
theorem Book.put {D : Nat} {r : Loop} {W : World} (h : Book D r W) (r' : Loop) : Book D r' (W.putObj (D + 1) (.loop r')) :=
  ⟨World.putObj_heap_same (Array.getElem?_eq_some_iff.1 h.lp).1, (World.putObj_heap_other (by omega)).trans h.df⟩
/-- The iterator gives all that S says, whatever the rounds do, if each goes on. -/
def SeqAll {α : Type} (P : Program) (g : Nat) (lb : Array Value) (encs : α → Array Value) (K : World → World → Prop) (S : List α → Prop) (N : Nat) (w : World) : Prop :=
  ∀ (n l : Nat) (J : List α → World → Prop) (W : World), Below w.heap.size w W → OwnFrom W.heap.size J →
    (∀ pre x W1, J pre W1 → pre.length < N → YieldAt Fence.wide n P l (encs x) W1 fun e W' => e = .returned (.bool true) ∧ J (pre ++ [x]) W' ∧ K W1 W' ∧ KeepsOthers W1 W') → J [] W →
    CallsIn Fence.wide n P g (#[.func (.yield l) #[] #[]] ++ lb) W fun e W' => (∃ v, e = .returned v) ∧ ∃ xs, S xs ∧ J xs W'
theorem wide_range {α : Type} {P : Program} {n : Nat} {g : Operand} {ps : Array Tmp} {assign body : Code} {Q : Exit → Act → World → Prop} {a : Act} {w : World} {gf : Nat} {lb : Array Value}
    (hg : a.eval g = .func (.func gf) #[] lb) (eg : ∀ args w, (callFunc gf args).run P w = .ok (.enter gf args) w)
    {encs : α → Array Value} {K : World → World → Prop} {S : List α → Prop} {N : Nat} (hseq : SeqAll P gf lb encs K S N w) (hps : ∀ x, (encs x).size = ps.size)
    (hKt : ∀ {A B C : World}, K A B → K B C → K A C) (hKb : ∀ (W : World) (l : Nat) (o o' : Obj), w.heap.size ≤ l → W.heap[l]? = some o → o.isCells = false → o.isWalk = false → K W (W.putObj l o'))
    (I : List α → World → Prop) (hI : OwnFrom w.heap.size I) (h0 : I [] w)
    (A : List α → α → Act → World → Prop) (hA : ∀ pre x a', OwnFrom w.heap.size (fun (_ : Unit) W => A pre x a' W))
    (hassign : ∀ l pre x W, I pre W → pre.length < N → assign.wpIn (Fence.wide.inRound l) (n - 1) P (Exit.then (fun a' W' => K W W' ∧ KeepsOthers W W' ∧ A pre x a' W') (fun _ _ _ => False))
      { tmps := (ps.zip (encs x)).foldl (fun t (p, v) => t.setIfInBounds p v) a.tmps, defers := [] } W)
    (hbody : ∀ l pre x a' W, w.heap.size ≤ l → (∃ r, W.heap[l]? = some (.loop r)) → A pre x a' W → pre.length < N →
      body.wpIn (Fence.wide.inRound l) (n - 1) P (fun e _ W' => e = .normal ∧ KeepsOthers W W' ∧ K W W' ∧ I (pre ++ [x]) W') a' W)
    (hdone : ∀ D xs W, w.heap.size ≤ D → S xs → I xs W → W.heap[D]? = some (.deferred (some [])) → Q .normal { a with defers := { target := .collected D, args := #[] } :: a.defers } W) :
    (Code.rangeFunc g ps assign body).wpIn Fence.wide n P Q a w := by
  refine wpIn_rangeFunc fun fn hfn => ?_
  let rc : Loop := { state := .ready, pending := none, fn, tmps := a.tmps, params := ps, assign, body, defers := w.heap.size }
  have b0 : Book w.heap.size rc ((w.alloc (.deferred (some []))).alloc (.loop rc)) := by
    constructor
    · have := World.alloc_heap_new (w.alloc (.deferred (some []))) (.loop rc); rwa [World.size_alloc] at this
    · exact (Below.heap_alloc _ _ _ (by simp)).trans (World.alloc_heap_new w _)
  have hb : Below w.heap.size w ((w.alloc (.deferred (some []))).alloc (.loop rc)) := ((Below.refl _ w).alloc (Nat.le_refl _) _).alloc (by simp) _
  have hs : w.heap.size + 1 < ((w.alloc (.deferred (some []))).alloc (.loop rc)).heap.size := by simp
  refine ⟨w.heap.size + 1, [{ target := .collected w.heap.size, args := #[] }], (w.alloc (.deferred (some []))).alloc (.loop rc), { target := .fn (.func gf) lb, args := #[.func (.yield (w.heap.size + 1)) #[] #[]] }, (w.alloc (.deferred (some []))).alloc (.loop rc), gf,
    #[.func (.yield (w.heap.size + 1)) #[] #[]] ++ lb, (w.alloc (.deferred (some []))).alloc (.loop rc), run_enterLoop_outer fn a.tmps ps assign body, ?_, fun _ _ => trivial, ?_, fun h => (by cases h), ?_⟩
  · simp only [resolve, hg]
    simp [go_sem]
  · simp [invoke, go_sem, eg]
  refine (hseq (n - 1) (w.heap.size + 1) (fun pre W => I pre W ∧ Book w.heap.size rc W) _ hb ?_ ?_ ⟨hI.alloc _ (hI.alloc _ h0), b0⟩).mono ?_
  · intro s X Y row h1 h2 h3
    exact ⟨hI s X Y row h1.1 h2 (fun r e => ⟨by have := (h3 r e).1; simp at this; omega, (h3 r e).2⟩), h1.2.grown h2 (fun r e => by have := (h3 r e).1; simp at this; omega)⟩
  · rintro pre x W ⟨hi, hbk⟩ hlen
    refine ⟨fn, _, assign, body, run_yield hbk.lp (hps x), roundIn_of_wpIn hfn ?_⟩
    refine wpIn_mono (hassign _ pre x W hi hlen) ?_
    intro e a' W1 hq
    cases e with
    | normal =>
      obtain ⟨k1, f1, hax⟩ := hq
      have bk1 := hbk.keeps (f1.from _)
      refine ⟨_, run_beginRound bk1.lp rfl, ?_⟩
      have k2 := hKb _ _ _ (.loop { rc with state := .busy }) (by omega) bk1.lp rfl rfl
      have bk2 := bk1.put { rc with state := .busy }
      refine wpIn_mono (hbody _ pre x a' _ (by omega) ⟨_, bk2.lp⟩ ((hA pre x a').putObj (s := ()) _ hax (by omega) bk1.lp rfl) hlen) ?_
      rintro e a3 W3 ⟨rfl, f3, k3, hi3⟩
      have bk3 := bk2.keeps (f3.from _)
      have k4 := hKb _ _ _ (.loop rc) (by omega) bk3.lp rfl rfl
      refine ⟨_, _, run_endRound none bk3.lp, rfl, ⟨hI.putObj _ hi3 (by omega) bk3.lp rfl, bk3.put _⟩, hKt (hKt (hKt k1 k2) k3) k4, Nat.le_trans f1.size (by have := f3.size; simp at this ⊢; exact this), fun k o hk ho => ?_⟩
      by_cases e : k = w.heap.size + 1
      · subst e; rw [hbk.lp] at hk; cases hk; exact (bk3.put _).lp
      · rw [World.putObj_heap_other e]
        exact f3.same _ _ ((World.putObj_heap_other e).trans (f1.same _ _ hk ho)) ho
    | _ => exact hq.elim
  · rintro e W ⟨⟨v, rfl⟩, xs, hS, hi, hbk⟩
    refine ⟨none, _, run_endLoop hbk.lp (by simp [rc]), ?_⟩
    exact hdone _ xs _ (Nat.le_refl _) hS (hI.putObj _ hi (by omega) hbk.lp rfl) ((hbk.put _).df)
end Go.Proofs.YtgbdbikjckfgmaaGreat
namespace Go.Proofs.YtgbdbikjckfgmaaGreat
open Go.RowKit Go.Shelf
set_option maxHeartbeats 1000000 in
theorem years_any (lo hi day rule num : Int) (rv cv : Value) (w : World) :
    Calls Tryz.prog 161 #[.agg #[.int .i64 lo, .int .i64 hi, rv, cv], .agg #[.int .i64 day, .int .i64 rule, .int .i64 num]] w fun e w' => e = .returned (.func (.func 164) #[] #[.pointer (some ⟨w.heap.size, 0, none⟩), .pointer (some ⟨w.heap.size + 1, 0, none⟩)]) ∧ w' = (w.alloc (.cells #[.int .i64 lo, .int .i64 hi, rv, cv] 98)).alloc (.cells #[.int .i64 day, .int .i64 rule, .int .i64 num] 159) := by
  go_enter Tryz.func161, Tryz.ntmps161
  go_wp2
  go_ret
  exact ⟨rfl, rfl⟩
def encY (x : BR) : Array Value := #[.agg #[.int .i64 x.1.1, .int .i64 x.1.2]]
theorem YieldAt.wide {n m : Nat} {P : Program} {l : Nat} {args : Array Value} {W : World} {R : Ending → World → Prop} (h : YieldAt Fence.wide n P l args W R) : YieldAt Fence.wide m P l args W R := by
  obtain ⟨fn, tmps, assign, body, hy, hR⟩ := h
  exact ⟨fn, tmps, assign, body, hy, hR.1, fun c cs _ => hR.2 c cs (room_wide _)⟩
theorem OwnFrom.abides {β : Type} {B : Nat} {J : β → World → Prop} (h : OwnFrom B J) : AbidesFrom B J := fun s W W' row hs hg hr =>
  h s W W' row hs hg (fun r e => by obtain ⟨h1, o, ho, hw⟩ := hr r e; exact ⟨h1, o, ho, Obj.not_cells_of_walk hw⟩)
theorem OwnFrom.mono {β : Type} {B B' : Nat} {J : β → World → Prop} (h : OwnFrom B J) (hB : B ≤ B') : OwnFrom B' J := fun s W W' row hs hg hr =>
  h s W W' row hs hg (fun r e => ⟨Nat.le_trans hB (hr r e).1, (hr r e).2⟩)
theorem backward_all (Bl Bs n : Nat) (r : Nat → BR) (hn : n ≤ 100000) (w : World) (hB : Bl < w.heap.size) (h : BackAt Bl w Bs n r) :
    SeqAll Tryz.prog 169 #[.pointer (some ⟨Bs, 0, none⟩)] encB (Kp Bl) (fun ys => ys = down n r n) n w := fun m l J W hW hJ hY h0 => by
  refine (backward_stops m Bl Bs n r hn w hB h l J (fun _ _ => False) W hW (OwnFrom.abides hJ) (fun _ _ _ _ h _ _ => h) (fun pre x W1 hj hl => (YieldAt.wide (hY pre x W1 hj hl)).mono fun e W' h => .inl ⟨h.1, h.2.1, h.2.2.1⟩) h0).mono ?_
  rintro e W' ⟨hv, ⟨ys, hs, hj⟩ | ⟨_, _, h⟩⟩
  · exact ⟨hv, ys, hs, hj⟩
  · exact h.elim
theorem Mine.grown {Bl B : Nat} {W W' : World} {k : Nat} {c : Array Value} {t : TypeId} {row : Option Nat} (h : Mine Bl W k c t) (hB : Bl < B) (hBW : Bl < W.heap.size) (hg : W.grownBy W' row) (hr : ∀ r, row = some r → B ≤ r ∧ ∃ o : Obj, W.heap[r]? = some o ∧ o.isCells = false) : Mine Bl W' k c t := by
  have hl := (Array.getElem?_eq_some_iff.1 h.1).1
  refine ⟨(hg.block _ hl (fun e => ?_)).trans h.1, h.2.1, ?_⟩
  · obtain ⟨_, o, ho, hc⟩ := hr k e.symm
    rw [h.1] at ho; cases ho; cases hc
  · rw [ownB_same (hg.block _ hBW (fun e => by have := (hr _ e.symm).1; omega))]; exact h.2.2
theorem RS.slice {w : World} {base : Nat} {v : Value} {l : List (Int × Int)} (h : RS w base v l) : ∃ a cap, v = .slice a l.length cap := by
  rcases h.2 with ⟨rfl, h0⟩ | ⟨g, cap, cur, rfl, _⟩
  · exact ⟨none, 0, by rw [h0]⟩
  · exact ⟨_, _, rfl⟩
/-- The k-th of some ranges, as a range whose ends are no great numbers. -/
def brAt (l : List (Int × Int)) (k : Nat) : BR :=
  if h : -1000000 ≤ (l.getD k (0, 0)).1 ∧ (l.getD k (0, 0)).1 ≤ 1000000 ∧ -1000000 ≤ (l.getD k (0, 0)).2 ∧ (l.getD k (0, 0)).2 ≤ 1000000 then ⟨l.getD k (0, 0), h⟩ else ⟨(0, 0), by decide⟩
theorem below_grown {W W' : World} (h : Below W.heap.size W W') : W.grownBy W' none := ⟨h.os, h.tape, h.output, h.size, fun k hk _ => h.block k hk⟩
theorem ext_bd1 (l : List (Int × Int)) (lo hi B : Int) (h : ∀ r ∈ l, 0 ≤ r.1 ∧ r.1 ≤ B) (h0 : 0 ≤ lo) (h1 : lo ≤ B) : ∀ r ∈ ext l lo hi, 0 ≤ r.1 ∧ r.1 ≤ B := by
  intro r hr
  rcases List.eq_nil_or_concat l with rfl | ⟨l0, ⟨a, b⟩, rfl⟩
  · simp [ext] at hr; subst hr; exact ⟨h0, h1⟩
  · rw [List.concat_eq_append] at *
    have hb := h (a, b) (by simp)
    simp only at hb
    have he : ext (l0 ++ [(a, b)]) lo hi = if lo ≤ b + 1 then l0 ++ [(a, max b hi)] else (l0 ++ [(a, b)]) ++ [(lo, hi)] := by simp [ext]
    rw [he] at hr
    split at hr
    · rcases List.mem_append.1 hr with h2 | h2
      · exact h r (by simp [h2])
      · simp at h2; subst h2; exact hb
    · rcases List.mem_append.1 hr with h2 | h2
      · exact h r h2
      · simp at h2; subst h2; exact ⟨h0, h1⟩
theorem rngs_bd1 (fl : Nat → Bool) (k : Nat) : ∀ r ∈ rngs fl k, 0 ≤ r.1 ∧ r.1 ≤ (k : Int) := by
  induction k with
  | zero => simp [rngs]
  | succ k ih =>
    have ih' : ∀ r ∈ rngs fl k, 0 ≤ r.1 ∧ r.1 ≤ ((k + 1 : Nat) : Int) := fun r hr => ⟨(ih r hr).1, by have := (ih r hr).2; omega⟩
    rw [rngs]; split
    · exact ext_bd1 _ _ _ _ ih' (by omega) (by omega)
    · exact ih'
theorem brAt_val {l : List (Int × Int)} (h : ∀ r ∈ l, -1000000 ≤ r.1 ∧ r.1 ≤ 1000000 ∧ -1000000 ≤ r.2 ∧ r.2 ≤ 1000000) (k : Nat) (hk : k < l.length) : (brAt l k).1 = l[k] := by
  have e : l.getD k (0, 0) = l[k] := by simp [hk]
  unfold brAt
  rw [dif_pos (by rw [e]; exact h _ (List.getElem_mem hk))]
  exact e
theorem flat_get (l : List (Int × Int)) (k : Nat) (hk : k < l.length) : (flat l)[k * 2]? = some (.int .i64 l[k].1) ∧ (flat l)[k * 2 + 1]? = some (.int .i64 l[k].2) := by
  induction l generalizing k with
  | nil => simp at hk
  | cons x l ih =>
    cases k with
    | zero => exact ⟨rfl, rfl⟩
    | succ k =>
      have := ih k (by simpa using hk)
      refine ⟨?_, ?_⟩
      · have h2 : (flat (x :: l))[(k + 1) * 2]? = (flat l)[k * 2]? := by rw [show (k + 1) * 2 = k * 2 + 1 + 1 from by omega]; rfl
        rw [h2, this.1]; rfl
      · have h2 : (flat (x :: l))[(k + 1) * 2 + 1]? = (flat l)[k * 2 + 1]? := by rw [show (k + 1) * 2 + 1 = k * 2 + 1 + 1 + 1 from by omega]; rfl
        rw [h2, this.2]; rfl
theorem back_of_rs {Bl base : Nat} {w : World} {v : Value} {l : List (Int × Int)} (h : RS w base v l) (hB : Bl < base) (ho : ∀ k, ownB w Bl = some k → k < base) (hbase : base ≤ w.heap.size)
    (hbd : ∀ r ∈ l, -1000000 ≤ r.1 ∧ r.1 ≤ 1000000 ∧ -1000000 ≤ r.2 ∧ r.2 ≤ 1000000) : BackAt Bl (w.alloc (.cells #[v] 210)) w.heap.size l.length (brAt l) := by
  have hnew : Mine Bl (w.alloc (.cells #[v] 210)) w.heap.size #[v] 210 := Mine.new (by omega) (fun k hk => by have := ho k hk; omega) _ _
  rcases h.2 with ⟨rfl, h0⟩ | ⟨g, cap, cur, rfl, hg, hgc, _, _, hcs, hcur⟩
  · exact .inl ⟨hnew, h0⟩
  · refine .inr ⟨g, cap, cur, hnew, ⟨?_, by omega, ?_⟩, fun j hj => ?_⟩
    · rw [(below_alloc w _).block _ (Array.getElem?_eq_some_iff.1 hgc).1]; exact hgc
    · rw [ownB_same ((below_alloc w _).block _ (by omega))]; intro e; have := ho _ e; omega
    · have hf := flat_get l j hj
      rw [← hcur, List.getElem?_take, List.getElem?_take, if_pos (by omega), if_pos (by omega)] at hf
      rw [brAt_val hbd j hj]
      simpa using hf
/-- The true ages of a number as ranges; the same, the greatest ones first. -/
def ageRs (f b m e num : Int) : List (Int × Int) := rngs (agesF f b m e num 126) 121
def yearsL (l : List (Int × Int)) : List BR := (down l.length (brAt l) l.length).map (·.2)
theorem ranges_rs (f b m e num : Int) (w : World) : Calls Tryz.prog 166 #[.agg (flagsA (agesF f b m e num 126))] w (Gives w w.heap.size (ageRs f b m e num)) := ranges_any _ _
end Go.Proofs.YtgbdbikjckfgmaaGreat
