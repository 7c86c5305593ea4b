/- Contracts: True, Write, Age; all over ints. -/
import Derived.Test.YtagfcfojfjkmbaaA5
namespace Go.Proofs.Ytagfcfojfjkmbaa
open Go.RowKit

def GivesE (w : World) (base : Nat) (l : List (Int × Int)) (err : Int) (e : Ending) (w' : World) : Prop := ∃ v, e = .returned (.tuple #[v, .int .i64 err]) ∧ RS w' base v l ∧ Below base w w'
theorem RS.nil (w : World) (base : Nat) : RS w base (.slice none 0 0) [] := World.ownsRow_nil _ _ _ _

theorem okRule_bd {f b m e : Int} (h : okRule f b m e = true) : 0 ≤ f ∧ f ≤ 120 ∧ 1 ≤ b ∧ b ≤ 12 ∧ 0 ≤ m ∧ m ≤ 1 ∧ 0 ≤ e ∧ e ≤ 5 := by
  simp [okRule, inB] at h; omega

set_option maxHeartbeats 1000000 in
theorem true_bad (f b m e n : Int) (w : World) (h : okRule f b m e = false) :
    Calls Try.prog 49 #[ruleV f b m e, .int .i64 n] w (GivesE w w.heap.size [] 1) := by
  unfold ruleV
  go_enter Try.func49, Try.ntmps49
  go_wp2_with (go_at_call 78; refine (valid_any f b m e _).mono ?_; rintro r w1 ⟨rfl, hb1⟩)
  go_ret2
  exact ⟨_, rfl, RS.nil _ _, ((Below.refl _ _).alloc (Nat.le_refl _) _).trans (hb1.mono (by simp))⟩

set_option maxHeartbeats 1000000 in
theorem true_range (f b m e n : Int) (w : World) (h : okRule f b m e = true) (hn : inB n 0 140 = false) :
    Calls Try.prog 49 #[ruleV f b m e, .int .i64 n] w (GivesE w w.heap.size [] 2) := by
  unfold ruleV
  go_enter Try.func49, Try.ntmps49
  go_wp2_with (first | (go_at_call 78; refine (valid_any f b m e _).mono ?_; rintro r w1 ⟨rfl, hb1⟩) | (go_at_call 64; refine (isWritten_any _ _).mono ?_; rintro r w2 ⟨rfl, rfl⟩))
  go_ret2
  exact ⟨_, rfl, RS.nil _ _, ((Below.refl _ _).alloc (Nat.le_refl _) _).trans (hb1.mono (by simp))⟩

set_option maxHeartbeats 1000000 in
theorem true_ok (f b m e n : Int) (w : World) (h : okRule f b m e = true) (hn : inB n 0 140 = true) :
    Calls Try.prog 49 #[ruleV f b m e, .int .i64 n] w (GivesE w w.heap.size (rngs (agesF f b m e n 126) 121) 0) := by
  obtain ⟨g0, g1, g2, g3, g4, g5, g6, g7⟩ := okRule_bd h
  have HA := Lib.hid (fun W => ages_any f b m e n W g2 g3 g4 g5 g6 g7)
  unfold ruleV at HA ⊢
  go_enter Try.func49, Try.ntmps49
  go_wp2_with (first | (go_at_call 78; refine (valid_any f b m e _).mono ?_; rintro r w1 ⟨rfl, hb1⟩; obtain ⟨hc1, hf1⟩ := bcell hb1; have hs1 : w.heap.size + 1 ≤ w1.heap.size := by have := hb1.size; simp at this; omega) | (go_at_call 64; refine (isWritten_any _ _).mono ?_; rintro r w2 ⟨rfl, rfl⟩) | (go_at_call 83; refine (HA.out _).mono ?_; rintro r w2 ⟨rfl, hb2⟩) | (go_at_call 84; refine (ranges_any _ _).mono ?_; rintro r w3 ⟨v, rfl, hr3, hb3⟩))
  go_ret2
  have b1 := ((Below.refl _ _).alloc (Nat.le_refl _) _).trans (hb1.mono (B' := w.heap.size) (by simp))
  have s2 := hb2.size
  exact ⟨_, rfl, hr3.mono (by omega), (b1.trans (hb2.mono (by omega))).trans (hb3.mono (by omega))⟩

set_option maxHeartbeats 1000000 in
theorem closure_int (c : Nat) (x : Int) (w : World) (hc : w.cell? ⟨c, 0, none⟩ = some (.func (.func 64) #[] #[])) :
    Calls Try.prog 91 #[.int .i64 x, .pointer (some ⟨c, 0, none⟩)] w fun e w' => e = .returned (.bool (!inB x 0 140)) ∧ w = w' := by
  go_enter Try.func91, Try.ntmps91
  go_wp2_with (go_at_call 64; refine (isWritten_any _ _).mono ?_; rintro r w2 ⟨rfl, rfl⟩)
  go_ret
  exact ⟨rfl, rfl⟩

def allB (p : Nat → Bool) (n : Nat) : Bool := (List.range n).all p
theorem allB_true {p : Nat → Bool} {n : Nat} (h : ∀ q, q < n → p q = true) : allB p n = true := by
  simp only [allB, List.all_eq_true, List.mem_range]; exact h
theorem allB_false {p : Nat → Bool} {n k : Nat} (hk : k < n) (h : p k = false) : allB p n = false := by
  simp only [allB, List.all_eq_false, List.mem_range]; exact ⟨k, hk, by simp [h]⟩
/-- What IndexFunc gives for 'not p'. -/
def IdxPost (p : Nat → Bool) (n : Nat) (w : World) (e : Ending) (w' : World) : Prop := ∃ r : Int, e = .returned (.int .i64 r) ∧ decide (0 ≤ r) = !allB p n ∧ Below w.heap.size w w'

def IntsAt (w : World) (sv : Value) (n : Nat) (z : Nat → Int) : Prop :=
  (sv = .slice none 0 0 ∧ n = 0) ∨ ∃ b off cap, sv = .slice (some ⟨b, off, none⟩) n cap ∧ b < w.heap.size ∧ ∀ j, j < n → w.cell? ⟨b, off + j, none⟩ = some (.int .i64 (z j))

set_option maxHeartbeats 1000000 in
theorem indexFunc_nil (fv : Value) (w : World) :
    Calls Try.prog 104 #[.slice none 0 0, fv] w fun e w' => e = .returned (.int .i64 (-1)) ∧ w = w' := by
  go_enter Try.func104, Try.ntmps104
  go_wp2
  go_loop [8] (fun i => i = .int .i64 0) (fun _ => 0)
  case atStart => rfl
  case round =>
    obtain rfl := hrel
    go_wp2
    go_ret
    exact ⟨rfl, rfl⟩

set_option maxHeartbeats 1000000 in
theorem indexFunc_int (c b off cap n : Nat) (z : Nat → Int) (w : World) (hlen : n ≤ 100000) (hc : w.cell? ⟨c, 0, none⟩ = some (.func (.func 64) #[] #[]))
    (hz : ∀ j, j < n → w.cell? ⟨b, off + j, none⟩ = some (.int .i64 (z j))) :
    Calls Try.prog 104 #[.slice (some ⟨b, off, none⟩) n cap, .func (.func 91) #[] #[.pointer (some ⟨c, 0, none⟩)]] w (IdxPost (fun j => inB (z j) 0 140) n w) := by
  have HZ := Lib.hid hz; clear hz
  have HC := Lib.hid hc; clear hc
  go_enter Try.func104, Try.ntmps104
  go_wp2
  go_loop [8] (fun i => ∃ k : Nat, k ≤ n ∧ i = .int .i64 k ∧ ∀ q, q < k → inB (z q) 0 140 = true) (fun i => n - (intOf i).toNat)
  case atStart => exact ⟨0, Nat.zero_le _, rfl, fun q h => absurd h (Nat.not_lt_zero _)⟩
  case round =>
    obtain ⟨k, hk, rfl, hall⟩ := hrel
    have HA := Lib.hid hall; clear hall
    by_cases hlt : k < n
    · have hcx := HZ.out k hlt
      by_cases hin : inB (z k) 0 140 = true
      · go_wp2_with (go_at_call 91; refine (closure_int c _ _ HC.out).mono ?_; rintro r w2 ⟨rfl, rfl⟩)
        go_round
        case rel => exact ⟨k + 1, by omega, by go_num, fun q hq => by rcases Nat.lt_succ_iff_lt_or_eq.1 hq with h | rfl; exact HA.out q h; exact hin⟩
        case measure => simp [intOf]; omega
      · have hin' : inB (z k) 0 140 = false := by simpa using hin
        clear hin
        go_wp2_with (go_at_call 91; refine (closure_int c _ _ HC.out).mono ?_; rintro r w2 ⟨rfl, rfl⟩)
        go_ret
        exact ⟨_, rfl, by rw [allB_false hlt hin']; simp, Below.refl _ _⟩
    · obtain rfl : k = n := by omega
      go_wp2
      go_ret
      exact ⟨_, rfl, by rw [allB_true HA.out]; rfl, Below.refl _ _⟩

theorem indexFunc_any (c n : Nat) (sv : Value) (z : Nat → Int) (w : World) (hlen : n ≤ 100000) (hc : w.cell? ⟨c, 0, none⟩ = some (.func (.func 64) #[] #[])) (hz : IntsAt w sv n z) :
    Calls Try.prog 104 #[sv, .func (.func 91) #[] #[.pointer (some ⟨c, 0, none⟩)]] w (IdxPost (fun j => inB (z j) 0 140) n w) := by
  rcases hz with ⟨rfl, rfl⟩ | ⟨b, off, cap, rfl, _, hz⟩
  · refine (indexFunc_nil _ w).mono ?_
    rintro e w' ⟨rfl, rfl⟩
    exact ⟨_, rfl, by simp [allB], Below.refl _ _⟩
  · exact indexFunc_int c b off cap n z w hlen hc hz

set_option maxHeartbeats 1000000 in
theorem containsFunc_any (c n : Nat) (sv : Value) (z : Nat → Int) (w : World) (hlen : n ≤ 100000) (hc : w.cell? ⟨c, 0, none⟩ = some (.func (.func 64) #[] #[])) (hz : IntsAt w sv n z) :
    Calls Try.prog 90 #[sv, .func (.func 91) #[] #[.pointer (some ⟨c, 0, none⟩)]] w fun e w' => e = .returned (.bool (!allB (fun j => inB (z j) 0 140) n)) ∧ Below w.heap.size w w' := by
  have HI := Lib.hid (indexFunc_any c n sv z w hlen hc hz); clear hc hz
  go_enter Try.func90, Try.ntmps90
  go_wp2_with (go_at_call 104; refine HI.out.mono ?_; rintro e w' ⟨r, rfl, hr, hb⟩; have HR := Lib.hid hr; clear hr)
  go_ret
  exact ⟨ret_bool HR.out, hb⟩

theorem IntsAt.alloc {w : World} {sv : Value} {n : Nat} {z : Nat → Int} (h : IntsAt w sv n z) (o : Obj) : IntsAt (w.alloc o) sv n z := by
  rcases h with h | ⟨b, off, cap, rfl, hb, hz⟩
  · exact .inl h
  · exact .inr ⟨b, off, cap, rfl, by simp; omega, fun j hj => by rw [((Below.refl w.heap.size w).alloc (Nat.le_refl _) o).cell (p := ⟨b, off + j, none⟩) hb]; exact hz j hj⟩
theorem IntsAt.below {w w' : World} {sv : Value} {n : Nat} {z : Nat → Int} (h : IntsAt w sv n z) (hB : Below w.heap.size w w') : IntsAt w' sv n z := by
  rcases h with h | ⟨b, off, cap, rfl, hb, hz⟩
  · exact .inl h
  · exact .inr ⟨b, off, cap, rfl, Nat.lt_of_lt_of_le hb hB.size, fun j hj => by rw [hB.cell (p := ⟨b, off + j, none⟩) hb]; exact hz j hj⟩

set_option maxHeartbeats 1000000 in
theorem all_int (n : Nat) (sv : Value) (z : Nat → Int) (w : World) (hlen : n ≤ 100000) (hz : IntsAt w sv n z) :
    Calls Try.prog 63 #[sv, .func (.func 64) #[] #[]] w fun e w' => e = .returned (.bool (allB (fun j => inB (z j) 0 140) n)) ∧ Below w.heap.size w w' := by
  have HI := Lib.hid hz; clear hz
  go_enter Try.func63, Try.ntmps63
  go_wp2_with (go_at_call 90; refine (containsFunc_any _ n sv z _ hlen (cell_of_row _ _ 0 _ _ _ (heap_alloc_new _ _)) (HI.out.alloc _)).mono ?_; rintro e w' ⟨rfl, hb⟩)
  go_ret
  exact ⟨ret_bool (by simp), ((Below.refl _ _).alloc (Nat.le_refl _) _).trans (hb.mono (by simp))⟩
end Go.Proofs.Ytagfcfojfjkmbaa
