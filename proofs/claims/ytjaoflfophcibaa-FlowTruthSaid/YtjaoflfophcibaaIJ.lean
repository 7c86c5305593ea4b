/- Play (the program's): all[int], has, dead, Clone[int]. Printed by gen_ij.py. -/
import Derived.Test.YtjaoflfophcibaaGW
import Derived.Test.YtjaoflfophcibaaPL
namespace Go.Proofs.Ytjaoflfophcibaa
open Go.RowKit Go.Shelf

def countB (n : Int) : Bool := inB n 0 500
def natB (n : Int) : Bool := decide (0 ≤ n)
set_option maxHeartbeats 1000000 in
theorem countB_any (n : Int) (w : World) : Calls Try.prog 111 #[.int .i64 n] w fun e w' => e = .returned (.bool (countB n)) ∧ w = w' := by
  go_enter Try.func111, Try.ntmps111
  go_wp2_with (go_at_call 56; refine (within_any _ _ _ _).mono ?_; rintro e w2 ⟨rfl, rfl⟩)
  go_ret
  exact ⟨rfl, rfl⟩
set_option maxHeartbeats 1000000 in
theorem natB_any (n : Int) (w : World) : Calls Try.prog 122 #[.int .i64 n] w fun e w' => e = .returned (.bool (natB n)) ∧ w = w' := by
  go_enter Try.func122, Try.ntmps122
  go_wp2
  all_goals go_ret
  all_goals (refine ⟨?_, rfl⟩; congr 2)
theorem indexFunc_int_nil (fv : Value) (w : World) :
    Calls Try.prog 123 #[.slice none 0 0, fv] w fun e w' => e = .returned (.int .i64 (-1)) ∧ w = w' := by
  go_enter Try.func123, Try.ntmps123
  go_wp2
  go_loop [8] (fun i => i = .int .i64 0) (fun _ => 0)
  case atStart => rfl
  case round =>
    obtain rfl := hrel
    go_wp2
    go_ret
    exact ⟨rfl, rfl⟩
set_option maxHeartbeats 1000000 in
theorem closure_countB (c : Nat) (n : Int) (w : World) (hc : w.cell? ⟨c, 0, none⟩ = some (.func (.func 111) #[] #[])) :
    Calls Try.prog 120 #[.int .i64 n, .pointer (some ⟨c, 0, none⟩)] w fun e w' => e = .returned (.bool (!countB n)) ∧ w = w' := by
  go_enter Try.func120, Try.ntmps120
  go_wp2_with (go_at_call 111; refine (countB_any n _).mono ?_; rintro e w2 ⟨rfl, rfl⟩)
  go_ret
  exact ⟨rfl, rfl⟩
set_option maxHeartbeats 1000000 in
theorem indexFunc_countB_some (c b off cap n : Nat) (R : Nat → Int) (w : World) (hlen : n ≤ 100000) (hl : c < w.heap.size) (hc : w.cell? ⟨c, 0, none⟩ = some (.func (.func 111) #[] #[]))
    (hz : IntsAt w (.slice (some ⟨b, off, none⟩) n cap) n R) :
    Calls Try.prog 123 #[.slice (some ⟨b, off, none⟩) n cap, .func (.func 120) #[] #[.pointer (some ⟨c, 0, none⟩)]] w (IdxPost (fun j => countB (R j)) n w) := by
  have HZ := Lib.hid hz; clear hz
  have HC := Lib.hid hc; clear hc
  have HV := Lib.hid closure_countB
  go_enter Try.func123, Try.ntmps123
  go_wp2
  go_loopw [8] (fun i wr => ∃ k : Nat, k ≤ n ∧ i = .int .i64 k ∧ (∀ q, q < k → countB (R q) = true) ∧ Below w.heap.size w wr) (fun i _ => n - (intOf i).toNat)
  case atStart => exact ⟨0, Nat.zero_le _, rfl, fun q h => absurd h (Nat.not_lt_zero _), Below.refl _ _⟩
  case round =>
    obtain ⟨k, hk, rfl, hall, hbl⟩ := hrel
    have HA := Lib.hid hall; clear hall
    have HC' := Lib.hid ((hbl.cell (p := ⟨c, 0, none⟩) hl).trans HC.out)
    have HB := Lib.hid hbl; clear hbl
    by_cases hlt : k < n
    · have x0 : wr.cell? ⟨b, off + k, none⟩ = some (.int .i64 (R k)) := by
        rcases HZ.out.below HB.out with ⟨h, _⟩ | ⟨b', off', cap', h, _, hz⟩
        · cases h
        · cases h; exact hz k hlt
      by_cases hin : countB (R k) = true
      · go_wp2_with (go_at_call 120; refine (HV.out c (R k) _ HC'.out).mono ?_; rintro r w2 ⟨rfl, rfl⟩)
        go_roundw
        case rel => exact ⟨k + 1, by omega, by go_num, (fun q hq => by rcases Nat.lt_succ_iff_lt_or_eq.1 hq with h | rfl; exact HA.out q h; exact hin), HB.out⟩
        case measure => simp [intOf]; omega
      · have hin' : countB (R k) = false := by simpa using hin
        clear hin
        go_wp2_with (go_at_call 120; refine (HV.out c (R k) _ HC'.out).mono ?_; rintro r w2 ⟨rfl, rfl⟩)
        go_ret
        exact ⟨_, rfl, by rw [allB_false hlt hin']; simp, HB.out⟩
    · obtain rfl : k = n := by omega
      go_wp2
      go_ret
      exact ⟨_, rfl, by rw [allB_true HA.out]; rfl, HB.out⟩
theorem indexFunc_countB (c n : Nat) (sv : Value) (R : Nat → Int) (w : World) (hlen : n ≤ 100000) (hl : c < w.heap.size) (hc : w.cell? ⟨c, 0, none⟩ = some (.func (.func 111) #[] #[])) (hz : IntsAt w sv n R) :
    Calls Try.prog 123 #[sv, .func (.func 120) #[] #[.pointer (some ⟨c, 0, none⟩)]] w (IdxPost (fun j => countB (R j)) n w) := by
  have hz' := hz
  rcases hz with ⟨rfl, rfl⟩ | ⟨b, off, cap, rfl, _, hz⟩
  · refine (indexFunc_int_nil _ w).mono ?_
    rintro e w' ⟨rfl, rfl⟩
    exact ⟨_, rfl, by simp [allB], Below.refl _ _⟩
  · exact indexFunc_countB_some c b off cap n R w hlen hl hc hz'
set_option maxHeartbeats 1000000 in
theorem containsFunc_countB (c n : Nat) (sv : Value) (R : Nat → Int) (w : World) (hlen : n ≤ 100000) (hl : c < w.heap.size) (hc : w.cell? ⟨c, 0, none⟩ = some (.func (.func 111) #[] #[])) (hz : IntsAt w sv n R) :
    Calls Try.prog 119 #[sv, .func (.func 120) #[] #[.pointer (some ⟨c, 0, none⟩)]] w fun e w' => e = .returned (.bool (!allB (fun j => countB (R j)) n)) ∧ Below w.heap.size w w' := by
  have HI := Lib.hid (indexFunc_countB c n sv R w hlen hl hc hz); clear hc hz
  go_enter Try.func119, Try.ntmps119
  go_wp2_with (go_at_call 123; refine HI.out.mono ?_; rintro e w' ⟨r, rfl, hr, hb⟩; have HR := Lib.hid hr; clear hr)
  go_ret
  exact ⟨ret_bool HR.out, hb⟩
set_option maxHeartbeats 1000000 in
theorem all_countB (n : Nat) (sv : Value) (R : Nat → Int) (w : World) (hlen : n ≤ 100000) (hz : IntsAt w sv n R) :
    Calls Try.prog 112 #[sv, .func (.func 111) #[] #[]] w fun e w' => e = .returned (.bool (allB (fun j => countB (R j)) n)) ∧ Below w.heap.size w w' := by
  have HI := Lib.hid hz; clear hz
  go_enter Try.func112, Try.ntmps112
  go_wp2_with (go_at_call 119; refine (containsFunc_countB _ n sv R _ hlen (by simp) (box_cell _ _ _) (HI.out.below (below_alloc _ _))).mono ?_; rintro e w' ⟨rfl, hb⟩)
  go_ret
  exact ⟨ret_bool (by simp), (below_alloc _ _).trans (hb.mono (by simp))⟩
set_option maxHeartbeats 1000000 in
theorem closure_natB (c : Nat) (n : Int) (w : World) (hc : w.cell? ⟨c, 0, none⟩ = some (.func (.func 122) #[] #[])) :
    Calls Try.prog 120 #[.int .i64 n, .pointer (some ⟨c, 0, none⟩)] w fun e w' => e = .returned (.bool (!natB n)) ∧ w = w' := by
  go_enter Try.func120, Try.ntmps120
  go_wp2_with (go_at_call 122; refine (natB_any n _).mono ?_; rintro e w2 ⟨rfl, rfl⟩)
  go_ret
  exact ⟨rfl, rfl⟩
set_option maxHeartbeats 1000000 in
theorem indexFunc_natB_some (c b off cap n : Nat) (R : Nat → Int) (w : World) (hlen : n ≤ 100000) (hl : c < w.heap.size) (hc : w.cell? ⟨c, 0, none⟩ = some (.func (.func 122) #[] #[]))
    (hz : IntsAt w (.slice (some ⟨b, off, none⟩) n cap) n R) :
    Calls Try.prog 123 #[.slice (some ⟨b, off, none⟩) n cap, .func (.func 120) #[] #[.pointer (some ⟨c, 0, none⟩)]] w (IdxPost (fun j => natB (R j)) n w) := by
  have HZ := Lib.hid hz; clear hz
  have HC := Lib.hid hc; clear hc
  have HV := Lib.hid closure_natB
  go_enter Try.func123, Try.ntmps123
  go_wp2
  go_loopw [8] (fun i wr => ∃ k : Nat, k ≤ n ∧ i = .int .i64 k ∧ (∀ q, q < k → natB (R q) = true) ∧ Below w.heap.size w wr) (fun i _ => n - (intOf i).toNat)
  case atStart => exact ⟨0, Nat.zero_le _, rfl, fun q h => absurd h (Nat.not_lt_zero _), Below.refl _ _⟩
  case round =>
    obtain ⟨k, hk, rfl, hall, hbl⟩ := hrel
    have HA := Lib.hid hall; clear hall
    have HC' := Lib.hid ((hbl.cell (p := ⟨c, 0, none⟩) hl).trans HC.out)
    have HB := Lib.hid hbl; clear hbl
    by_cases hlt : k < n
    · have x0 : wr.cell? ⟨b, off + k, none⟩ = some (.int .i64 (R k)) := by
        rcases HZ.out.below HB.out with ⟨h, _⟩ | ⟨b', off', cap', h, _, hz⟩
        · cases h
        · cases h; exact hz k hlt
      by_cases hin : natB (R k) = true
      · go_wp2_with (go_at_call 120; refine (HV.out c (R k) _ HC'.out).mono ?_; rintro r w2 ⟨rfl, rfl⟩)
        go_roundw
        case rel => exact ⟨k + 1, by omega, by go_num, (fun q hq => by rcases Nat.lt_succ_iff_lt_or_eq.1 hq with h | rfl; exact HA.out q h; exact hin), HB.out⟩
        case measure => simp [intOf]; omega
      · have hin' : natB (R k) = false := by simpa using hin
        clear hin
        go_wp2_with (go_at_call 120; refine (HV.out c (R k) _ HC'.out).mono ?_; rintro r w2 ⟨rfl, rfl⟩)
        go_ret
        exact ⟨_, rfl, by rw [allB_false hlt hin']; simp, HB.out⟩
    · obtain rfl : k = n := by omega
      go_wp2
      go_ret
      exact ⟨_, rfl, by rw [allB_true HA.out]; rfl, HB.out⟩
theorem indexFunc_natB (c n : Nat) (sv : Value) (R : Nat → Int) (w : World) (hlen : n ≤ 100000) (hl : c < w.heap.size) (hc : w.cell? ⟨c, 0, none⟩ = some (.func (.func 122) #[] #[])) (hz : IntsAt w sv n R) :
    Calls Try.prog 123 #[sv, .func (.func 120) #[] #[.pointer (some ⟨c, 0, none⟩)]] w (IdxPost (fun j => natB (R j)) n w) := by
  have hz' := hz
  rcases hz with ⟨rfl, rfl⟩ | ⟨b, off, cap, rfl, _, hz⟩
  · refine (indexFunc_int_nil _ w).mono ?_
    rintro e w' ⟨rfl, rfl⟩
    exact ⟨_, rfl, by simp [allB], Below.refl _ _⟩
  · exact indexFunc_natB_some c b off cap n R w hlen hl hc hz'
set_option maxHeartbeats 1000000 in
theorem containsFunc_natB (c n : Nat) (sv : Value) (R : Nat → Int) (w : World) (hlen : n ≤ 100000) (hl : c < w.heap.size) (hc : w.cell? ⟨c, 0, none⟩ = some (.func (.func 122) #[] #[])) (hz : IntsAt w sv n R) :
    Calls Try.prog 119 #[sv, .func (.func 120) #[] #[.pointer (some ⟨c, 0, none⟩)]] w fun e w' => e = .returned (.bool (!allB (fun j => natB (R j)) n)) ∧ Below w.heap.size w w' := by
  have HI := Lib.hid (indexFunc_natB c n sv R w hlen hl hc hz); clear hc hz
  go_enter Try.func119, Try.ntmps119
  go_wp2_with (go_at_call 123; refine HI.out.mono ?_; rintro e w' ⟨r, rfl, hr, hb⟩; have HR := Lib.hid hr; clear hr)
  go_ret
  exact ⟨ret_bool HR.out, hb⟩
set_option maxHeartbeats 1000000 in
theorem all_natB (n : Nat) (sv : Value) (R : Nat → Int) (w : World) (hlen : n ≤ 100000) (hz : IntsAt w sv n R) :
    Calls Try.prog 112 #[sv, .func (.func 122) #[] #[]] w fun e w' => e = .returned (.bool (allB (fun j => natB (R j)) n)) ∧ Below w.heap.size w w' := by
  have HI := Lib.hid hz; clear hz
  go_enter Try.func112, Try.ntmps112
  go_wp2_with (go_at_call 119; refine (containsFunc_natB _ n sv R _ hlen (by simp) (box_cell _ _ _) (HI.out.below (below_alloc _ _))).mono ?_; rintro e w' ⟨rfl, hb⟩)
  go_ret
  exact ⟨ret_bool (by simp), (below_alloc _ _).trans (hb.mono (by simp))⟩
theorem iL_one (z : Nat → Int) (n : Nat) : ∀ u ∈ iL z n, u.oneCell' = true := by
  intro q hq; unfold iL at hq; simp only [List.mem_map] at hq; obtain ⟨j, _, rfl⟩ := hq; rfl
theorem wrap_shift (a : Int) : wrap64 (wrap64 (a + 1000) - 1) = wrap64 (a + 999) := by
  unfold wrap64
  omega
set_option maxHeartbeats 1000000 in
theorem deadW_any (n a b : Int) (w : World) :
    Calls Try.prog 116 #[.agg #[.int .i64 a, .int .i64 b], .int .i64 n] w fun e w' => e = .returned (.agg #[.int .i64 (deadW (a, b) n).1, .int .i64 (deadW (a, b) n).2]) ∧ Below w.heap.size w w' := by
  obtain ⟨i0, hi0, hz0, hz1, hz2⟩ := info_parts Try.infoRangeF
  unfold deadW
  simp only
  rw [← wrap_shift]
  go_enter Try.func116, Try.ntmps116
  go_wp2_with fail
  refine bodyPost_ret (v := .agg #[.int .i64 (wrap64 ((wrap64 (n * a)).tdiv 1000)), .int .i64 (wrap64 ((wrap64 (wrap64 (wrap64 (n * b) + 1000) - 1)).tdiv 1000))]) (by simp [results, Try.results116, go_sem]) rfl ⟨rfl, ?_⟩
  exact (below_alloc _ _).alloc (by simp) _
set_option maxRecDepth 100000 in
set_option maxHeartbeats 2000000 in
theorem clone_ints (v : Value) (n : Nat) (z : Nat → Int) (w : World) (hn : n ≤ 1000) (h : IntsAt w v n z) :
    Calls Try.prog 113 #[v] w fun e w' => ∃ v', e = .returned v' ∧ w'.ownsRow w.heap.size 3 1 v' n (iL z n) ∧ Below w.heap.size w w' := by
  have h0 := h
  rcases h with ⟨rfl, rfl⟩ | ⟨b, off, cap, rfl, hb, hz⟩
  · have hnil : ∀ W : World, (binOp .eql 72 (.slice none 0 0) (.slice none 0 0)).run Try.prog W = .ok (.bool true) W := fun W => Lib.run_eql_slice_nil W 72 3 none 0 0 0 0 Try.underlying72
    clear h0
    go_enter Try.func113, Try.ntmps113
    go_wp2
    go_ret
    exact ⟨_, rfl, World.ownsRow_nil _ _ _ _, Below.refl _ _⟩
  · obtain ⟨i0, hi0, hz0, hz1, hz2⟩ := info_parts Try.infoInt
    have HSRC : Hid (Src (w.alloc (.cells #[] 3)) (some ⟨b, off, none⟩) 1 n (iL z n)) := (h0.below (below_alloc _ _)).src
    clear h0 hz
    have hnil : ∀ W : World, (binOp .eql 72 (.slice (some ⟨b, off, none⟩) n cap) (.slice none 0 0)).run Try.prog W = .ok (.bool false) W := fun W => Lib.run_eql_slice_nil W 72 3 (some ⟨b, off, none⟩) n cap 0 0 Try.underlying72
    go_enter Try.func113, Try.ntmps113
    go_wp2_with (at_builtin; refine wpList_append_src _ rfl (.tmp 5) (.tmp 6) 72 rfl w.heap.size 3 i0 (.int .i64 0) 1 8 Try.underlying72 hi0 hz0 hz1 hz2 rfl (by decide) (.slice (some ⟨w.heap.size, 0, none⟩) 0 0) 0 [] rfl (own_empty w 3 1 w.heap.size (Nat.le_refl _)) (some ⟨b, off, none⟩) n cap (iL z n) rfl HSRC.out (iL_one z n) ?a1 ?a2 ?a3 ?_)
    case a1 => unfold maxLen; omega
    case a2 => omega
    case a3 => simp
    intro v1 w1 hown hgr hlt
    have HB : Hid (Below w.heap.size w w1) := (below_alloc w _).grown hgr (by simp) (fun k hk => by cases hk; exact Nat.le_refl _)
    have HO : Hid (w1.ownsRow w.heap.size 3 1 v1 n (iL z n)) := hown
    clear hown hgr hlt
    go_wp2
    go_ret
    exact ⟨_, rfl, HO.out, HB.out⟩
end Go.Proofs.Ytjaoflfophcibaa
