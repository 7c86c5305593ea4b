/- Contracts: Rule, IsRule, Write, Age, has, inside. -/
import Derived.Test.YtagfcfojfjkmbaaE1
import Derived.Test.YtagfcfojfjkmbaaF0
namespace Go.Proofs.Ytagfcfojfjkmbaa
open Go.RowKit Go.Shelf

set_option maxHeartbeats 1000000 in
theorem rule_any (f b m e : Int) (w : World) : Calls Try.prog 48 #[.agg #[.int .i64 f, .int .i64 b, .int .i64 m, .int .i64 e]] w fun r w' => r = .returned (.agg #[.int .i64 f, .int .i64 b, .int .i64 m, .int .i64 e]) ∧ Below w.heap.size w w' := by
  go_enter Try.func48, Try.ntmps48
  go_wp2
  exact bodyPost_ret (v := .agg #[.int .i64 f, .int .i64 b, .int .i64 m, .int .i64 e]) (by simp [results, Try.results48, go_sem]) rfl ⟨rfl, ((below_alloc _ _).alloc (by simp) _)⟩

set_option maxHeartbeats 1000000 in
theorem isRule_any (f b m e : Int) (w : World) : Calls Try.prog 46 #[.agg #[.int .i64 f, .int .i64 b, .int .i64 m, .int .i64 e]] w fun r w' => r = .returned (.bool (okRule f b m e)) ∧ Below w.heap.size w w' := by
  go_enter Try.func46, Try.ntmps46
  go_wp2_with (go_at_call 23; refine (refIn_any _ _ _ _).mono ?_; rintro e w' ⟨rfl, rfl⟩)
  all_goals go_ret
  all_goals exact ⟨by simp [okRule, *], below_alloc _ _⟩

set_option maxHeartbeats 1000000 in
theorem isDayR_any (a : Int) (w : World) : Calls Try.prog 29 #[.int .i64 a] w fun e w' => e = .returned (.bool (inB a (-50000) 50000)) ∧ w = w' := by
  go_enter Try.func29, Try.ntmps29
  go_wp2_with (go_at_call 23; refine (refIn_any _ _ _ _).mono ?_; rintro e w' ⟨rfl, rfl⟩)
  go_ret
  exact ⟨rfl, rfl⟩

def wrE (f b m e k : Int) : Int := if okRule f b m e = false then 1 else if inB k 0 125 = false then 2 else 0
def wrR (f b m e k : Int) : Int := if wrE f b m e k = 0 then wrt f b m k else 0
set_option maxHeartbeats 1000000 in
theorem writeF_any (f b m e k : Int) (w : World) : Calls Try.prog 47 #[.agg #[.int .i64 f, .int .i64 b, .int .i64 m, .int .i64 e], .int .i64 k] w fun r w' => r = .returned (.tuple #[.int .i64 (wrR f b m e k), .int .i64 (wrE f b m e k)]) ∧ Below w.heap.size w w' := by
  cases hr : okRule f b m e
  · have hE : wrE f b m e k = 1 := by unfold wrE; rw [if_pos hr]
    have hR : wrR f b m e k = 0 := by unfold wrR; rw [hE]; rfl
    rw [hE, hR]; clear hE hR
    go_enter Try.func47, Try.ntmps47
    go_wp2_with (go_at_call 78; refine (valid_any f b m e _).mono ?_; rintro r w1 ⟨rfl, hb1⟩)
    go_ret2
    exact ⟨rfl, below_step (below_alloc _ _) hb1⟩
  cases hk : inB k 0 125
  · have hE : wrE f b m e k = 2 := by unfold wrE; rw [if_neg (by rw [hr]; decide), if_pos hk]
    have hR : wrR f b m e k = 0 := by unfold wrR; rw [hE]; rfl
    rw [hE, hR]; clear hE hR
    go_enter Try.func47, Try.ntmps47
    go_wp2_with (first | (go_at_call 78; refine (valid_any f b m e _).mono ?_; rintro r w1 ⟨rfl, hb1⟩) | (go_at_call 62; refine (within_any _ _ _ _).mono ?_; rintro e w' ⟨rfl, rfl⟩))
    go_ret2
    exact ⟨rfl, below_step (below_alloc _ _) hb1⟩
  · have hE : wrE f b m e k = 0 := by unfold wrE; rw [if_neg (by rw [hr]; decide), if_neg (by rw [hk]; decide)]
    have hR : wrR f b m e k = wrt f b m k := by unfold wrR; rw [if_pos hE]
    rw [hE, hR]; clear hE hR
    obtain ⟨g0, g1, g2, g3, g4, g5, g6, g7⟩ := okRule_bd hr
    have hkb : 0 ≤ k ∧ k ≤ 125 := by simpa [inB] using hk
    have HW := Lib.hid (fun W => write_any f b m e k W g2 g3 g4 g5 hkb.1 (by omega))
    unfold ruleV at HW
    go_enter Try.func47, Try.ntmps47
    go_wp2_with (first | (go_at_call 78; refine (valid_any f b m e _).mono ?_; rintro r w1 ⟨rfl, hb1⟩; obtain ⟨hc1, hf1⟩ := bcell hb1; have hs1 : w.heap.size + 1 ≤ w1.heap.size := by (have := hb1.size; simp at this; omega)) | (go_at_call 62; refine (within_any _ _ _ _).mono ?_; rintro e w' ⟨rfl, rfl⟩) | (go_at_call 82; refine (HW.out _).mono ?_; rintro r w2 ⟨rfl, hb2⟩))
    go_ret2
    exact ⟨rfl, below_step (below_step (below_alloc _ _) hb1) hb2⟩

def agE (b d : Int) : Int := if inB b (-50000) 50000 = true ∧ inB d (-50000) 50000 = true ∧ b ≤ d then 0 else 2
def agR (b d : Int) : Int := if agE b d = 0 then (d - b) / 365 else 0
set_option maxHeartbeats 1000000 in
theorem age_any (b d : Int) (w : World) : Calls Try.prog 52 #[.int .i64 b, .int .i64 d] w fun r w' => r = .returned (.tuple #[.int .i64 (agR b d), .int .i64 (agE b d)]) ∧ w = w' := by
  cases hb : inB b (-50000) 50000 <;> cases hd : inB d (-50000) 50000 <;> by_cases hl : b ≤ d
  all_goals
    first
      | (have hE : agE b d = 0 := by (unfold agE; rw [if_pos ⟨hb, hd, hl⟩])
         have hR : agR b d = (d - b) / 365 := by (unfold agR; rw [if_pos hE])
         rw [hE, hR]; clear hE hR
         have hbb : -50000 ≤ b ∧ b ≤ 50000 := by simpa [inB] using hb
         have hdd : -50000 ≤ d ∧ d ≤ 50000 := by simpa [inB] using hd
         obtain ⟨hb1, hb2⟩ := hbb
         obtain ⟨hd1, hd2⟩ := hdd)
      | (have hE : agE b d = 2 := by (unfold agE; rw [if_neg (by rw [hb, hd]; simp [hl])])
         have hR : agR b d = 0 := by (unfold agR; rw [hE]; rfl)
         rw [hE, hR]; clear hE hR)
    go_enter Try.func52, Try.ntmps52
    go_wp2_with (go_at_call 66; refine (isDay_any _ _).mono ?_; rintro e w' ⟨rfl, rfl⟩)
    go_ret2
    exact ⟨rfl, rfl⟩

set_option maxRecDepth 100000 in
set_option maxHeartbeats 2000000 in
theorem has_any (sv : Value) (l : RL) (x : Int) (w : World) (hlen : l.length ≤ 100000) (hz : RgAt w sv l) :
    Calls Try.prog 50 #[sv, .int .i64 x] w fun e w' => e = .returned (.bool (hasR l x)) ∧ w = w' := by
  obtain ⟨a, cap, rfl⟩ := hz.slice
  have HZ := Lib.hid hz; clear hz
  generalize hn : l.length = n at *
  have HN := Lib.hid hn; clear hn
  go_enter Try.func50, Try.ntmps50
  go_wp2
  go_loop [5] (fun i => ∃ k : Nat, k ≤ n ∧ i = .int .i64 k ∧ ∀ q (h : q < l.length), q < k → inB x l[q].1 l[q].2 = false) (fun i => n - (intOf i).toNat)
  case atStart => exact ⟨0, Nat.zero_le _, rfl, fun q _ h => absurd h (Nat.not_lt_zero _)⟩
  case round =>
    obtain ⟨k, hk, rfl, hall⟩ := hrel
    have HA := Lib.hid hall; clear hall
    by_cases hlt : k < n
    · have hkl : k < l.length := by rw [HN.out]; exact hlt
      obtain ⟨b, off, rfl, x0, x1⟩ : ∃ b off, a = some ⟨b, off, none⟩ ∧ w.cell? ⟨b, off + k * 2, none⟩ = some (.int .i64 l[k].1) ∧ w.cell? ⟨b, off + k * 2 + 1, none⟩ = some (.int .i64 l[k].2) := by
        rcases HZ.out with ⟨h, _⟩ | ⟨b', off', cap', h, _, _, hz⟩
        · rw [h] at hkl; simp at hkl
        · cases h; exact ⟨b', off', rfl, hz k hkl⟩
      generalize hlk : l[k].1 = lo at *
      generalize hlk2 : l[k].2 = hi at *
      have HK1 := Lib.hid hlk; have HK2 := Lib.hid hlk2; clear hlk hlk2
      by_cases h1 : lo ≤ x <;> by_cases h2 : x ≤ hi
      · have HIN : Hid (inB x lo hi = true) := by unfold Hid; simp [inB, h1, h2]
        go_wp2
        go_ret
        exact ⟨ret_bool (by rw [hasR_at hkl (by rw [HK1.out, HK2.out]; exact HIN.out)]), rfl⟩
      all_goals
        have HIN : Hid (inB x lo hi = false) := by (unfold Hid; simp [inB]; omega)
        go_wp2
        go_round
        case rel => exact ⟨k + 1, by omega, by go_num, (fun q hq hqk => by rcases Nat.lt_succ_iff_lt_or_eq.1 hqk with h | rfl; exact HA.out q hq h; rw [HK1.out, HK2.out]; exact HIN.out)⟩
        case measure => simp [intOf]; omega
    · obtain rfl : k = n := by omega
      go_wp2
      go_ret
      exact ⟨ret_bool (by rw [hasR_none (fun q hq => HA.out q hq (by rw [← HN.out]; exact hq))]), rfl⟩
end Go.Proofs.Ytagfcfojfjkmbaa
