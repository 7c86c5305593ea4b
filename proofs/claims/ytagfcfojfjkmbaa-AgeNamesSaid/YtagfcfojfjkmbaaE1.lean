/- list, In, numbers. -/
import Derived.Test.YtagfcfojfjkmbaaPC
import Derived.Test.YtagfcfojfjkmbaaL0
namespace Go.Proofs.Ytagfcfojfjkmbaa
open Go.RowKit Go.Shelf

set_option maxHeartbeats 400000 in
theorem refIn_any (a b c : Int) (w : World) :
    Calls Try.prog 23 #[.int .i64 a, .int .i64 b, .int .i64 c] w fun e w' => e = .returned (.bool (inB a b c)) ∧ w = w' := by
  go_enter Try.func23, Try.ntmps23
  go_wp2
  all_goals go_ret
  all_goals (refine ⟨?_, rfl⟩; congr 2; simp [inB]; omega)

theorem Try.info3w : (Try.prog.info? 3).map (fun i => (i.zero, i.size, i.bytes)) = some (some (.int .i64 0), 1, 8) := by kernel_rfl

theorem IL.of_ints {w : World} {b off n : Nat} {z : Nat → Int} (h : ∀ j, j < n → w.cell? ⟨b, off + j, none⟩ = some (.int .i64 (z j))) : ∀ j u, (intsV ((List.range n).map z))[j]? = some u → w.cell? ((⟨b, off, none⟩ : Addr).add j) = some u := fun j u hu => by
  have hadd : (⟨b, off, none⟩ : Addr).add j = ⟨b, off + j, none⟩ := by unfold Addr.add; split <;> simp_all
  have hj : j < n := by have := (List.getElem?_eq_some_iff.1 hu).1; simpa [intsV] using this
  rw [hadd, h j hj]
  simp [intsV, hj] at hu
  rw [← hu]

set_option maxRecDepth 100000 in
set_option maxHeartbeats 2000000 in
theorem list_nil (w : World) : Calls Try.prog 22 #[.slice none 0 0] w fun e w' => e = .returned (.slice none 0 0) ∧ Below w.heap.size w w' := by
  go_enter Try.func22, Try.ntmps22
  go_wp2
  go_ret
  exact ⟨rfl, Below.refl _ _⟩

set_option maxRecDepth 100000 in
set_option maxHeartbeats 2000000 in
theorem list_some (b off n cap : Nat) (z : Nat → Int) (w : World) (hn : n ≤ 100000) (hz : ∀ j, j < n → w.cell? ⟨b, off + j, none⟩ = some (.int .i64 (z j))) :
    Calls Try.prog 22 #[.slice (some ⟨b, off, none⟩) n cap] w fun e w' => ∃ v, e = .returned v ∧ IL w' v ((List.range n).map z) ∧ Below w.heap.size w w' := by
  obtain ⟨i0, hi0, hz0, hz1, hz2⟩ := info_parts Try.info3w
  have HZ := Lib.hid hz; clear hz
  go_enter Try.func22, Try.ntmps22
  go_wp2_with (at_builtin; refine wpList_append_own _ rfl _ _ 22 rfl 0 3 i0 (.int .i64 0) 1 8 Try.underlying22 hi0 hz0 hz1 hz2 rfl (by decide) (.slice none 0 0) 0 [] rfl (World.ownsRow_nil _ _ _ _) ⟨b, off, none⟩ n cap (intsV ((List.range n).map z)) rfl ?len ?c1 ?c2 ?c3 ?c4 ?c5 ?_)
  case len => simp [intsV]
  case c1 => exact IL.of_ints HZ.out
  case c2 => intro u hu; simp [intsV] at hu; obtain ⟨x, _, rfl⟩ := hu; rfl
  case c3 => unfold maxLen; omega
  case c4 => omega
  case c5 => omega
  intro v' w1 h1 h2 _
  have HI : Hid (IL w1 v' ((List.range n).map z)) := by unfold Hid IL; simpa using h1
  have HB : Hid (Below w.heap.size w w1) := (Below.refl _ _).grown h2 (Nat.le_refl _) (fun k hk => by cases hk)
  clear h1 h2
  go_wp2
  go_ret
  exact ⟨v', rfl, HI.out, HB.out⟩

set_option maxRecDepth 100000 in
set_option maxHeartbeats 2000000 in
theorem list_zero (ad : Addr) (cap : Nat) (w : World) :
    Calls Try.prog 22 #[.slice (some ad) 0 cap] w fun e w' => ∃ v, e = .returned v ∧ IL w' v [] ∧ Below w.heap.size w w' := by
  obtain ⟨i0, hi0, hz0, hz1, hz2⟩ := info_parts Try.info3w
  go_enter Try.func22, Try.ntmps22
  go_wp2_with (at_builtin; refine wpList_append_own _ rfl _ _ 22 rfl 0 3 i0 (.int .i64 0) 1 8 Try.underlying22 hi0 hz0 hz1 hz2 rfl (by decide) (.slice none 0 0) 0 [] rfl (World.ownsRow_nil _ _ _ _) ad 0 cap [] rfl rfl ?c1 ?c2 ?c3 ?c4 ?c5 ?_)
  case c1 => intro j u hu; simp at hu
  case c2 => intro u hu; simp at hu
  case c3 => unfold maxLen; omega
  case c4 => omega
  case c5 => omega
  intro v' w1 h1 h2 _
  have HI : Hid (IL w1 v' []) := h1
  have HB : Hid (Below w.heap.size w w1) := (Below.refl _ _).grown h2 (Nat.le_refl _) (fun k hk => by cases hk)
  clear h1 h2
  go_wp2
  go_ret
  exact ⟨v', rfl, HI.out, HB.out⟩

theorem IntsIn.below {w w' : World} {sv : Value} {n : Nat} {z : Nat → Int} (h : IntsIn w sv n z) (hB : Below w.heap.size w w') : IntsIn w' sv n z := by
  rcases h with h | h | ⟨b, off, cap, rfl, hb, hz⟩
  · exact .inl h
  · exact .inr (.inl h)
  · exact .inr (.inr ⟨b, off, cap, rfl, Nat.lt_of_lt_of_le hb hB.size, fun j hj => by rw [hB.cell (p := ⟨b, off + j, none⟩) hb]; exact hz j hj⟩)
theorem IntsIn.len {w : World} {sv : Value} {n : Nat} {z : Nat → Int} (h : IntsIn w sv n z) : ∃ a cap, sv = .slice a n cap := by
  rcases h with ⟨rfl, rfl⟩ | ⟨a, cap, rfl, rfl⟩ | ⟨b, off, cap, rfl, _⟩
  · exact ⟨_, _, rfl⟩
  · exact ⟨_, _, rfl⟩
  · exact ⟨_, _, rfl⟩
theorem IntsIn.at {w : World} {a : Option Addr} {n cap : Nat} {z : Nat → Int} (h : IntsIn w (.slice a n cap) n z) {k : Nat} (hk : k < n) : ∃ b off, a = some ⟨b, off, none⟩ ∧ w.cell? ⟨b, off + k, none⟩ = some (.int .i64 (z k)) := by
  rcases h with ⟨_, h⟩ | ⟨_, _, _, h⟩ | ⟨b', o', c', e, hb, hz⟩
  · omega
  · omega
  · cases e; exact ⟨b', o', rfl, hz k hk⟩
theorem IntsAt.congr {w : World} {v : Value} {n : Nat} {x y : Nat → Int} (h : IntsAt w v n x) (he : ∀ j, j < n → x j = y j) : IntsAt w v n y := by
  rcases h with h | ⟨b, off, cap, rfl, hb, hz⟩
  · exact .inl h
  · exact .inr ⟨b, off, cap, rfl, hb, fun j hj => by rw [hz j hj, he j hj]⟩
def GivesL (w : World) (n : Nat) (z : Nat → Int) (e : Ending) (w' : World) : Prop := ∃ v, e = .returned v ∧ IntsAt w' v n z ∧ Below w.heap.size w w'
theorem list_any (sv : Value) (n : Nat) (z : Nat → Int) (w : World) (hz : IntsIn w sv n z) (hn : n ≤ 100000) : Calls Try.prog 22 #[sv] w (GivesL w n z) := by
  rcases hz with ⟨rfl, rfl⟩ | ⟨a, cap, rfl, rfl⟩ | ⟨b, off, cap, rfl, hb, hz⟩
  · refine (list_nil w).mono ?_
    rintro e w' ⟨rfl, hb⟩
    exact ⟨_, rfl, .inl ⟨rfl, rfl⟩, hb⟩
  · refine (list_zero a cap w).mono ?_
    rintro e w' ⟨v, rfl, h1, h2⟩
    exact ⟨v, rfl, h1.ints.congr (fun j hj => absurd hj (Nat.not_lt_zero _)), h2⟩
  · refine (list_some b off n cap z w hn hz).mono ?_
    rintro e w' ⟨v, rfl, h1, h2⟩
    have := h1.ints
    simp only [List.length_map, List.length_range] at this
    exact ⟨v, rfl, this.congr (fun j hj => by simp [hj]), h2⟩

set_option maxRecDepth 100000 in
set_option maxHeartbeats 2000000 in
theorem numbers_any (sv : Value) (n : Nat) (z : Nat → Int) (w : World) (hz : IntsIn w sv n z) (hn : n ≤ 100000) :
    Calls Try.prog 24 #[sv] w fun e w' => e = .returned (.bool (allB (fun j => inB (z j) 0 140) n)) ∧ w = w' := by
  obtain ⟨a, cap, rfl⟩ := hz.len
  have HZ := Lib.hid hz; clear hz
  go_enter Try.func24, Try.ntmps24
  go_wp2
  go_loop [3] (fun i => ∃ k : Nat, k ≤ n ∧ i = .int .i64 k ∧ ∀ q, q < k → inB (z q) 0 140 = true) (fun i => n - (intOf i).toNat)
  case atStart => exact ⟨0, Nat.zero_le _, rfl, fun q h => absurd h (Nat.not_lt_zero _)⟩
  case round =>
    obtain ⟨k, hk, rfl, hall⟩ := hrel
    have HA := Lib.hid hall; clear hall
    by_cases hlt : k < n
    · obtain ⟨b, off, rfl, hc⟩ := HZ.out.at hlt
      cases hin : inB (z k) 0 140
      · go_wp2_with (go_at_call 23; refine (refIn_any _ _ _ _).mono ?_; rintro e w' ⟨rfl, rfl⟩)
        go_ret
        exact ⟨ret_bool (by rw [allB_false hlt hin]), rfl⟩
      · go_wp2_with (go_at_call 23; refine (refIn_any _ _ _ _).mono ?_; rintro e w' ⟨rfl, rfl⟩)
        go_round
        case rel => exact ⟨k + 1, by omega, by go_num, fun q hq => by rcases Nat.lt_succ_iff_lt_or_eq.1 hq with h | rfl; exact HA.out q h; exact hin⟩
        case measure => simp [intOf]; omega
    · obtain rfl : k = n := by omega
      go_wp2
      go_ret
      exact ⟨ret_bool (by rw [allB_true HA.out]), rfl⟩

set_option maxRecDepth 100000 in
set_option maxHeartbeats 4000000 in
theorem ageHeaps_walk (sv : Value) (n : Nat) (z : Nat → Int) (base : Int) (w : World) (hz : IntsIn w sv n z) (hn : n ≤ maxLen) :
    Calls Try.prog 3 #[sv, .int .i64 base] w fun e w' => e = .returned (.bool true) ∧ Below w.heap.size w w' := by
  obtain ⟨a, cap, rfl⟩ := hz.len
  unfold maxLen at hn
  by_cases h220 : 220 < n
  · clear hz
    go_enter Try.func3, Try.ntmps3
    go_wp2_with (go_at_call 20; refine (awake_any _).mono ?_; rintro e w1 ⟨rfl, hb1⟩)
    go_ret
    exact ⟨rfl, hb1⟩
  · have hH := fun (v : Value) (W : World) (h : IntsAt W v n z) => heaping_any v n z base W h (by omega)
    have HZ := Lib.hid hz; have HH := Lib.hid hH; clear hz hH
    by_cases h200 : 200 < n
    · have hE : heapE z n base = 3 := by unfold heapE; rw [if_pos h200]
      have hR : heapR z n base = 0 := by unfold heapR; rw [hE]; rfl
      rw [hE, hR] at HH; clear hE hR
      go_enter Try.func3, Try.ntmps3
      go_wp2_with (first | (go_at_call 22; refine (list_any _ n z _ HZ.out (by omega)).mono ?_; rintro e w1 ⟨v1, rfl, hi1, hb1⟩; have HI1 := Lib.hid hi1; clear hi1) | (go_at_call 21; refine (HH.out _ _ HI1.out).mono ?_; rintro e w2 ⟨rfl, hb2⟩) | (go_at_call 20; refine (awake_any _).mono ?_; rintro e w3 ⟨rfl, hb3⟩))
      go_ret
      exact ⟨rfl, below_step (below_step hb1 hb2) hb3⟩
    cases hb : inB base 1 12
    · have hE : heapE z n base = 1 := by unfold heapE; rw [if_neg h200, if_pos hb]
      have hR : heapR z n base = 0 := by unfold heapR; rw [hE]; rfl
      rw [hE, hR] at HH; clear hE hR
      go_enter Try.func3, Try.ntmps3
      go_wp2_with (first | (go_at_call 22; refine (list_any _ n z _ HZ.out (by omega)).mono ?_; rintro e w1 ⟨v1, rfl, hi1, hb1⟩; have HI1 := Lib.hid hi1; clear hi1) | (go_at_call 21; refine (HH.out _ _ HI1.out).mono ?_; rintro e w2 ⟨rfl, hb2⟩; have HZ2 := Lib.hid (HZ.out.below (below_step hb1 hb2))) | (go_at_call 23; refine (refIn_any _ _ _ _).mono ?_; rintro e w' ⟨rfl, rfl⟩) | (go_at_call 24; refine (numbers_any _ n z _ HZ2.out (by omega)).mono ?_; rintro e w' ⟨rfl, rfl⟩) | (go_at_call 20; refine (awake_any _).mono ?_; rintro e w3 ⟨rfl, hb3⟩))
      go_ret
      exact ⟨rfl, below_step (below_step hb1 hb2) hb3⟩
    cases ha : allB (fun j => inB (z j) 0 140) n
    · have hE : heapE z n base = 2 := by unfold heapE; rw [if_neg h200, if_neg (by rw [hb]; decide), if_pos ha]
      have hR : heapR z n base = 0 := by unfold heapR; rw [hE]; rfl
      rw [hE, hR] at HH; clear hE hR
      go_enter Try.func3, Try.ntmps3
      go_wp2_with (first | (go_at_call 22; refine (list_any _ n z _ HZ.out (by omega)).mono ?_; rintro e w1 ⟨v1, rfl, hi1, hb1⟩; have HI1 := Lib.hid hi1; clear hi1) | (go_at_call 21; refine (HH.out _ _ HI1.out).mono ?_; rintro e w2 ⟨rfl, hb2⟩; have HZ2 := Lib.hid (HZ.out.below (below_step hb1 hb2))) | (go_at_call 23; refine (refIn_any _ _ _ _).mono ?_; rintro e w' ⟨rfl, rfl⟩) | (go_at_call 24; refine (numbers_any _ n z _ HZ2.out (by omega)).mono ?_; rintro e w' ⟨rfl, rfl⟩) | (go_at_call 20; refine (awake_any _).mono ?_; rintro e w3 ⟨rfl, hb3⟩))
      go_ret
      exact ⟨rfl, below_step (below_step hb1 hb2) hb3⟩
    by_cases h0 : n = 0
    · have hE : heapE z n base = 7 := by unfold heapE; rw [if_neg h200, if_neg (by rw [hb]; decide), if_neg (by rw [ha]; decide), if_pos h0]
      have hR : heapR z n base = 0 := by unfold heapR; rw [hE]; rfl
      rw [hE, hR] at HH; clear hE hR
      subst h0
      go_enter Try.func3, Try.ntmps3
      go_wp2_with (first | (go_at_call 22; refine (list_any _ 0 z _ HZ.out (by omega)).mono ?_; rintro e w1 ⟨v1, rfl, hi1, hb1⟩; have HI1 := Lib.hid hi1; clear hi1) | (go_at_call 21; refine (HH.out _ _ HI1.out).mono ?_; rintro e w2 ⟨rfl, hb2⟩; have HZ2 := Lib.hid (HZ.out.below (below_step hb1 hb2))) | (go_at_call 23; refine (refIn_any _ _ _ _).mono ?_; rintro e w' ⟨rfl, rfl⟩) | (go_at_call 24; refine (numbers_any _ 0 z _ HZ2.out (by omega)).mono ?_; rintro e w' ⟨rfl, rfl⟩) | (go_at_call 20; refine (awake_any _).mono ?_; rintro e w3 ⟨rfl, hb3⟩))
      go_ret
      exact ⟨rfl, below_step (below_step hb1 hb2) hb3⟩
    · have hE : heapE z n base = 0 := by unfold heapE; rw [if_neg h200, if_neg (by rw [hb]; decide), if_neg (by rw [ha]; decide), if_neg h0]
      have hR : heapR z n base = heapN z base n * base * 1000 / n := by unfold heapR; rw [hE, if_pos rfl]
      rw [hE, hR] at HH; clear hE hR
      have hbb : 1 ≤ base ∧ base ≤ 12 := by simpa [inB] using hb
      have hall : ∀ j, j < n → 0 ≤ z j ∧ z j ≤ 140 := by
        intro j hj
        simp only [allB, List.all_eq_true, List.mem_range] at ha
        simpa [inB] using ha j hj
      have HALL := Lib.hid hall; clear hall
      obtain ⟨hb1', hb2'⟩ := hbb
      have hnz : ((n : Int) == 0) = false := by simp; omega
      have hbz : (base == 0) = false := by simp; omega
      have hbm : (base == -1) = false := by simp; omega
      go_enter Try.func3, Try.ntmps3
      go_wp2_with (first | (go_at_call 22; refine (list_any _ n z _ HZ.out (by omega)).mono ?_; rintro e w1 ⟨v1, rfl, hi1, hb1⟩; have HI1 := Lib.hid hi1; clear hi1) | (go_at_call 21; refine (HH.out _ _ HI1.out).mono ?_; rintro e w2 ⟨rfl, hb2⟩; have HZ2 := Lib.hid (HZ.out.below (below_step hb1 hb2))) | (go_at_call 23; refine (refIn_any _ _ _ _).mono ?_; rintro e w' ⟨rfl, rfl⟩) | (go_at_call 24; refine (numbers_any _ n z _ HZ2.out (by omega)).mono ?_; rintro e w' ⟨rfl, rfl⟩) | (go_at_call 20; refine (awake_any _).mono ?_; rintro e w3 ⟨rfl, hb3⟩))
      go_loop [8, 9] (fun s i => ∃ k : Nat, k ≤ n ∧ i = .int .i64 k ∧ s = .int .i64 (heapN z base k)) (fun _ i => n - (intOf i).toNat)
      case atStart => exact ⟨0, Nat.zero_le _, rfl, rfl⟩
      case round =>
        obtain ⟨k, hk, rfl, rfl⟩ := hrel
        have hle := heapN_le z base k
        by_cases hlt : k < n
        · obtain ⟨b, off, rfl, hc⟩ := HZ2.out.at hlt
          obtain ⟨hz0, hz1⟩ := HALL.out k hlt
          cases hm : (z k % base == 0)
          all_goals
            go_wp2
            go_round
            case rel => exact ⟨k + 1, by omega, by go_num, by rw [heapN]; first | rw [if_pos (by simpa using hm)]; go_num | rw [if_neg (by simpa using hm)]⟩
            case measure => simp [intOf]; omega
        · obtain rfl : k = n := by omega
          have h1 : (heapN z base k : Int) * base ≤ 200 * 12 := Int.mul_le_mul (by omega) hb2' (by omega) (by omega)
          have h2 : 0 ≤ (heapN z base k : Int) * base := Int.mul_nonneg (by omega) (by omega)
          go_wp2_with (go_at_call 20; refine (awake_any _).mono ?_; rintro e w3 ⟨rfl, hb3⟩)
          go_ret
          exact ⟨rfl, below_step (below_step hb1 hb2) hb3⟩
end Go.Proofs.Ytagfcfojfjkmbaa
