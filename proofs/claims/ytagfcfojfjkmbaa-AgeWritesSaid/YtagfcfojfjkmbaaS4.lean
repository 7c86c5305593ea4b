/- AgeWrites: the walk. -/
import Derived.Test.YtagfcfojfjkmbaaS2
namespace Go.Proofs.Ytagfcfojfjkmbaa
open Go.RowKit Go.Shelf

def trE (f b m e n : Int) : Int := if okRule f b m e = false then 1 else if inB n 0 140 = false then 2 else 0
def trL (f b m e n : Int) : RL := if trE f b m e n = 0 then rngs (agesF f b m e n 126) 121 else []
theorem trueF_any (f b m e n : Int) (w : World) : Calls Try.prog 49 #[.agg #[.int .i64 f, .int .i64 b, .int .i64 m, .int .i64 e], .int .i64 n] w (GivesE w w.heap.size (trL f b m e n) (trE f b m e n)) := by
  cases hr : okRule f b m e
  · have hE : trE f b m e n = 1 := by unfold trE; rw [if_pos hr]
    have hL : trL f b m e n = [] := by unfold trL; rw [hE]; rfl
    rw [hE, hL]; exact true_bad f b m e n w hr
  · cases hn : inB n 0 140
    · have hE : trE f b m e n = 2 := by unfold trE; rw [if_neg (by rw [hr]; decide), if_pos hn]
      have hL : trL f b m e n = [] := by unfold trL; rw [hE]; rfl
      rw [hE, hL]; exact true_range f b m e n w hr hn
    · have hE : trE f b m e n = 0 := by unfold trE; rw [if_neg (by rw [hr]; decide), if_neg (by rw [hn]; decide)]
      have hL : trL f b m e n = rngs (agesF f b m e n 126) 121 := by unfold trL; rw [hE]; rfl
      rw [hE, hL]; exact true_ok f b m e n w hr hn
theorem upF_rngs {fl : Nat → Bool} {out : RL} (h : UpF fl 121 out) : out = rngs fl 121 := by
  obtain ⟨r1, _, r2⟩ := rngs_facts fl 121
  refine Nrm.ext h.1 r1 fun n => ?_
  rw [Bool.eq_iff_iff, h.2.1, r2]
  simp only [Bool.and_eq_true, decide_eq_true_eq]
  constructor
  · rintro ⟨x, y, z⟩; exact ⟨⟨x, y⟩, z⟩
  · rintro ⟨⟨x, y⟩, z⟩; exact ⟨x, y, z⟩
theorem age_cases (b d : Int) : (inB b (-50000) 50000 = false ∧ agE b d = 2 ∧ agR b d = 0) ∨ (inB b (-50000) 50000 = true ∧ inB d (-50000) 50000 = false ∧ agE b d = 2 ∧ agR b d = 0) ∨
    (inB b (-50000) 50000 = true ∧ inB d (-50000) 50000 = true ∧ ¬ b ≤ d ∧ agE b d = 2 ∧ agR b d = 0) ∨ (inB b (-50000) 50000 = true ∧ inB d (-50000) 50000 = true ∧ b ≤ d ∧ agE b d = 0 ∧ agR b d = (d - b) / 365) := by
  have hR : agE b d = 2 → agR b d = 0 := fun h => by unfold agR; rw [h]; rfl
  cases hb : inB b (-50000) 50000
  · have h : agE b d = 2 := by unfold agE; rw [if_neg (by rw [hb]; simp)]
    exact .inl ⟨rfl, h, hR h⟩
  · cases hd : inB d (-50000) 50000
    · have h : agE b d = 2 := by unfold agE; rw [if_neg (by rw [hd]; simp)]
      exact .inr (.inl ⟨rfl, rfl, h, hR h⟩)
    · by_cases hl : b ≤ d
      · have h : agE b d = 0 := by unfold agE; rw [if_pos ⟨hb, hd, hl⟩]
        exact .inr (.inr (.inr ⟨rfl, rfl, hl, h, by unfold agR; rw [if_pos h]⟩))
      · have h : agE b d = 2 := by unfold agE; rw [if_neg (by simp [hl])]
        exact .inr (.inr (.inl ⟨rfl, rfl, hl, h, hR h⟩))
theorem inB_of {n lo hi : Int} (h : inB n lo hi = true) : lo ≤ n ∧ n ≤ hi := by simpa [inB] using h

attribute [local go_sem ↓] Go.wp_at_zero Go.wp_at_succ
set_option maxRecDepth 100000 in
set_option maxHeartbeats 16000000 in
theorem ageWrites_walk (f b m e birth day known written : Int) (w : World) :
    Calls Try.prog 14 #[.agg #[.int .i64 f, .int .i64 b, .int .i64 m, .int .i64 e], .int .i64 birth, .int .i64 day, .int .i64 known, .int .i64 written] w fun r w' => r = .returned (.bool true) ∧ Below w.heap.size w w' := by
  have HAW := Lib.hid awake_any
  have HB0 : Hid (Below w.heap.size w (w.alloc (.cells #[.int .i64 f, .int .i64 b, .int .i64 m, .int .i64 e] 77))) := below_alloc _ _
  have HK0 : Hid ((w.alloc (.cells #[.int .i64 f, .int .i64 b, .int .i64 m, .int .i64 e] 77)).heap[w.heap.size]? = some (.cells #[.int .i64 f, .int .i64 b, .int .i64 m, .int .i64 e] 77 (0, 0))) := heap_alloc_new _ _
  go_enter Try.func14, Try.ntmps14
  go_wp2_with (go_at_call 52; refine (age_any _ _ _).mono ?_; rintro _ _ ⟨rfl, rfl⟩)
  refine (rule_any f b m e _).mono ?_
  rintro _ w1 ⟨rfl, hb1⟩
  have HB1 : Hid (Below w.heap.size w w1) := below_step HB0.out hb1
  have HK1 : Hid (w1.heap[w.heap.size]? = some (.cells #[.int .i64 f, .int .i64 b, .int .i64 m, .int .i64 e] 77 (0, 0))) := (hb1.block _ (by simp)).trans HK0.out
  have hs1 : w.heap.size < w1.heap.size := (Array.getElem?_eq_some_iff.1 HK1.out).1
  have HC : Hid (∀ X : World, Below w1.heap.size w1 X → X.cell? ⟨w.heap.size, 0, none⟩ = some (.int .i64 f) ∧ X.cell? ⟨w.heap.size, 1, none⟩ = some (.int .i64 b) ∧ X.cell? ⟨w.heap.size, 2, none⟩ = some (.int .i64 m) ∧ X.cell? ⟨w.heap.size, 3, none⟩ = some (.int .i64 e)) := fun X hX => cells4 ((hX.block _ hs1).trans HK1.out)
  clear hb1 HB0 HK0
  go_wp2_with fail
  refine (writeF_any f b m e known _).mono ?_
  rintro _ w2 ⟨rfl, hb2⟩
  have HB2 : Hid (Below w1.heap.size w1 w2) := hb2
  obtain ⟨d0, d1, d2, d3⟩ := HC.out w2 hb2
  clear hb2
  go_wp2_with fail
  refine (rule_any f b m e _).mono ?_
  rintro _ w3 ⟨rfl, hb3⟩
  have HB3 : Hid (Below w1.heap.size w1 w3) := below_step HB2.out hb3
  clear hb3 d0 d1 d2 d3
  go_wp2_with fail
  refine (trueF_any f b m e written _).mono ?_
  rintro _ w4 ⟨v4, rfl, hr4, hb4⟩
  have HB4 : Hid (Below w1.heap.size w1 w4) := below_step HB3.out hb4
  have HR4 := Lib.hid hr4.rg
  obtain ⟨a4, c4, rfl⟩ := HR4.out.slice
  clear hr4 hb4
  have hbd1 := inB_of (n := birth) (lo := -50000) (hi := 50000)
  have hbd2 := inB_of (n := day) (lo := -50000) (hi := 50000)
  have hself : ((day - birth) / 365 != (day - birth) / 365) = false := by simp
  rcases age_cases birth day with ⟨g1, gE, gR⟩ | ⟨g1, g2, gE, gR⟩ | ⟨g1, g2, g3, gE, gR⟩ | ⟨g1, g2, g3, gE, gR⟩
  all_goals
    (try have hbb1 := hbd1 g1)
    (try have hbb2 := hbd2 g2)
    clear hbd1 hbd2
    rw [gE, gR]
    clear gE gR
    obtain ⟨d0, d1, d2, d3⟩ := HC.out w4 HB4.out
    go_wp2_with (go_at_call 29; refine (isDayR_any _ _).mono ?_; rintro _ _ ⟨rfl, rfl⟩)
    refine (isRule_any f b m e _).mono ?_
    rintro _ w5 ⟨rfl, hb5⟩
    have HB5 : Hid (Below w1.heap.size w1 w5) := below_step HB4.out hb5
    have HR5 := Lib.hid (HR4.out.kept hb5)
    clear hb5 d0 d1 d2 d3 HR4 g1 hself
    (try clear g2)
    (try clear g3)
    (try clear hbb1)
    (try clear hbb2)
    cases hr : okRule f b m e
    · have w1e : wrE f b m e known = 1 := by unfold wrE; rw [if_pos hr]
      have w2e : wrR f b m e known = 0 := by unfold wrR; rw [w1e]; rfl
      have w3e : trE f b m e written = 1 := by unfold trE; rw [if_pos hr]
      have w4e : trL f b m e written = [] := by unfold trL; rw [w3e]; rfl
      rw [w1e, w2e, w3e, w4e]
      simp only [List.length_nil]
      clear w1e w2e w3e w4e
      go_wp2_with (go_at_call 20; refine (HAW.out _).mono ?_; rintro _ w12 ⟨rfl, hb12⟩)
      go_ret
      exact ⟨rfl, below_step (below_step HB1.out HB5.out) hb12⟩
    obtain ⟨d0, d1, d2, d3⟩ := HC.out w5 HB5.out
    cases hk : inB known 0 125
    · have w1e : wrE f b m e known = 2 := by unfold wrE; rw [if_neg (by rw [hr]; decide), if_pos hk]
      have w2e : wrR f b m e known = 0 := by unfold wrR; rw [w1e]; rfl
      rw [w1e, w2e]
      clear w1e w2e
      cases hw : inB written 0 140
      · have w3e : trE f b m e written = 2 := by unfold trE; rw [if_neg (by rw [hr]; decide), if_pos hw]
        have w4e : trL f b m e written = [] := by unfold trL; rw [w3e]; rfl
        rw [w3e, w4e]
        simp only [List.length_nil]
        clear w3e w4e
        go_wp2_with (first | (go_at_call 23; refine (refIn_any _ _ _ _).mono ?_; rintro _ _ ⟨rfl, rfl⟩) | (go_at_call 20; refine (HAW.out _).mono ?_; rintro _ w12 ⟨rfl, hb12⟩))
        go_ret
        exact ⟨rfl, below_step (below_step HB1.out HB5.out) hb12⟩
      go_wp2_with (go_at_call 23; refine (refIn_any _ _ _ _).mono ?_; rintro _ _ ⟨rfl, rfl⟩)
      clear d0 d1 d2 d3
      have HB6 : Hid (Below w1.heap.size w1 w5) := HB5.out
      have HR6 := Lib.hid HR5.out
      obtain ⟨w6, hw6⟩ : ∃ w6 : World, w6 = w5 := ⟨_, rfl⟩
      subst hw6
      clear hk
      have w3e : trE f b m e written = 0 := by unfold trE; rw [if_neg (by rw [hr]; decide), if_neg (by rw [hw]; decide)]
      have w4e : trL f b m e written = rngs (agesF f b m e written 126) 121 := by unfold trL; rw [w3e]; rfl
      rw [w3e]
      rw [w4e] at HR6
      rw [w4e]
      clear w3e w4e hw
      refine (refTrue_any f b m e written _ hr).mono ?_
      rintro _ w7 ⟨rfl, hb7⟩
      have HB7 : Hid (Below w1.heap.size w1 w7) := below_step HB6.out hb7
      have HR7 := Lib.hid (HR6.out.kept hb7)
      have hlr := rngs_length (agesF f b m e written 126) 121
      clear hb7 hr HR6 HR5
      generalize agesF f b m e written 126 = fl at *
      have hs7 : w1.heap.size ≤ w7.heap.size := HB7.out.size
      have HZ0 : Hid ((w7.alloc (.cells Try.zeroCells94 94)).heap[w7.heap.size]? = some (.cells (flagsA fun _ => false) 94 (0, 0))) := by rw [← flagsR_zero]; exact heap_alloc_new _ _
      have HS : Hid (Option.map (fun x => x.size) (Try.prog.info? 94) = some (flagsA fl).size) := by unfold Hid; rw [flagsA_size]; kernel_rfl
      have HZ : Hid ((flagsA fl).size = (flagsA fun _ => false).size) := by unfold Hid; rw [flagsA_size, flagsA_size]
      go_wp2_with (with_reducible refine wpList_store_row (o := ⟨none, .store 94 (.tmp 18) (.tmp 120), _, _, _, _⟩) rfl 94 (.tmp 18) (.tmp 120) rfl w7.heap.size (flagsA fl) ?_ ?_ 94 (flagsA fun _ => false) HZ0.out HS.out HZ.out.symm (flagsA_one _) ?_)
      · rfl
      · rfl
      have HK8 : Hid (((w7.alloc (.cells Try.zeroCells94 94)).setRow w7.heap.size (flagsA fl)).heap[w7.heap.size]? = some (.cells (flagsA fl) 94 (0, 0))) := setRow_heap _ _ _ _ _ _ HZ0.out
      have HB8 : Hid (Below w7.heap.size w7 ((w7.alloc (.cells Try.zeroCells94 94)).setRow w7.heap.size (flagsA fl))) := (below_alloc _ _).trans ⟨rfl, rfl, rfl, by simp, fun q hq => setRow_other _ _ _ _ (by omega)⟩
      have hs8 : w7.heap.size < ((w7.alloc (.cells Try.zeroCells94 94)).setRow w7.heap.size (flagsA fl)).heap.size := (Array.getElem?_eq_some_iff.1 HK8.out).1
      clear HZ0 HS HZ
      generalize ((w7.alloc (.cells Try.zeroCells94 94)).setRow w7.heap.size (flagsA fl)) = w8 at *
      go_loopw [17, 19] (fun v i wr => ∃ a : Nat, a ≤ 121 ∧ i = .int .i64 a ∧ ∃ out : RL, UpF fl a out ∧ RgAt wr v out ∧ Below w8.heap.size w8 wr) (fun _ i _ => 121 - (intOf i).toNat)
      case atStart => exact ⟨0, Nat.zero_le _, rfl, [], ⟨Nrm.nil, fun n => by simp [hasR]; omega, Nat.le_refl _⟩, .inl ⟨rfl, _, _, rfl⟩, Below.refl _ _⟩
      case round =>
        obtain ⟨a, ha, rfl, out, hup, hrg, hb2⟩ := hrel
        obtain ⟨oa, oc, rfl⟩ := hrg.slice
        have HUP := Lib.hid hup; have HRG := Lib.hid hrg; have HBX := Lib.hid hb2
        have hblk : wr.heap[w7.heap.size]? = some (.cells (flagsA fl) 94 (0, 0)) := (hb2.block _ hs8).trans HK8.out
        have holen := hup.2.2
        clear hup hrg hb2
        by_cases hal : a < 121
        · have hcell : wr.cell? ⟨w7.heap.size, a, none⟩ = some (.bool (fl a)) := by
            rw [cell_of_row _ _ _ _ _ _ hblk]; exact flagsA_get fl _ hal
          clear hblk
          have ki : (0 : Int) ≤ (a : Int) := by omega
          have kj : (a : Int) < 121 := by omega
          cases hfa : fl a
          · rw [hfa] at hcell
            go_wp2
            go_roundw
            case rel => exact ⟨a + 1, by omega, by go_num, out, HUP.out.skip hfa, HRG.out, HBX.out⟩
            case measure => simp [intOf]; omega
          · rw [hfa] at hcell
            go_wp2_with (go_at_call 55; refine (with_any _ out a _ HRG.out (by omega) (fun r hr => (HUP.out.low r hr).2) (by omega)).mono ?_; rintro _ wv ⟨v1, rfl, hr1, hb1⟩)
            go_roundw
            case rel => exact ⟨a + 1, by omega, by go_num, _, HUP.out.next hfa, hr1, below_step HBX.out hb1⟩
            case measure => simp [intOf]; omega
        · obtain rfl : a = 121 := by omega
          have HE : Hid (out = rngs fl 121) := upF_rngs HUP.out
          have HB78 : Hid (Below w7.heap.size w7 wr) := below_step HB8.out HBX.out
          have HRS : Hid (Calls Try.prog 32 #[.slice a4 (rngs fl 121).length c4, .slice oa out.length oc] wr fun e w' => e = .returned (.bool true) ∧ Below wr.heap.size wr w') := by
            have hg := HRG.out
            rw [HE.out] at hg ⊢
            exact ranges_same _ _ (rngs fl 121) wr (HR7.out.kept HB78.out) hg (by omega)
          clear hblk
          go_wp2_with (first | (go_at_call 32; refine HRS.out.mono ?_; rintro _ w11 ⟨rfl, hb11⟩) | (go_at_call 20; refine (HAW.out _).mono ?_; rintro _ w12 ⟨rfl, hb12⟩))
          go_ret
          exact ⟨rfl, below_step (below_step (below_step (below_step HB1.out HB7.out) HB78.out) hb11) hb12⟩
    · have w1e : wrE f b m e known = 0 := by unfold wrE; rw [if_neg (by rw [hr]; decide), if_neg (by rw [hk]; decide)]
      have w2e : wrR f b m e known = wrt f b m known := by unfold wrR; rw [w1e]; rfl
      have hkk := inB_of hk
      rw [w1e, w2e]
      have hself : (wrt f b m known != wrt f b m known) = false := by simp
      clear w1e w2e
      go_wp2_with (go_at_call 23; refine (refIn_any _ _ _ _).mono ?_; rintro _ _ ⟨rfl, rfl⟩)
      refine (refWrite_any f b m e known _ hr hkk.1 hkk.2).mono ?_
      rintro _ w6 ⟨rfl, hb6⟩
      have HB6 : Hid (Below w1.heap.size w1 w6) := below_step HB5.out hb6
      have HR6 := Lib.hid (HR5.out.kept hb6)
      clear d0 d1 d2 d3 hb6 hkk hk
      obtain ⟨d0, d1, d2, d3⟩ := HC.out w6 HB6.out
      cases hw : inB written 0 140
      · have w3e : trE f b m e written = 2 := by unfold trE; rw [if_neg (by rw [hr]; decide), if_pos hw]
        have w4e : trL f b m e written = [] := by unfold trL; rw [w3e]; rfl
        rw [w3e, w4e]
        simp only [List.length_nil]
        clear w3e w4e
        go_wp2_with (first | (go_at_call 23; refine (refIn_any _ _ _ _).mono ?_; rintro _ _ ⟨rfl, rfl⟩) | (go_at_call 20; refine (HAW.out _).mono ?_; rintro _ w12 ⟨rfl, hb12⟩))
        go_ret
        exact ⟨rfl, below_step (below_step HB1.out HB6.out) hb12⟩
      go_wp2_with (go_at_call 23; refine (refIn_any _ _ _ _).mono ?_; rintro _ _ ⟨rfl, rfl⟩)
      clear d0 d1 d2 d3 hself
      have w3e : trE f b m e written = 0 := by unfold trE; rw [if_neg (by rw [hr]; decide), if_neg (by rw [hw]; decide)]
      have w4e : trL f b m e written = rngs (agesF f b m e written 126) 121 := by unfold trL; rw [w3e]; rfl
      rw [w3e]
      rw [w4e] at HR6
      rw [w4e]
      clear w3e w4e hw
      refine (refTrue_any f b m e written _ hr).mono ?_
      rintro _ w7 ⟨rfl, hb7⟩
      have HB7 : Hid (Below w1.heap.size w1 w7) := below_step HB6.out hb7
      have HR7 := Lib.hid (HR6.out.kept hb7)
      have hlr := rngs_length (agesF f b m e written 126) 121
      clear hb7 hr HR6 HR5
      generalize agesF f b m e written 126 = fl at *
      have hs7 : w1.heap.size ≤ w7.heap.size := HB7.out.size
      have HZ0 : Hid ((w7.alloc (.cells Try.zeroCells94 94)).heap[w7.heap.size]? = some (.cells (flagsA fun _ => false) 94 (0, 0))) := by rw [← flagsR_zero]; exact heap_alloc_new _ _
      have HS : Hid (Option.map (fun x => x.size) (Try.prog.info? 94) = some (flagsA fl).size) := by unfold Hid; rw [flagsA_size]; kernel_rfl
      have HZ : Hid ((flagsA fl).size = (flagsA fun _ => false).size) := by unfold Hid; rw [flagsA_size, flagsA_size]
      go_wp2_with (with_reducible refine wpList_store_row (o := ⟨none, .store 94 (.tmp 18) (.tmp 120), _, _, _, _⟩) rfl 94 (.tmp 18) (.tmp 120) rfl w7.heap.size (flagsA fl) ?_ ?_ 94 (flagsA fun _ => false) HZ0.out HS.out HZ.out.symm (flagsA_one _) ?_)
      · rfl
      · rfl
      have HK8 : Hid (((w7.alloc (.cells Try.zeroCells94 94)).setRow w7.heap.size (flagsA fl)).heap[w7.heap.size]? = some (.cells (flagsA fl) 94 (0, 0))) := setRow_heap _ _ _ _ _ _ HZ0.out
      have HB8 : Hid (Below w7.heap.size w7 ((w7.alloc (.cells Try.zeroCells94 94)).setRow w7.heap.size (flagsA fl))) := (below_alloc _ _).trans ⟨rfl, rfl, rfl, by simp, fun q hq => setRow_other _ _ _ _ (by omega)⟩
      have hs8 : w7.heap.size < ((w7.alloc (.cells Try.zeroCells94 94)).setRow w7.heap.size (flagsA fl)).heap.size := (Array.getElem?_eq_some_iff.1 HK8.out).1
      clear HZ0 HS HZ
      generalize ((w7.alloc (.cells Try.zeroCells94 94)).setRow w7.heap.size (flagsA fl)) = w8 at *
      go_loopw [17, 19] (fun v i wr => ∃ a : Nat, a ≤ 121 ∧ i = .int .i64 a ∧ ∃ out : RL, UpF fl a out ∧ RgAt wr v out ∧ Below w8.heap.size w8 wr) (fun _ i _ => 121 - (intOf i).toNat)
      case atStart => exact ⟨0, Nat.zero_le _, rfl, [], ⟨Nrm.nil, fun n => by simp [hasR]; omega, Nat.le_refl _⟩, .inl ⟨rfl, _, _, rfl⟩, Below.refl _ _⟩
      case round =>
        obtain ⟨a, ha, rfl, out, hup, hrg, hb2⟩ := hrel
        obtain ⟨oa, oc, rfl⟩ := hrg.slice
        have HUP := Lib.hid hup; have HRG := Lib.hid hrg; have HBX := Lib.hid hb2
        have hblk : wr.heap[w7.heap.size]? = some (.cells (flagsA fl) 94 (0, 0)) := (hb2.block _ hs8).trans HK8.out
        have holen := hup.2.2
        clear hup hrg hb2
        by_cases hal : a < 121
        · have hcell : wr.cell? ⟨w7.heap.size, a, none⟩ = some (.bool (fl a)) := by
            rw [cell_of_row _ _ _ _ _ _ hblk]; exact flagsA_get fl _ hal
          clear hblk
          have ki : (0 : Int) ≤ (a : Int) := by omega
          have kj : (a : Int) < 121 := by omega
          cases hfa : fl a
          · rw [hfa] at hcell
            go_wp2
            go_roundw
            case rel => exact ⟨a + 1, by omega, by go_num, out, HUP.out.skip hfa, HRG.out, HBX.out⟩
            case measure => simp [intOf]; omega
          · rw [hfa] at hcell
            go_wp2_with (go_at_call 55; refine (with_any _ out a _ HRG.out (by omega) (fun r hr => (HUP.out.low r hr).2) (by omega)).mono ?_; rintro _ wv ⟨v1, rfl, hr1, hb1⟩)
            go_roundw
            case rel => exact ⟨a + 1, by omega, by go_num, _, HUP.out.next hfa, hr1, below_step HBX.out hb1⟩
            case measure => simp [intOf]; omega
        · obtain rfl : a = 121 := by omega
          have HE : Hid (out = rngs fl 121) := upF_rngs HUP.out
          have HB78 : Hid (Below w7.heap.size w7 wr) := below_step HB8.out HBX.out
          have HRS : Hid (Calls Try.prog 32 #[.slice a4 (rngs fl 121).length c4, .slice oa out.length oc] wr fun e w' => e = .returned (.bool true) ∧ Below wr.heap.size wr w') := by
            have hg := HRG.out
            rw [HE.out] at hg ⊢
            exact ranges_same _ _ (rngs fl 121) wr (HR7.out.kept HB78.out) hg (by omega)
          clear hblk
          go_wp2_with (first | (go_at_call 32; refine HRS.out.mono ?_; rintro _ w11 ⟨rfl, hb11⟩) | (go_at_call 20; refine (HAW.out _).mono ?_; rintro _ w12 ⟨rfl, hb12⟩))
          go_ret
          exact ⟨rfl, below_step (below_step (below_step (below_step HB1.out HB7.out) HB78.out) hb11) hb12⟩
end Go.Proofs.Ytagfcfojfjkmbaa
