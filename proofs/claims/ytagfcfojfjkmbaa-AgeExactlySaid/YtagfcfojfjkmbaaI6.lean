/- AgeExactly: the walk. -/
import Derived.Test.YtagfcfojfjkmbaaI5
namespace Go.Proofs.Ytagfcfojfjkmbaa
open Go.RowKit Go.Shelf

theorem touch {l : RL} (h : Nrm l) {k : Nat} (h1 : k < l.length) (h0 : 0 < k) : (l[k - 1]'(by omega)).2 + 2 ≤ l[k].1 := by
  have := List.pairwise_iff_getElem.1 h.1 (k - 1) k (by omega) h1 (by omega)
  exact this
/-- A record that allows a day: the age on that day is among the true ages. -/
theorem okB_true {p : Pers} {j : Nat} {b : Int} (h : p.okB j b = true) : b ≤ (p.C j).day ∧ hasR (rngs (agesF (p.rl j).f (p.rl j).b (p.rl j).m (p.rl j).e (p.C j).num 126) 121) (((p.C j).day - b) / 365) = true := by
  unfold Pers.okB at h
  simp only [Bool.and_eq_true, decide_eq_true_eq] at h
  obtain ⟨⟨h1, h2⟩, h3⟩ := h
  refine ⟨h1, ?_⟩
  rw [(rngs_facts _ _).2.2]
  simp only [Bool.and_eq_true, decide_eq_true_eq]
  exact ⟨⟨by omega, by omega⟩, h3⟩

attribute [local go_sem ↓] Go.wp_at_zero Go.wp_at_succ
set_option maxRecDepth 100000 in
set_option maxHeartbeats 8000000 in
theorem ageExactly_walk (v : Value) (p : Pers) (birth near : Int) (w : World) (h : PersIn w v p) (hb0 : -9223372036854775808 ≤ birth) (hb1 : birth ≤ 9223372036854775807) (hn0 : 0 ≤ near) (hn1 : near ≤ 255) :
    Calls Try.prog 13 #[v, .int .i64 birth, .int .u8 near] w fun e w' => e = .returned (.bool true) ∧ Below w.heap.size w w' := by
  have HP := Lib.hid h
  have HAW := Lib.hid awake_any
  have HBB := Lib.hid (And.intro hb0 hb1); clear hb0 hb1
  obtain ⟨rv, cv, rfl, h1, h2⟩ := h
  obtain ⟨ra, rc, rfl⟩ := h1.slice
  obtain ⟨ca, cc, rfl⟩ := h2.slice
  have HR := Lib.hid h1
  have HC := Lib.hid h2; clear h1 h2
  have HB0 : Hid (Below w.heap.size w (w.alloc (.cells #[.int .i64 p.lo, .int .i64 p.hi, .slice ra p.nr rc, .slice ca p.nc cc] 36))) := below_alloc _ _
  have HK0 : Hid ((w.alloc (.cells #[.int .i64 p.lo, .int .i64 p.hi, .slice ra p.nr rc, .slice ca p.nc cc] 36)).heap[w.heap.size]? = some (.cells #[.int .i64 p.lo, .int .i64 p.hi, .slice ra p.nr rc, .slice ca p.nc cc] 36 (0, 0))) := heap_alloc_new _ _
  cases hp : (p.fault == 0)
  · go_enter Try.func13, Try.ntmps13
    go_wp2_with (first | (go_at_call 36; refine (ready_any _ p _ (HP.out.below HB0.out)).mono ?_; rintro _ w1 ⟨rfl, hb1⟩) | (go_at_call 20; refine (HAW.out _).mono ?_; rintro _ w3 ⟨rfl, hb3⟩))
    go_ret
    exact ⟨rfl, below_step (below_step HB0.out hb1) hb3⟩
  have hpf : p.fault = 0 := by simpa using hp
  obtain ⟨pn1, pn2, pn3, pl1, pl2, pl3, pl4, pl5, pR, pOK⟩ := Pers.ok_facts hpf
  have HPF := Lib.hid hpf; have POK := Lib.hid pOK; have PR := Lib.hid pR; clear hpf pOK pR
  go_enter Try.func13, Try.ntmps13
  go_wp2_with fail
  refine (ready_any _ p _ (HP.out.below HB0.out)).mono ?_
  rintro _ w1 ⟨rfl, hb1⟩
  have HK1 : Hid (w1.heap[w.heap.size]? = some (.cells #[.int .i64 p.lo, .int .i64 p.hi, .slice ra p.nr rc, .slice ca p.nc cc] 36 (0, 0))) := (hb1.block _ (by simp)).trans HK0.out
  have hs1 : w.heap.size < w1.heap.size := (Array.getElem?_eq_some_iff.1 HK1.out).1
  have HB1 : Hid (Below w.heap.size w w1) := below_step HB0.out hb1
  obtain ⟨d0, d1, d2, d3⟩ := cells4 HK1.out
  clear hb1 HB0 HK0
  go_wp2_with fail
  refine (person_any _ p _ (HP.out.below HB1.out) (by omega) (by omega)).mono ?_
  rintro _ w2 ⟨u2, rfl, hu2, hb2⟩
  have HU2 := Lib.hid hu2
  go_wp2_with fail
  refine (Births_any _ p _ HU2.out (by omega) (by omega)).mono ?_
  rintro _ w3 ⟨v3, rfl, hr3, hb3⟩
  have HB13 : Hid (Below w1.heap.size w1 w3) := below_step hb2 hb3
  have HB3 : Hid (Below w.heap.size w w3) := below_step HB1.out HB13.out
  have HK3 : Hid (w3.heap[w.heap.size]? = some (.cells #[.int .i64 p.lo, .int .i64 p.hi, .slice ra p.nr rc, .slice ca p.nc cc] 36 (0, 0))) := (HB13.out.block _ hs1).trans HK1.out
  have hs3 : w.heap.size < w3.heap.size := (Array.getElem?_eq_some_iff.1 HK3.out).1
  have hl1 := born_length p
  have HL := Lib.hid (show ∀ r ∈ p.born, -50000 ≤ r.1 ∧ r.1 ≤ r.2 ∧ r.2 ≤ 50000 from born_in p)
  have HBH := Lib.hid (born_has HPF.out)
  have HE : Hid (p.bErr = if p.born = [] then 9 else 0) := bErr_of HPF.out
  obtain ⟨a3, c3, rfl⟩ := hr3.slice
  have HG := Lib.hid hr3.rg
  have HPC := Lib.hid (HP.out.below HB3.out)
  have HPRV := Lib.hid (fun (u : Value) (x : Int) (W : World) (h : PersAt W u p) => prove_any u p x W h (by omega) (by omega))
  rw [HE.out]
  generalize hl : p.born = l at *
  clear hu2 hb2 hb3 hr3 HK1 HU2 HB13 hl HP d0 d1 d2 d3
  obtain ⟨d0, d1, d2, d3⟩ := cells4 HK3.out
  by_cases hn : l = []
  · subst hn
    rw [if_pos rfl]
    have HN : Hid (hasR [] birth = false) := rfl
    go_wp2_with fail
    refine (person_any _ p _ HPC.out (by omega) (by omega)).mono ?_
    rintro _ w4 ⟨u4, rfl, hu4, hb4⟩
    have HU4 := Lib.hid hu4; clear hu4
    go_wp2_with fail
    refine (HPRV.out _ _ _ HU4.out).mono ?_
    rintro _ w5 ⟨rfl, hb5⟩
    rw [HN.out]
    go_wp2_with (go_at_call 20; refine (HAW.out _).mono ?_; rintro _ w12 ⟨rfl, hb12⟩)
    go_ret
    exact ⟨rfl, below_step (below_step (below_step HB3.out hb4) hb5) hb12⟩
  rw [if_neg hn]
  have hlp : 0 < l.length := List.length_pos_iff.2 hn
  have hlz : ((l.length : Int) == 0) = false := by simp; omega
  clear hn
  go_wp2_with fail
  go_loopw [9] (fun i wr => ∃ k : Nat, k ≤ l.length ∧ i = .int .i64 k ∧ Below w3.heap.size w3 wr) (fun i _ => l.length - (intOf i).toNat)
  case atStart => exact ⟨0, Nat.zero_le _, rfl, Below.refl _ _⟩
  case round =>
    obtain ⟨k, hk, rfl, hbl⟩ := hrel
    have HBL := Lib.hid hbl; clear hbl d0 d1 d2 d3
    by_cases hlt : k < l.length
    · obtain ⟨gb, ob, rfl, x0, x1⟩ := (HG.out.kept HBL.out).get hlt
      obtain ⟨lb1, lb2, lb3⟩ := HL.out _ (List.getElem_mem hlt)
      have ki : (0 : Int) ≤ (k : Int) := by omega
      have kj : (k : Int) < (l.length : Int) := by omega
      have hgt : decide ((l[k]).2 < (l[k]).1) = false := by simp; omega
      by_cases hk0 : 0 < k
      · obtain ⟨_, _, e, y0, y1⟩ := (HG.out.kept HBL.out).get (k := k - 1) (by omega)
        cases e
        obtain ⟨lc1, lc2, lc3⟩ := HL.out _ (List.getElem_mem (show k - 1 < l.length by omega))
        have htch := touch HBH.out.1 hlt hk0
        have k1 : ((k : Int) - 1) = ((k - 1 : Nat) : Int) := by omega
        obtain ⟨j, rfl⟩ : ∃ j, k = j + 1 := ⟨k - 1, by omega⟩
        simp only [Nat.add_sub_cancel] at y0 y1 htch lc1 lc2 lc3
        generalize (l[j + 1]).1 = lo at *
        generalize (l[j + 1]).2 = hi at *
        generalize (l[j]'_).1 = lo' at *
        generalize (l[j]'_).2 = hi' at *
        have hd : decide (lo < hi' + 2) = false := decide_eq_false (by omega)
        have hd0 : decide ((0 : Int) < ((j : Int) + 1)) = true := decide_eq_true (by omega)
        go_wp2
        go_quiet (fail)
        go_wp2
        go_roundw
        case rel => exact ⟨j + 1 + 1, by omega, by go_num, HBL.out.trans (below_drewS _ _ _)⟩
        case measure => simp [intOf]; omega
      · obtain rfl : k = 0 := by omega
        have hd0 : decide ((0 : Int) < 0) = false := by simp
        simp only [Nat.zero_mul, Nat.add_zero] at x0 x1
        generalize (l[0]).1 = lo at *
        generalize (l[0]).2 = hi at *
        go_wp2
        go_quiet (fail)
        go_wp2
        go_roundw
        case rel => exact ⟨1, by omega, by go_num, HBL.out.trans (below_drewS _ _ _)⟩
        case measure => simp [intOf]; omega
    · obtain rfl : k = l.length := by omega
      clear hlz hk hlt
      obtain ⟨q, hq, hql⟩ : ∃ q : Nat, near % (l.length : Int) = (q : Int) ∧ q < l.length := by
        have h1 := Int.emod_nonneg near (show (l.length : Int) ≠ 0 by omega)
        have h2 := Int.emod_lt_of_pos near (show (0 : Int) < (l.length : Int) by omega)
        exact ⟨(near % (l.length : Int)).toNat, by omega, by omega⟩
      obtain ⟨gb, ob, rfl, x0, x1⟩ := (HG.out.kept HBL.out).get hql
      obtain ⟨lb1, lb2, lb3⟩ := HL.out _ (List.getElem_mem hql)
      have ki : (0 : Int) ≤ (q : Int) := by omega
      have kj : (q : Int) < (l.length : Int) := by omega
      have hnz : ((l.length : Int) == 0) = false := beq_eq_false_iff_ne.2 (by omega)
      have hnm : ((l.length : Int) == -1) = false := beq_eq_false_iff_ne.2 (by omega)
      generalize (l[q]).1 = lo at *
      generalize (l[q]).2 = hi at *
      obtain ⟨d0, d1, d2, d3⟩ := cells4 ((HBL.out.block _ hs3).trans HK3.out)
      go_wp2_with fail
      have hm0 : ¬ hi - lo + 1 = 0 := by omega
      have hm1 : ¬ hi - lo + 1 = -1 := by omega
      have hr0 := Int.emod_nonneg near hm0
      have hr1 := Int.emod_lt_of_pos near (show 0 < hi - lo + 1 by omega)
      have w0 : near.tmod (hi - lo + 1) = near % (hi - lo + 1) := Int.tmod_eq_emod_of_nonneg hn0
      have w7e : IntKind.i64.wrap near = near := IntWalk.i64_in _ (by omega)
      have w1e : IntKind.i64.wrap (lo - 1) = lo - 1 := IntWalk.i64_in _ (by omega)
      have w2e : IntKind.i64.wrap (hi + 1) = hi + 1 := IntWalk.i64_in _ (by omega)
      have w3e : IntKind.i64.wrap (hi - lo) = hi - lo := IntWalk.i64_in _ (by omega)
      have w4e : IntKind.i64.wrap (hi - lo + 1) = hi - lo + 1 := IntWalk.i64_in _ (by omega)
      have w5e : IntKind.i64.wrap (near % (hi - lo + 1)) = near % (hi - lo + 1) := IntWalk.i64_in _ (by omega)
      have w6e : IntKind.i64.wrap (lo + near % (hi - lo + 1)) = lo + near % (hi - lo + 1) := IntWalk.i64_in _ (by omega)
      go_region_held3 (fun X => X.cell? ⟨wr.heap.size, 0, none⟩ = some (.int .i64 lo) ∧ X.cell? ⟨wr.heap.size, 1, none⟩ = some (.int .i64 hi))
        (first | exact ⟨cell_of_row _ _ 0 _ _ _ (heap_alloc_new wr _), cell_of_row _ _ 1 _ _ _ (heap_alloc_new wr _)⟩ | go_keep)
        (fail)
      clear w0 w1e w2e w3e w4e w5e w6e w7e
      go_wp2_with fail
      have HB35 : Hid (Below w3.heap.size w3 (((wr.alloc (.cells #[.int .i64 lo, .int .i64 hi] 41)).alloc (.cells #[.int .i64 birth, .int .i64 lo, .int .i64 hi, .int .i64 (lo - 1), .int .i64 (hi + 1), .int .i64 (lo + near % (hi - lo + 1))] 3)).drew)) := HBL.out.trans ((((below_alloc wr (.cells #[.int .i64 lo, .int .i64 hi] 41)).alloc (by simp) (.cells #[.int .i64 birth, .int .i64 lo, .int .i64 hi, .int .i64 (lo - 1), .int .i64 (hi + 1), .int .i64 (lo + near % (hi - lo + 1))] 3)).drew).mono HBL.out.size)
      have HBL5 : Hid ((((wr.alloc (.cells #[.int .i64 lo, .int .i64 hi] 41)).alloc (.cells #[.int .i64 birth, .int .i64 lo, .int .i64 hi, .int .i64 (lo - 1), .int .i64 (hi + 1), .int .i64 (lo + near % (hi - lo + 1))] 3)).drew).heap[wr.heap.size + 1]? = some (.cells #[.int .i64 birth, .int .i64 lo, .int .i64 hi, .int .i64 (lo - 1), .int .i64 (hi + 1), .int .i64 (lo + near % (hi - lo + 1))] 3 (0, 0))) := by
        have := heap_alloc_new (wr.alloc (.cells #[.int .i64 lo, .int .i64 hi] 41)) (.cells #[.int .i64 birth, .int .i64 lo, .int .i64 hi, .int .i64 (lo - 1), .int .i64 (hi + 1), .int .i64 (lo + near % (hi - lo + 1))] 3)
        rw [World.size_alloc] at this; exact this
      generalize wr.heap.size + 1 = B at *
      generalize World.drew ((wr.alloc (.cells #[.int .i64 lo, .int .i64 hi] 41)).alloc (.cells #[.int .i64 birth, .int .i64 lo, .int .i64 hi, .int .i64 (lo - 1), .int .i64 (hi + 1), .int .i64 (lo + near % (hi - lo + 1))] 3)) = w5 at *
      have hm2 : 0 ≤ near % (hi - lo + 1) := hr0
      generalize near % (hi - lo + 1) = d at *
      have HZ : Hid (∀ k, k < 6 → ∃ z : Int, w5.cell? ⟨B, k, none⟩ = some (.int .i64 z) ∧ -9223372036854775808 ≤ z ∧ z ≤ 9223372036854775807) := fun k hk => by
        obtain ⟨hb0, hb1⟩ := HBB.out
        rcases (by omega : k = 0 ∨ k = 1 ∨ k = 2 ∨ k = 3 ∨ k = 4 ∨ k = 5) with rfl | rfl | rfl | rfl | rfl | rfl
        · exact ⟨_, cell_of_row _ _ 0 _ _ _ HBL5.out, by omega, by omega⟩
        · exact ⟨_, cell_of_row _ _ 1 _ _ _ HBL5.out, by omega, by omega⟩
        · exact ⟨_, cell_of_row _ _ 2 _ _ _ HBL5.out, by omega, by omega⟩
        · exact ⟨_, cell_of_row _ _ 3 _ _ _ HBL5.out, by omega, by omega⟩
        · exact ⟨_, cell_of_row _ _ 4 _ _ _ HBL5.out, by omega, by omega⟩
        · exact ⟨_, cell_of_row _ _ 5 _ _ _ HBL5.out, by omega, by omega⟩
      have HK5 : Hid (w5.heap[w.heap.size]? = some (.cells #[.int .i64 p.lo, .int .i64 p.hi, .slice ra p.nr rc, .slice ca p.nc cc] 36 (0, 0))) := (HB35.out.block _ hs3).trans HK3.out
      have hs5 : w.heap.size < w5.heap.size := (Array.getElem?_eq_some_iff.1 HK5.out).1
      have hsB : B < w5.heap.size := (Array.getElem?_eq_some_iff.1 HBL5.out).1
      have HPC5 := Lib.hid (HPC.out.below HB35.out)
      have HG5 := Lib.hid (HG.out.kept HB35.out)
      have HB5 : Hid (Below w.heap.size w w5) := below_step HB3.out HB35.out
      clear x0 x1 lb1 lb2 lb3 hm0 hm1 hr0 hr1 hm2 d0 d1 d2 d3 hq ki kj hnz hnm HBL HBL5 HB35 HPC HG HK3 hs3
      go_loopw [12] (fun i wr => ∃ k : Nat, k ≤ 6 ∧ i = .int .i64 k ∧ Below w5.heap.size w5 wr) (fun i _ => 6 - (intOf i).toNat)
      case atStart => exact ⟨0, Nat.zero_le _, rfl, Below.refl _ _⟩
      case round =>
        obtain ⟨k, hk, rfl, hbl⟩ := hrel
        have HBL := Lib.hid hbl; clear hbl
        by_cases hlt : k < 6
        · obtain ⟨z, hzc, hz0, hz1⟩ := HZ.out k hlt
          have HZB := Lib.hid (And.intro hz0 hz1)
          have HZC := Lib.hid hzc
          clear hz0 hz1 hzc
          have ki : (0 : Int) ≤ (k : Int) := by omega
          have kj : (k : Int) < 6 := by omega
          have HSB : Hid (∀ X : World, Below w5.heap.size w5 X → X.cell? ⟨w.heap.size, 0, none⟩ = some (.int .i64 p.lo) ∧ X.cell? ⟨w.heap.size, 1, none⟩ = some (.int .i64 p.hi) ∧ X.cell? ⟨w.heap.size, 2, none⟩ = some (.slice ra p.nr rc) ∧ X.cell? ⟨w.heap.size, 3, none⟩ = some (.slice ca p.nc cc) ∧ X.cell? ⟨B, k, none⟩ = some (.int .i64 z) ∧ Below w5.heap.size w5 X) := fun X hX => by
            obtain ⟨d0, d1, d2, d3⟩ := cells4 ((hX.block _ hs5).trans HK5.out)
            exact ⟨d0, d1, d2, d3, kept hX hsB HZC.out, hX⟩
          go_wp2_with fail
          go_region_held3 (fun X => X.cell? ⟨w.heap.size, 0, none⟩ = some (.int .i64 p.lo) ∧ X.cell? ⟨w.heap.size, 1, none⟩ = some (.int .i64 p.hi) ∧ X.cell? ⟨w.heap.size, 2, none⟩ = some (.slice ra p.nr rc) ∧ X.cell? ⟨w.heap.size, 3, none⟩ = some (.slice ca p.nc cc) ∧ X.cell? ⟨B, k, none⟩ = some (.int .i64 z) ∧ Below w5.heap.size w5 X)
            (first | exact HSB.out _ (HBL.out.trans ((Below.refl _ _).drew)) | (go_split_ands; refine HSB.out _ (below_step ?_ hbX); assumption) | (go_split_ands; refine HSB.out _ (below_step ?_ hbY); assumption))
            (first | (go_at_call 27; go_split_ands; refine (person_any _ p _ (HPC5.out.below (by assumption)) (by omega) (by omega)).mono ?_; rintro e wX ⟨uX, rfl, hpX, hbX⟩) | (go_at_call 43; refine (HPRV.out _ _ _ hpX).mono ?_; rintro e wY ⟨rfl, hbY⟩))
          go_split_ands
          have HBY : Hid (Below w5.heap.size w5 wY) := by assumption
          obtain ⟨d0, d1, d2, d3, dz, _⟩ := HSB.out wY HBY.out
          clear hbX hbY hpX
          go_wp2_with fail
          refine (has_any _ l _ _ (by omega) (HG5.out.kept HBY.out)).mono ?_
          rintro _ _ ⟨rfl, rfl⟩
          have hzz : (hasR l z != hasR l z) = false := by simp
          cases his : hasR l z
          · go_wp2_with fail
            go_loopw [14] (fun i wr => ∃ j : Nat, j = 0 ∧ i = .int .i64 j ∧ Below w5.heap.size w5 wr) (fun i _ => p.nc - (intOf i).toNat)
            case atStart => exact ⟨0, rfl, rfl, HBY.out⟩
            case round =>
              obtain ⟨j, hj, rfl, hbl2⟩ := hrel
              subst hj
              have HB2 := Lib.hid hbl2; clear hbl2 d0 d1 d2 d3 dz
              obtain ⟨d0, d1, d2, d3, dz, _⟩ := HSB.out _ HB2.out
              go_wp2_with fail
              all_goals
                go_roundw
                case rel => exact ⟨k + 1, by omega, by go_num, HB2.out⟩
                case measure => simp [intOf]; omega
          · obtain ⟨hz1, hz2, hz3⟩ := (HBH.out.2 z).1 his
            have HZ3 := Lib.hid hz3; clear hz3
            go_wp2_with fail
            go_loopw [14] (fun i wr => ∃ j : Nat, j ≤ p.nc ∧ i = .int .i64 j ∧ Below w5.heap.size w5 wr) (fun i _ => p.nc - (intOf i).toNat)
            case atStart => exact ⟨0, Nat.zero_le _, rfl, HBY.out⟩
            case round =>
              obtain ⟨j, hj, rfl, hbl2⟩ := hrel
              have HB2 := Lib.hid hbl2; clear hbl2 d0 d1 d2 d3 dz
              obtain ⟨d0, d1, d2, d3, dz, _⟩ := HSB.out _ HB2.out
              have HBW : Hid (Below w.heap.size w wr) := HB5.out.trans (HB2.out.mono HB5.out.size)
              by_cases hjl : j < p.nc
              · obtain ⟨bc, oc, rfl, hbc, x0, x1, x2⟩ := HC.out.at HBW.out hjl
                have hok := POK.out j hjl
                obtain ⟨rd1, rd2, rr1, rr2, rn1, rn2⟩ := Rc.ok_facts hok
                obtain ⟨q, hq⟩ : ∃ q : Nat, (p.C j).rule = (q : Int) := ⟨(p.C j).rule.toNat, by omega⟩
                have hqn : q < p.nr := by omega
                obtain ⟨hle, hhas⟩ := okB_true (HZ3.out j hjl)
                have hrl : p.rl j = p.R q := by unfold Pers.rl; rw [hq]; rfl
                rw [hrl] at hhas
                rw [hq] at x1
                have hrok : okRule (p.R q).f (p.R q).b (p.R q).m (p.R q).e = true := PR.out q hqn
                have hnum : inB (p.C j).num 0 140 = true := by simp [inB]; omega
                have HRAT := Lib.hid (fun (W : World) (hW : Below w.heap.size w W) => HR.out.at hW hqn)
                clear hok hrl hq rr1 rr2
                generalize (p.C j).day = day at *
                generalize (p.C j).num = num at *
                generalize (p.R q).f = f at *
                generalize (p.R q).b = b at *
                generalize (p.R q).m = m at *
                generalize (p.R q).e = e at *
                have HAGE : Hid (∀ W : World, Calls Try.prog 52 #[.int .i64 z, .int .i64 day] W fun r w' => r = .returned (.tuple #[.int .i64 ((day - z) / 365), .int .i64 0]) ∧ w' = W) := fun W => (age_any z day W).mono fun r w' ⟨h1, h2⟩ => by
                  have hE : agE z day = 0 := by unfold agE; rw [if_pos ⟨by simp [inB]; omega, by simp [inB]; omega, hle⟩]
                  have hR : agR z day = (day - z) / 365 := by unfold agR; rw [if_pos hE]
                  rw [hE, hR] at h1
                  exact ⟨h1, h2.symm⟩
                have HTRUE := Lib.hid (fun W => true_ok f b m e num W hrok hnum)
                unfold ruleV at HTRUE
                have HHAS := Lib.hid hhas
                have hn' := (day - z) / 365
                have HLEN : Hid ((rngs (agesF f b m e num 126) 121).length ≤ 121) := rngs_length _ _
                clear hrok hnum hhas hn'
                generalize rngs (agesF f b m e num 126) 121 = tl at *
                have hw5 := HB2.out.size
                have hBw : B < wr.heap.size := by omega
                have hww : w.heap.size < wr.heap.size := by omega
                have jk0 : (0 : Int) ≤ (j : Int) := by omega
                have jk1 : (j : Int) < (p.nc : Int) := by omega
                have qk0 : (0 : Int) ≤ (q : Int) := by omega
                have qk1 : (q : Int) < (p.nr : Int) := by omega
                go_wp2_with fail
                go_quiet ((go_at_call 52; exact Calls.quiet_of_same (HAGE.out _)))
                go_wp2_with fail
                have HB6 : Hid (Below w5.heap.size w5 ((wr.alloc (.cells #[.int .i64 day, .int .i64 q, .int .i64 num] 59)).drewN nq)) := HB2.out.trans ((below_step (below_alloc wr (.cells #[.int .i64 day, .int .i64 q, .int .i64 num] 59)) (below_drewS _ _ nq)).mono HB2.out.size)
                have HX6 : Hid (((wr.alloc (.cells #[.int .i64 day, .int .i64 q, .int .i64 num] 59)).drewN nq).heap[wr.heap.size]? = some (.cells #[.int .i64 day, .int .i64 q, .int .i64 num] 59 (0, 0))) := heap_alloc_new wr _
                generalize hXB : wr.heap.size = XB at *
                generalize World.drewN (wr.alloc (.cells #[.int .i64 day, .int .i64 q, .int .i64 num] 59)) nq = w6 at *
                obtain ⟨rb, ro, rfl, hrb, y0, y1, y2, y3⟩ := HRAT.out w6 (HB5.out.trans (HB6.out.mono HB5.out.size))
                have z2 : w6.cell? ⟨w.heap.size, 2, none⟩ = some (.slice (some ⟨rb, ro, none⟩) p.nr rc) := (cells4 ((HB6.out.block _ hs5).trans HK5.out)).2.2.1
                obtain ⟨_, t1, t2⟩ := cells3 HX6.out
                have g1 := World.block_lt_of_cell? _ _ z2
                have g2 := World.block_lt_of_cell? _ _ t1
                have g3 := World.block_lt_of_cell? _ _ y0
                have HSB6 : Hid (∀ X : World, Below w6.heap.size w6 X → X.cell? ⟨w.heap.size, 2, none⟩ = some (.slice (some ⟨rb, ro, none⟩) p.nr rc) ∧ X.cell? ⟨XB, 1, none⟩ = some (.int .i64 q) ∧ X.cell? ⟨XB, 2, none⟩ = some (.int .i64 num) ∧ X.cell? ⟨rb, ro + q * 4, none⟩ = some (.int .i64 f) ∧ X.cell? ⟨rb, ro + q * 4 + 1, none⟩ = some (.int .i64 b) ∧ X.cell? ⟨rb, ro + q * 4 + 2, none⟩ = some (.int .i64 m) ∧ X.cell? ⟨rb, ro + q * 4 + 3, none⟩ = some (.int .i64 e) ∧ Below w6.heap.size w6 X) := fun X hX => ⟨kept hX g1 z2, kept hX g2 t1, kept hX g2 t2, kept hX g3 y0, kept hX g3 y1, kept hX g3 y2, kept hX g3 y3, hX⟩
                clear d0 d1 d2 d3 dz x0 x1 x2 y0 y1 y2 y3 z2 t1 t2 g1 g2 g3
                go_region_held3 (fun X => X.cell? ⟨w.heap.size, 2, none⟩ = some (.slice (some ⟨rb, ro, none⟩) p.nr rc) ∧ X.cell? ⟨XB, 1, none⟩ = some (.int .i64 q) ∧ X.cell? ⟨XB, 2, none⟩ = some (.int .i64 num) ∧ X.cell? ⟨rb, ro + q * 4, none⟩ = some (.int .i64 f) ∧ X.cell? ⟨rb, ro + q * 4 + 1, none⟩ = some (.int .i64 b) ∧ X.cell? ⟨rb, ro + q * 4 + 2, none⟩ = some (.int .i64 m) ∧ X.cell? ⟨rb, ro + q * 4 + 3, none⟩ = some (.int .i64 e) ∧ Below w6.heap.size w6 X)
                  (first | exact HSB6.out _ ((Below.refl _ _).drew) | (go_split_ands; refine HSB6.out _ (below_step ?_ hbX); assumption) | (go_split_ands; refine HSB6.out _ (below_step ?_ hbY); assumption))
                  (first | (go_at_call 48; refine (rule_any _ _ _ _ _).mono ?_; rintro _ wX ⟨rfl, hbX⟩) | (go_at_call 49; refine (HTRUE.out _).mono ?_; rintro _ wY ⟨vY, rfl, hrY, hbY⟩; have HRY := Lib.hid hrY; clear hrY))
                go_split_ands
                have HBZ : Hid (Below w6.heap.size w6 wY) := by assumption
                have HBT : Hid (Below w5.heap.size w5 wY) := below_step HB6.out HBZ.out
                clear hbX hbY
                go_wp2_with fail
                refine (has_any _ tl _ _ (by have := HLEN.out; omega) HRY.out.rg).mono ?_
                rintro _ _ ⟨rfl, rfl⟩
                rw [HHAS.out]
                go_wp2_with fail
                go_roundw
                case rel => exact ⟨j + 1, by omega, by go_num, HBT.out⟩
                case measure => simp [intOf]; omega
              · obtain rfl : j = p.nc := by omega
                go_wp2_with fail
                go_roundw
                case rel => exact ⟨k + 1, by omega, by go_num, HB2.out⟩
                case measure => simp [intOf]; omega
        · obtain rfl : k = 6 := by omega
          go_wp2_with (go_at_call 20; refine (HAW.out _).mono ?_; rintro _ w12 ⟨rfl, hb12⟩)
          go_ret
          exact ⟨rfl, HB5.out.trans ((HBL.out.trans (hb12.mono HBL.out.size)).mono HB5.out.size)⟩
end Go.Proofs.Ytagfcfojfjkmbaa
