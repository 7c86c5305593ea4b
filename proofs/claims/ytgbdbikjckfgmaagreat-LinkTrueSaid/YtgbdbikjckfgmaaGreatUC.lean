/- Link: what LinkTrue needs (3 of 5). -/
import Derived.Test.YtgbdbikjckfgmaaGreatND
import Derived.Test.YtgbdbikjckfgmaaGreatUA
import Derived.Test.YtgbdbikjckfgmaaGreatUB
import Derived.BigQuiet
import Derived.Carry
import Derived.Deep.AppendLies
import Derived.Deep.DeepCutAuto
import Derived.Deep.DrawnRows
import Derived.Deep.QuietTactic
import Derived.Deep.RegionHeld3
import Derived.Deep.RegionLawGrows
import Derived.Deep.RegionWith
import Derived.Deep.Slices
import Derived.Deep.Strs
import Derived.Laws.EntriesVeiled
import Derived.Laws.Rows
import Derived.Laws.Tables
import Derived.Lib.Hide
import Derived.Lib.SliceRun
import Derived.Lib.SmallJoins
import Derived.LoopIn
import Derived.LoopNIn
import Derived.LoopTactic
import Derived.Maps.AppendAt
import Derived.Maps.Keyed
import Derived.Maps.Views
import Derived.OpenShut
import Derived.OrdersHeld
import Derived.Outline
import Derived.OwnWalkIn
import Derived.ProofKit
import Derived.RangeFuncBound
import Derived.RangeFuncCalls
import Derived.RangeFuncLeaves
import Derived.RangeFuncNested
import Derived.Shelf.Abstract
import Derived.Shelf.RegionOpen
import Derived.SizedLaws
import Derived.TacticsInMore
import Derived.WalkKit
import Derived.WalkLawsBesides
import Derived.WalkSpells
namespace Go.Proofs.YtgbdbikjckfgmaaGreat
open Go.RowKit Go.Shelf
attribute [local go_sem ↓] Go.wp_at_zero Go.wp_at_succ
set_option maxRecDepth 100000 in
set_option maxHeartbeats 8000000 in
theorem truly_own (rv cv wv : Value) (p : Pers) (n : Nat) (z : Nat → Int) (w : World) (hr : RlsIn w rv p.nr p.R) (hcs : RcsIn w cv p.nc p.C) (hp : p.fault = 0) (hz : WordsIn w wv n z) (hn : n ≤ maxLen) :
    Calls Tryz.prog 47 #[.agg #[.int .i64 p.lo, .int .i64 p.hi, rv, cv], wv] w fun e w' => ∃ (l : List Rc) (v2 : Value), e = .returned (.tuple #[.agg #[.int .i64 p.lo, .int .i64 p.hi, rv, v2], .int .i64 (bthW p n z)]) ∧ CR w' w.heap.size v2 l ∧ (trP p l).TrueOf p (bthW p n z) ∧ Below w.heap.size w w' := by
  have h : PersIn w (.agg #[.int .i64 p.lo, .int .i64 p.hi, rv, cv]) p := ⟨rv, cv, rfl, hr, hcs⟩
  have HBT : Hid (bthW p n z = p.lo + (wordF n z 0 * 7 + wordF n z 1) % (p.hi - p.lo + 1)) := rfl
  have HP := Lib.hid h
  obtain ⟨pn1, pn2, pn3, pl1, pl2, pl3, pl4, pl5, pR, pOK⟩ := Pers.ok_facts hp
  have HPF := Lib.hid hp; have POK := Lib.hid pOK; have PR := Lib.hid pR; clear hp pOK pR
  obtain ⟨ra, rc, rfl⟩ := hr.slice
  obtain ⟨ca, cc, rfl⟩ := hcs.slice
  have HC := Lib.hid hcs; have HR := Lib.hid hr; clear h hcs hr
  rw [HBT.out]
  clear HBT
  have HWD : Hid (∀ (W : World), Below w.heap.size w W → ∀ i : Int, 0 ≤ i → i ≤ 1000 → Calls Tryz.prog 82 #[wv, .int .i64 i] W fun e w' => e = .returned (.int .i64 (wordF n z i)) ∧ w' = W) := fun W hW i h0 h1 => (word_any wv n z i W (hz.below hW) hn h0 (by omega)).mono fun _ _ ⟨a, b⟩ => ⟨a, b.symm⟩
  have HWB := Lib.hid (fun i => wordF_bd hz i)
  obtain ⟨la, lc, rfl⟩ := hz.len
  clear hz hn
  obtain ⟨i0, hi0, hz0, hz1, hz2⟩ := info_parts Tryz.infoRec
  obtain ⟨_, hb3, q0, q1, q2⟩ := alloc3 w (.cells #[.int .i64 p.lo, .int .i64 p.hi, .slice ra p.nr rc, .slice ca p.nc cc] 75) (.cells #[.int .i64 0, .int .i64 0, .slice none 0 0, .slice none 0 0] 75) (.cells #[.int .i64 p.lo, .int .i64 p.hi, .slice ra p.nr rc, .slice none 0 0] 75)
  have HBX : Hid (Below w.heap.size w ((w.alloc (.cells #[.int .i64 p.lo, .int .i64 p.hi, .slice ra p.nr rc, .slice ca p.nc cc] 75)).alloc (.cells #[.int .i64 0, .int .i64 0, .slice none 0 0, .slice none 0 0] 75))) := (below_alloc _ _).alloc (by simp) _
  have HQ := Lib.hid (And.intro q0 (And.intro q1 q2))
  clear q0 q1 q2 hb3
  go_enter Tryz.func47, Tryz.ntmps47
  go_wp2_with fail
  obtain ⟨a0, a1⟩ := HWB.out 0
  obtain ⟨b0, b1⟩ := HWB.out 1
  have hm0 : ¬ p.hi - p.lo + 1 = 0 := by omega
  have hm1 : ¬ p.hi - p.lo + 1 = -1 := by omega
  have hr0 := Int.emod_nonneg (wordF n z 0 * 7 + wordF n z 1) hm0
  have hr1 := Int.emod_lt_of_pos (wordF n z 0 * 7 + wordF n z 1) (show 0 < p.hi - p.lo + 1 by omega)
  have w0 : (wordF n z 0 * 7 + wordF n z 1).tmod (p.hi - p.lo + 1) = (wordF n z 0 * 7 + wordF n z 1) % (p.hi - p.lo + 1) := Int.tmod_eq_emod_of_nonneg (by omega)
  have w1e : IntKind.i64.wrap (wordF n z 0 * 7) = wordF n z 0 * 7 := IntWalk.i64_in _ (by omega)
  have w2e : IntKind.i64.wrap (wordF n z 0 * 7 + wordF n z 1) = wordF n z 0 * 7 + wordF n z 1 := IntWalk.i64_in _ (by omega)
  have w3e : IntKind.i64.wrap (p.hi - p.lo) = p.hi - p.lo := IntWalk.i64_in _ (by omega)
  have w4e : IntKind.i64.wrap (p.hi - p.lo + 1) = p.hi - p.lo + 1 := IntWalk.i64_in _ (by omega)
  have w5e : IntKind.i64.wrap ((wordF n z 0 * 7 + wordF n z 1) % (p.hi - p.lo + 1)) = (wordF n z 0 * 7 + wordF n z 1) % (p.hi - p.lo + 1) := IntWalk.i64_in _ (by omega)
  have w6e : IntKind.i64.wrap (p.lo + (wordF n z 0 * 7 + wordF n z 1) % (p.hi - p.lo + 1)) = p.lo + (wordF n z 0 * 7 + wordF n z 1) % (p.hi - p.lo + 1) := IntWalk.i64_in _ (by omega)
  go_quiet ((go_at_call 82; exact Calls.quiet_of_same (HWD.out _ (HBX.out.trans (below_drewS _ _ _)) _ (by omega) (by omega))))
  clear w0 w1e w2e w3e w4e w5e w6e
  have hbr : p.lo ≤ p.lo + (wordF n z 0 * 7 + wordF n z 1) % (p.hi - p.lo + 1) ∧ p.lo + (wordF n z 0 * 7 + wordF n z 1) % (p.hi - p.lo + 1) ≤ p.hi := by omega
  obtain ⟨br1, br2⟩ := hbr
  clear a0 a1 b0 b1 hm0 hm1 hr0 hr1
  go_wp2_with fail
  generalize hbe : p.lo + (wordF n z 0 * 7 + wordF n z 1) % (p.hi - p.lo + 1) = birth at *
  have HBE := Lib.hid hbe
  clear hbe
  have HW0 : Hid (WI w (.cells #[.int .i64 p.lo, .int .i64 p.hi, .slice ra p.nr rc, .slice ca p.nc cc] 75 (0, 0)) (.cells #[.int .i64 0, .int .i64 0, .slice none 0 0, .slice none 0 0] 75 (0, 0)) (.int .i64 p.lo) (.int .i64 p.hi) (.slice ra p.nr rc) (.slice none 0 0) [] ((((w.alloc (.cells #[.int .i64 p.lo, .int .i64 p.hi, .slice ra p.nr rc, .slice ca p.nc cc] 75)).alloc (.cells #[.int .i64 0, .int .i64 0, .slice none 0 0, .slice none 0 0] 75)).drewN nq).alloc (.cells #[.int .i64 p.lo, .int .i64 p.hi, .slice ra p.nr rc, .slice none 0 0] 75))) := ⟨⟨HQ.out.1, HQ.out.2.1, HQ.out.2.2, (HBX.out.trans (below_drewS _ _ nq)).alloc HBX.out.size _⟩, World.ownsRow_nil _ _ _ _⟩
  clear HQ HBX
  go_wp2_with fail
  go_loopw [8] (fun i wr => ∃ k : Nat, k ≤ p.nc ∧ i = .int .i64 k ∧ ∃ (l : List Rc) (v : Value), l.length ≤ k ∧ Fine p birth l ∧ WI w (.cells #[.int .i64 p.lo, .int .i64 p.hi, .slice ra p.nr rc, .slice ca p.nc cc] 75 (0, 0)) (.cells #[.int .i64 0, .int .i64 0, .slice none 0 0, .slice none 0 0] 75 (0, 0)) (.int .i64 p.lo) (.int .i64 p.hi) (.slice ra p.nr rc) v l wr) (fun i _ => p.nc - (intOf i).toNat)
  case atStart => exact ⟨0, Nat.zero_le _, rfl, [], _, Nat.le_refl _, (fun r hr => by cases hr), HW0.out⟩
  case round =>
    clear HW0
    obtain ⟨k, hk, rfl, l, v, hll, hfine, hwi⟩ := hrel
    obtain ⟨av, ac, rfl⟩ := own_slice' hwi.2
    generalize hkk : l.length = kk at *
    have HWI := Lib.hid hwi
    have HBW : Hid (Below w.heap.size w wr) := hwi.1.2.2.2
    obtain ⟨d0, d1, d2, d3, e0, e1, e2, e3⟩ := hwi.1.cells
    have hws := hwi.1.low
    have HLEN := Lib.hid hkk; have HFI := Lib.hid hfine; clear hkk hfine
    clear hwi d0 d1 e0 e1 e2 e3
    by_cases hlt : k < p.nc
    · obtain ⟨b, off, rfl, hbs, x0, x1, x2⟩ := HC.out.at HBW.out hlt
      have hok := POK.out k hlt
      obtain ⟨rd1, rd2, rr1, rr2, _⟩ := Rc.ok_facts hok
      obtain ⟨q, hq⟩ : ∃ q : Nat, (p.C k).rule = (q : Int) := ⟨(p.C k).rule.toNat, by omega⟩
      have hqn : q < p.nr := by omega
      obtain ⟨rb, ro, rfl, hrb, y0, y1, y2, y3⟩ := HR.out.at HBW.out hqn
      rw [hq] at x1
      have HRO := Lib.hid (PR.out q hqn)
      have HNX := Lib.hid (fun (t : Int) day hd hb ha ht => fine_next (p := p) (birth := birth) (day := day) (t := t) (q := q) (l := l) HFI.out hd hqn HRO.out hb ha ht)
      obtain ⟨g0, g1, g2, g3, g4, g5, g6, g7⟩ := okRule_bd HRO.out
      have HWR := Lib.hid (fun (kn : Int) (W : World) (h0 : 0 ≤ kn) (h1 : kn ≤ 125) => refWrite_any (p.R q).f (p.R q).b (p.R q).m (p.R q).e kn W HRO.out h0 h1)
      clear hok hq rr1 rr2
      generalize (p.C k).day = day at *
      generalize (p.C k).num = num at *
      generalize (p.R q).f = f at *
      generalize (p.R q).b = b' at *
      generalize (p.R q).m = m at *
      generalize (p.R q).e = e at *
      have ki : (0 : Int) ≤ (k : Int) := by omega
      have kj : (k : Int) < (p.nc : Int) := by omega
      have qi : (0 : Int) ≤ (q : Int) := by omega
      have qj : (q : Int) < (p.nr : Int) := by omega
      have hw1 : w.heap.size < wr.heap.size := by omega
      have hw2 : b < wr.heap.size := by omega
      have hw3 : rb < wr.heap.size := by omega
      have hw4 : rb < wr.heap.size + 1 := by omega
      by_cases hbd : day < birth
      · go_wp2_with fail
        go_roundw
        case rel => exact ⟨k + 1, by omega, by go_num, l, _, by rw [HLEN.out]; omega, HFI.out, HWI.out.below (below_alloc _ _)⟩
        case measure => simp [intOf]; omega
      have hbd' : birth ≤ day := by omega
      have hag0 : 0 ≤ (day - birth) / 365 := Int.ediv_nonneg (by omega) (by omega)
      by_cases h120 : 120 < (day - birth) / 365
      · go_wp2_with fail
        go_roundw
        case rel => exact ⟨k + 1, by omega, by go_num, l, _, by rw [HLEN.out]; omega, HFI.out, HWI.out.below (below_alloc _ _)⟩
        case measure => simp [intOf]; omega
      have h120' : (day - birth) / 365 ≤ 120 := by omega
      go_wp2_with fail
      obtain ⟨a0, a1⟩ := HWB.out ((k : Int) + 2)
      have hm0 : ¬ 2 * e + 1 = 0 := by omega
      have hm1 : ¬ 2 * e + 1 = -1 := by omega
      have hr0 := Int.emod_nonneg (wordF n z ((k : Int) + 2)) hm0
      have hr1 := Int.emod_lt_of_pos (wordF n z ((k : Int) + 2)) (show 0 < 2 * e + 1 by omega)
      have w0 : (wordF n z ((k : Int) + 2)).tmod (2 * e + 1) = wordF n z ((k : Int) + 2) % (2 * e + 1) := Int.tmod_eq_emod_of_nonneg a0
      have w1e : (day - birth).tdiv 365 = (day - birth) / 365 := Int.tdiv_eq_ediv_of_nonneg (by omega)
      have w2e : IntKind.i64.wrap (day - birth) = day - birth := IntWalk.i64_in _ (by omega)
      have w3e : IntKind.i64.wrap ((day - birth) / 365) = (day - birth) / 365 := IntWalk.i64_in _ (by omega)
      have w4e : IntKind.i64.wrap ((k : Int) + 2) = (k : Int) + 2 := IntWalk.i64_in _ (by omega)
      have w5e : IntKind.i64.wrap (2 * e) = 2 * e := IntWalk.i64_in _ (by omega)
      have w6e : IntKind.i64.wrap (2 * e + 1) = 2 * e + 1 := IntWalk.i64_in _ (by omega)
      have w7e : IntKind.i64.wrap (wordF n z ((k : Int) + 2) % (2 * e + 1)) = wordF n z ((k : Int) + 2) % (2 * e + 1) := IntWalk.i64_in _ (by omega)
      have w8e : IntKind.i64.wrap ((day - birth) / 365 + wordF n z ((k : Int) + 2) % (2 * e + 1)) = (day - birth) / 365 + wordF n z ((k : Int) + 2) % (2 * e + 1) := IntWalk.i64_in _ (by omega)
      have w9e : IntKind.i64.wrap ((day - birth) / 365 + wordF n z ((k : Int) + 2) % (2 * e + 1) - e) = (day - birth) / 365 + wordF n z ((k : Int) + 2) % (2 * e + 1) - e := IntWalk.i64_in _ (by omega)
      have HBQ : Hid (Below w.heap.size w ((wr.alloc (.cells #[.int .i64 day, .int .i64 q, .int .i64 num] 140)).alloc (.cells #[.int .i64 f, .int .i64 b', .int .i64 m, .int .i64 e] 142))) := HBW.out.trans (((below_alloc wr (.cells #[.int .i64 day, .int .i64 q, .int .i64 num] 140)).alloc (by simp) (.cells #[.int .i64 f, .int .i64 b', .int .i64 m, .int .i64 e] 142)).mono HBW.out.size)
      obtain ⟨hkn0, hkn1, hal⟩ := HNX.out (wordF n z ((k : Int) + 2) % (2 * e + 1)) day ⟨by omega, by omega⟩ hbd' h120' ⟨by omega, by omega⟩
      have HALL2 := Lib.hid hal
      have HKN := Lib.hid (And.intro hkn0 hkn1)
      clear hal HNX hkn0 hkn1
      go_cut [11] (fun s wx => s = .int .i64 (max 0 ((day - birth) / 365 + wordF n z ((k : Int) + 2) % (2 * e + 1) - e)) ∧ ∃ nq, wx = ((wr.alloc (.cells #[.int .i64 day, .int .i64 q, .int .i64 num] 140)).alloc (.cells #[.int .i64 f, .int .i64 b', .int .i64 m, .int .i64 e] 142)).drewN nq)
      case first =>
        go_quiet ((go_at_call 82; exact Calls.quiet_of_same (HWD.out _ (HBQ.out.trans (below_drewS _ _ _)) _ (by omega) (by omega))))
        all_goals
          clear w0 w1e w2e w3e w4e w5e w6e w7e w8e w9e
          (try go_wp2_with fail)
        all_goals
          go_meet
          exact ⟨congrArg (Value.int .i64) (by omega), _, rfl⟩
      case rest =>
        obtain ⟨rfl, nq, rfl⟩ := hcut
        clear w0 w1e w2e w3e w4e w5e w6e w7e w8e w9e hr0 hr1 hm0 hm1 a0 a1
        obtain ⟨hkn0, hkn1⟩ := HKN.out
        have HWX : Hid (WI w (.cells #[.int .i64 p.lo, .int .i64 p.hi, .slice (some ⟨rb, ro, none⟩) p.nr rc, .slice (some ⟨b, off, none⟩) p.nc cc] 75 (0, 0)) (.cells #[.int .i64 0, .int .i64 0, .slice none 0 0, .slice none 0 0] 75 (0, 0)) (.int .i64 p.lo) (.int .i64 p.hi) (.slice (some ⟨rb, ro, none⟩) p.nr rc) (.slice av kk ac) l (((wr.alloc (.cells #[.int .i64 day, .int .i64 q, .int .i64 num] 140)).alloc (.cells #[.int .i64 f, .int .i64 b', .int .i64 m, .int .i64 e] 142)).drewN nq)) := HWI.out.below (below_step ((below_alloc wr (.cells #[.int .i64 day, .int .i64 q, .int .i64 num] 140)).alloc (by simp) (.cells #[.int .i64 f, .int .i64 b', .int .i64 m, .int .i64 e] 142)) (below_drewS _ _ nq))
        have HKX : Hid (KB wr.heap.size (wr.heap.size + 1) (.cells #[.int .i64 day, .int .i64 q, .int .i64 num] 140 (0, 0)) (.cells #[.int .i64 f, .int .i64 b', .int .i64 m, .int .i64 e] 142 (0, 0)) (((wr.alloc (.cells #[.int .i64 day, .int .i64 q, .int .i64 num] 140)).alloc (.cells #[.int .i64 f, .int .i64 b', .int .i64 m, .int .i64 e] 142)).drewN nq)) := by
          have h1 := heap_alloc_new wr (.cells #[.int .i64 day, .int .i64 q, .int .i64 num] 140)
          have h2 := heap_alloc_new (wr.alloc (.cells #[.int .i64 day, .int .i64 q, .int .i64 num] 140)) (.cells #[.int .i64 f, .int .i64 b', .int .i64 m, .int .i64 e] 142)
          rw [World.size_alloc] at h2
          exact ⟨(Below.heap_alloc _ _ _ (by simp)).trans h1, h2⟩
        have HRB : Hid ((¬ (Value.slice av kk ac).ownBlock = some wr.heap.size) ∧ ¬ (Value.slice av kk ac).ownBlock = some (wr.heap.size + 1)) := ⟨fun e => by have := own_lt HWI.out.2 e; omega, fun e => by have := own_lt HWI.out.2 e; omega⟩
        have HOWN : Hid (∀ W : World, W.ownsRow (w.heap.size + 3) 140 3 (.slice av kk ac) l.length (flatC l) → W.ownsRow (w.heap.size + 3) 140 3 (.slice av kk ac) kk (flatC l)) := fun W h => by rw [HLEN.out] at h; exact h
        have hR1 : w.heap.size + 1 + 1 < wr.heap.size := by omega
        generalize wr.heap.size = RB at *
        generalize World.drewN ((wr.alloc (.cells #[.int .i64 day, .int .i64 q, .int .i64 num] 140)).alloc (.cells #[.int .i64 f, .int .i64 b', .int .i64 m, .int .i64 e] 142)) nq = wx at *
        generalize (max 0 ((day - birth) / 365 + wordF n z ((k : Int) + 2) % (2 * e + 1) - e)) = kn at *
        have HWR := Lib.hid (fun W => HWR.out kn W hkn0 hkn1)
        generalize wrt f b' m kn = n' at *
        go_wp2_with fail
        have HWD := Lib.hid (HWX.out.below ((Below.refl _ _).drew))
        have HKD := Lib.hid (HKX.out.fr (Fr.below ((Below.refl wx.heap.size wx).drew) (fun _ => False)) (fun e => e) (fun e => e))
        refine wp_region_held_drew (S := fun X => X.cell? ⟨RB, 0, none⟩ = some (.int .i64 day) ∧ X.cell? ⟨RB, 1, none⟩ = some (.int .i64 q) ∧ X.cell? ⟨RB + 1, 0, none⟩ = some (.int .i64 f) ∧ X.cell? ⟨RB + 1, 1, none⟩ = some (.int .i64 b') ∧ X.cell? ⟨RB + 1, 2, none⟩ = some (.int .i64 m) ∧ X.cell? ⟨RB + 1, 3, none⟩ = some (.int .i64 e)) (by kernel_rfl) HKD.out.cells (fun hS => ?_)
        generalize World.drew wx = X at *
        refine wpAnyH_take (i := 0) (oi := ⟨some 85, _, _, _, _, _⟩) (v := .pointer (some ⟨w.heap.size + 1 + 1, 3, none⟩)) rfl (by kernel_rfl) (by kernel_rfl) (by kernel_rfl) (fun _ _ _ h => h) (Or.inl ⟨by rfl, ?_⟩) hS ?_
        · intro W' hSw; (try dsimp only at hSw); obtain ⟨s0, s1, s2, s3, s4, s5⟩ := hSw; go_simp
        try simp only [Act.put, List.setIfInBounds_toArray, List.set_cons_zero, List.set_cons_succ]
        refine wpAnyH_take (i := 2) (oi := ⟨some 87, _, _, _, _, _⟩) (v := .pointer (some ⟨RB, 0, none⟩)) rfl (by kernel_rfl) (by kernel_rfl) (by kernel_rfl) (fun _ _ _ h => h) (Or.inl ⟨by rfl, ?_⟩) hS ?_
        · intro W' hSw; (try dsimp only at hSw); obtain ⟨s0, s1, s2, s3, s4, s5⟩ := hSw; go_simp
        try simp only [Act.put, List.setIfInBounds_toArray, List.set_cons_zero, List.set_cons_succ]
        refine wpAnyH_take (i := 3) (oi := ⟨some 88, _, _, _, _, _⟩) (v := .int .i64 day) rfl (by kernel_rfl) (by kernel_rfl) (by kernel_rfl) (fun _ _ _ h => h) (Or.inl ⟨by rfl, ?_⟩) hS ?_
        · intro W' hSw; (try dsimp only at hSw); obtain ⟨s0, s1, s2, s3, s4, s5⟩ := hSw; go_simp
        try simp only [Act.put, List.setIfInBounds_toArray, List.set_cons_zero, List.set_cons_succ]
        refine wpAnyH_take (i := 4) (oi := ⟨some 89, _, _, _, _, _⟩) (v := .pointer (some ⟨RB, 1, none⟩)) rfl (by kernel_rfl) (by kernel_rfl) (by kernel_rfl) (fun _ _ _ h => h) (Or.inl ⟨by rfl, ?_⟩) hS ?_
        · intro W' hSw; (try dsimp only at hSw); obtain ⟨s0, s1, s2, s3, s4, s5⟩ := hSw; go_simp
        try simp only [Act.put, List.setIfInBounds_toArray, List.set_cons_zero, List.set_cons_succ]
        refine wpAnyH_take (i := 5) (oi := ⟨some 90, _, _, _, _, _⟩) (v := .int .i64 q) rfl (by kernel_rfl) (by kernel_rfl) (by kernel_rfl) (fun _ _ _ h => h) (Or.inl ⟨by rfl, ?_⟩) hS ?_
        · intro W' hSw; (try dsimp only at hSw); obtain ⟨s0, s1, s2, s3, s4, s5⟩ := hSw; go_simp
        try simp only [Act.put, List.setIfInBounds_toArray, List.set_cons_zero, List.set_cons_succ]
        refine wpAnyH_take (i := 6) (oi := ⟨some 91, _, _, _, _, _⟩) (v := .agg #[.int .i64 f, .int .i64 b', .int .i64 m, .int .i64 e]) rfl (by kernel_rfl) (by kernel_rfl) (by kernel_rfl) (fun _ _ _ h => h) (Or.inl ⟨by rfl, ?_⟩) hS ?_
        · intro W' hSw; (try dsimp only at hSw); obtain ⟨s0, s1, s2, s3, s4, s5⟩ := hSw; go_simp
        try simp only [Act.put, List.setIfInBounds_toArray, List.set_cons_zero, List.set_cons_succ]
        refine wpAnyH_take (i := 7) (oi := ⟨some 92, _, _, _, _, _⟩) (v := .int .i64 kn) rfl (by kernel_rfl) (by kernel_rfl) (by kernel_rfl) (fun _ _ _ h => h) (Or.inl ⟨by rfl, ?_⟩) hS ?_
        · intro W' hSw; (try dsimp only at hSw); obtain ⟨s0, s1, s2, s3, s4, s5⟩ := hSw; go_simp
        try simp only [Act.put, List.setIfInBounds_toArray, List.set_cons_zero, List.set_cons_succ]
        refine wpAnyH_ready (rs := [1, 8]) (by kernel_rfl) (by simp) ?_
        refine AllReadyH.cons (o := ⟨some 86, _, _, _, _, _⟩) rfl (fun K hK => ?_) ?_
        ·
          have e4 := HWD.out.1.c23
          go_simp
          clear e4
          refine hK.out _ _ (hS) (fun hS => ?_)
          clear hK K
          try simp only [Act.put, List.setIfInBounds_toArray, List.set_cons_zero, List.set_cons_succ]
          refine wpAnyH_ready (rs := [8]) (by kernel_rfl) (by simp) ?_
          refine AllReadyH.cons (o := ⟨some 93, _, _, _, _, _⟩) rfl (fun K hK => ?_) ?_
          ·
            go_simp
            refine (HWR.out X).mono ?_
            rintro _ X1 ⟨rfl, hx1⟩
            (try go_wp2_with fail)
            have HW1 := Lib.hid (HWD.out.below hx1)
            have HK1 := Lib.hid (HKD.out.fr (Fr.below hx1 (fun _ => False)) (fun e => e) (fun e => e))
            refine hK.out _ _ (HK1.out.cells) (fun hS => ?_)
            clear hK K
            try simp only [Act.put, List.setIfInBounds_toArray, List.set_cons_zero, List.set_cons_succ]
            clear hx1
            refine wpAnyH_take (i := 9) (oi := ⟨some 94, _, _, _, _, _⟩) (v := .agg #[.int .i64 day, .int .i64 q, .int .i64 n']) rfl (by kernel_rfl) (by kernel_rfl) (by kernel_rfl) (fun _ _ _ h => h) (Or.inl ⟨by rfl, ?_⟩) hS ?_
            · intro W' hSw; (try dsimp only at hSw); obtain ⟨s0, s1, s2, s3, s4, s5⟩ := hSw; go_simp
            try simp only [Act.put, List.setIfInBounds_toArray, List.set_cons_zero, List.set_cons_succ]
            refine wpAnyH_ready (rs := [10]) (by kernel_rfl) (by simp) ?_
            refine AllReadyH.cons (o := ⟨some 95, _, _, _, _, _⟩) rfl (fun K hK => ?_) ?_
            ·
              go_simp
              have HW2 := Lib.hid (HW1.out.below (below_alloc X1 (.cells #[.int .i64 day, .int .i64 q, .int .i64 n'] 140)))
              have HK2 := Lib.hid (HK1.out.fr (Fr.below (below_alloc X1 (.cells #[.int .i64 day, .int .i64 q, .int .i64 n'] 140)) (fun _ => False)) (fun e => e) (fun e => e))
              have HN2 : Hid ((X1.alloc (.cells #[.int .i64 day, .int .i64 q, .int .i64 n'] 140)).heap[X1.heap.size]? = some (.cells #[.int .i64 day, .int .i64 q, .int .i64 n'] 140 (0, 0))) := heap_alloc_new X1 _
              refine hK.out _ _ (HK2.out.cells) (fun hS => ?_)
              clear hK K
              try simp only [Act.put, List.setIfInBounds_toArray, List.set_cons_zero, List.set_cons_succ]
              generalize X1.heap.size = BN2 at *
              generalize X1.alloc (.cells #[.int .i64 day, .int .i64 q, .int .i64 n'] 140) = X2 at *
              refine wpAnyH_ready (rs := [11]) (by kernel_rfl) (by simp) ?_
              refine AllReadyH.cons (o := ⟨some 96, _, _, _, _, _⟩) rfl (fun K hK => ?_) ?_
              ·
                refine step_append_src X2 (by rfl) (.tmp 86) (.tmp 95) 73 (by rfl) (w.heap.size + 3) 140 i0 (.agg #[.int .i64 0, .int .i64 0, .int .i64 0]) 3 24 Tryz.underlying73 hi0 hz0 hz1 hz2 rfl (by decide) (.slice av kk ac) kk (flatC l) (by rfl) (HOWN.out _ HW2.out.2) (some ⟨BN2, 0, none⟩) 1 1 (flatC [⟨day, q, n'⟩]) (by rfl) ⟨rfl, fun j u hu => ⟨_, rfl, World.news_of_block HN2.out j u hu⟩⟩ (flatC_one _) (by unfold maxLen; omega) (by omega) HW2.out.1.low3 ?_
                intro v3 X3 hown hgrow hat
                obtain ⟨a3, c3, rfl⟩ := own_slice hown
                have HA3 := Lib.hid hown
                have HM3 := Lib.hid (HW2.out.1.fr (Fr.grown hgrow) (fun q e => own_low HW2.out.2 e))
                have HK3 := Lib.hid (HK2.out.fr (Fr.grown hgrow) (fun e => HRB.out.1 e) (fun e => HRB.out.2 e))
                clear hown hgrow hat
                refine hK.out _ _ (HK3.out.cells) (fun hS => ?_)
                clear hK K
                try simp only [Act.put, List.setIfInBounds_toArray, List.set_cons_zero, List.set_cons_succ]
                refine wpAnyH_take (i := 12) (oi := ⟨some 97, _, _, _, _, _⟩) (v := .pointer (some ⟨w.heap.size + 1 + 1, 3, none⟩)) rfl (by kernel_rfl) (by kernel_rfl) (by kernel_rfl) (fun _ _ _ h => h) (Or.inl ⟨by rfl, ?_⟩) hS ?_
                · intro W' hSw; (try dsimp only at hSw); obtain ⟨s0, s1, s2, s3, s4, s5⟩ := hSw; go_simp
                try simp only [Act.put, List.setIfInBounds_toArray, List.set_cons_zero, List.set_cons_succ]
                refine wpAnyH_ready (rs := [13]) (by kernel_rfl) (by simp) ?_
                refine AllReadyH.cons (o := ⟨none, _, _, _, _, _⟩) rfl (fun K hK => ?_) ?_
                ·
                  have e4 := HM3.out.c23
                  have e5 := HM3.out.f23
                  go_simp
                  have HM4 := Lib.hid (HM3.out.set (.slice a3 (kk + 1) c3))
                  have HA4 := Lib.hid (own_fr HA3.out (Fr.set X3 (w.heap.size + 1 + 1) 3 (.slice a3 (kk + 1) c3)) (fun g _ _ hg _ e => by omega))
                  have HK4 := Lib.hid (HK3.out.fr (Fr.set X3 (w.heap.size + 1 + 1) 3 (.slice a3 (kk + 1) c3)) (fun e => by omega) (fun e => by omega))
                  refine hK.out _ _ (HK4.out.cells) (fun hS => ?_)
                  clear hK K
                  try simp only [Act.put, List.setIfInBounds_toArray, List.set_cons_zero, List.set_cons_succ]
                  clear e4 e5
                  refine wpAnyH_done (by kernel_rfl) ?_ _
                  go_wp2
                  go_roundw
                  case rel => exact ⟨k + 1, by omega, by go_num, l ++ [⟨day, q, n'⟩], _, by rw [List.length_append, HLEN.out]; simp; omega, HALL2.out, ⟨HM4.out, by rw [flatC_append, List.length_append, HLEN.out]; exact HA4.out⟩⟩
                  case measure => simp [intOf]; omega
                exact AllReadyH.nil
              exact AllReadyH.nil
            exact AllReadyH.nil
          exact AllReadyH.nil
        refine AllReadyH.cons (o := ⟨some 93, _, _, _, _, _⟩) rfl (fun K hK => ?_) ?_
        ·
          go_simp
          refine (HWR.out X).mono ?_
          rintro _ X5 ⟨rfl, hx5⟩
          (try go_wp2_with fail)
          have HW5 := Lib.hid (HWD.out.below hx5)
          have HK5 := Lib.hid (HKD.out.fr (Fr.below hx5 (fun _ => False)) (fun e => e) (fun e => e))
          refine hK.out _ _ (HK5.out.cells) (fun hS => ?_)
          clear hK K
          try simp only [Act.put, List.setIfInBounds_toArray, List.set_cons_zero, List.set_cons_succ]
          clear hx5
          refine wpAnyH_take (i := 9) (oi := ⟨some 94, _, _, _, _, _⟩) (v := .agg #[.int .i64 day, .int .i64 q, .int .i64 n']) rfl (by kernel_rfl) (by kernel_rfl) (by kernel_rfl) (fun _ _ _ h => h) (Or.inl ⟨by rfl, ?_⟩) hS ?_
          · intro W' hSw; (try dsimp only at hSw); obtain ⟨s0, s1, s2, s3, s4, s5⟩ := hSw; go_simp
          try simp only [Act.put, List.setIfInBounds_toArray, List.set_cons_zero, List.set_cons_succ]
          refine wpAnyH_ready (rs := [1, 10]) (by kernel_rfl) (by simp) ?_
          refine AllReadyH.cons (o := ⟨some 86, _, _, _, _, _⟩) rfl (fun K hK => ?_) ?_
          ·
            have e4 := HW5.out.1.c23
            go_simp
            clear e4
            refine hK.out _ _ (hS) (fun hS => ?_)
            clear hK K
            try simp only [Act.put, List.setIfInBounds_toArray, List.set_cons_zero, List.set_cons_succ]
            refine wpAnyH_ready (rs := [10]) (by kernel_rfl) (by simp) ?_
            refine AllReadyH.cons (o := ⟨some 95, _, _, _, _, _⟩) rfl (fun K hK => ?_) ?_
            ·
              go_simp
              have HW7 := Lib.hid (HW5.out.below (below_alloc X5 (.cells #[.int .i64 day, .int .i64 q, .int .i64 n'] 140)))
              have HK7 := Lib.hid (HK5.out.fr (Fr.below (below_alloc X5 (.cells #[.int .i64 day, .int .i64 q, .int .i64 n'] 140)) (fun _ => False)) (fun e => e) (fun e => e))
              have HN7 : Hid ((X5.alloc (.cells #[.int .i64 day, .int .i64 q, .int .i64 n'] 140)).heap[X5.heap.size]? = some (.cells #[.int .i64 day, .int .i64 q, .int .i64 n'] 140 (0, 0))) := heap_alloc_new X5 _
              refine hK.out _ _ (HK7.out.cells) (fun hS => ?_)
              clear hK K
              try simp only [Act.put, List.setIfInBounds_toArray, List.set_cons_zero, List.set_cons_succ]
              generalize X5.heap.size = BN7 at *
              generalize X5.alloc (.cells #[.int .i64 day, .int .i64 q, .int .i64 n'] 140) = X7 at *
              refine wpAnyH_ready (rs := [11]) (by kernel_rfl) (by simp) ?_
              refine AllReadyH.cons (o := ⟨some 96, _, _, _, _, _⟩) rfl (fun K hK => ?_) ?_
              ·
                refine step_append_src X7 (by rfl) (.tmp 86) (.tmp 95) 73 (by rfl) (w.heap.size + 3) 140 i0 (.agg #[.int .i64 0, .int .i64 0, .int .i64 0]) 3 24 Tryz.underlying73 hi0 hz0 hz1 hz2 rfl (by decide) (.slice av kk ac) kk (flatC l) (by rfl) (HOWN.out _ HW7.out.2) (some ⟨BN7, 0, none⟩) 1 1 (flatC [⟨day, q, n'⟩]) (by rfl) ⟨rfl, fun j u hu => ⟨_, rfl, World.news_of_block HN7.out j u hu⟩⟩ (flatC_one _) (by unfold maxLen; omega) (by omega) HW7.out.1.low3 ?_
                intro v8 X8 hown hgrow hat
                obtain ⟨a8, c8, rfl⟩ := own_slice hown
                have HA8 := Lib.hid hown
                have HM8 := Lib.hid (HW7.out.1.fr (Fr.grown hgrow) (fun q e => own_low HW7.out.2 e))
                have HK8 := Lib.hid (HK7.out.fr (Fr.grown hgrow) (fun e => HRB.out.1 e) (fun e => HRB.out.2 e))
                clear hown hgrow hat
                refine hK.out _ _ (HK8.out.cells) (fun hS => ?_)
                clear hK K
                try simp only [Act.put, List.setIfInBounds_toArray, List.set_cons_zero, List.set_cons_succ]
                refine wpAnyH_take (i := 12) (oi := ⟨some 97, _, _, _, _, _⟩) (v := .pointer (some ⟨w.heap.size + 1 + 1, 3, none⟩)) rfl (by kernel_rfl) (by kernel_rfl) (by kernel_rfl) (fun _ _ _ h => h) (Or.inl ⟨by rfl, ?_⟩) hS ?_
                · intro W' hSw; (try dsimp only at hSw); obtain ⟨s0, s1, s2, s3, s4, s5⟩ := hSw; go_simp
                try simp only [Act.put, List.setIfInBounds_toArray, List.set_cons_zero, List.set_cons_succ]
                refine wpAnyH_ready (rs := [13]) (by kernel_rfl) (by simp) ?_
                refine AllReadyH.cons (o := ⟨none, _, _, _, _, _⟩) rfl (fun K hK => ?_) ?_
                ·
                  have e4 := HM8.out.c23
                  have e5 := HM8.out.f23
                  go_simp
                  have HM9 := Lib.hid (HM8.out.set (.slice a8 (kk + 1) c8))
                  have HA9 := Lib.hid (own_fr HA8.out (Fr.set X8 (w.heap.size + 1 + 1) 3 (.slice a8 (kk + 1) c8)) (fun g _ _ hg _ e => by omega))
                  have HK9 := Lib.hid (HK8.out.fr (Fr.set X8 (w.heap.size + 1 + 1) 3 (.slice a8 (kk + 1) c8)) (fun e => by omega) (fun e => by omega))
                  refine hK.out _ _ (HK9.out.cells) (fun hS => ?_)
                  clear hK K
                  try simp only [Act.put, List.setIfInBounds_toArray, List.set_cons_zero, List.set_cons_succ]
                  clear e4 e5
                  refine wpAnyH_done (by kernel_rfl) ?_ _
                  go_wp2
                  go_roundw
                  case rel => exact ⟨k + 1, by omega, by go_num, l ++ [⟨day, q, n'⟩], _, by rw [List.length_append, HLEN.out]; simp; omega, HALL2.out, ⟨HM9.out, by rw [flatC_append, List.length_append, HLEN.out]; exact HA9.out⟩⟩
                  case measure => simp [intOf]; omega
                exact AllReadyH.nil
              exact AllReadyH.nil
            exact AllReadyH.nil
          refine AllReadyH.cons (o := ⟨some 95, _, _, _, _, _⟩) rfl (fun K hK => ?_) ?_
          ·
            go_simp
            have HW10 := Lib.hid (HW5.out.below (below_alloc X5 (.cells #[.int .i64 day, .int .i64 q, .int .i64 n'] 140)))
            have HK10 := Lib.hid (HK5.out.fr (Fr.below (below_alloc X5 (.cells #[.int .i64 day, .int .i64 q, .int .i64 n'] 140)) (fun _ => False)) (fun e => e) (fun e => e))
            have HN10 : Hid ((X5.alloc (.cells #[.int .i64 day, .int .i64 q, .int .i64 n'] 140)).heap[X5.heap.size]? = some (.cells #[.int .i64 day, .int .i64 q, .int .i64 n'] 140 (0, 0))) := heap_alloc_new X5 _
            refine hK.out _ _ (HK10.out.cells) (fun hS => ?_)
            clear hK K
            try simp only [Act.put, List.setIfInBounds_toArray, List.set_cons_zero, List.set_cons_succ]
            generalize X5.heap.size = BN10 at *
            generalize X5.alloc (.cells #[.int .i64 day, .int .i64 q, .int .i64 n'] 140) = X10 at *
            refine wpAnyH_ready (rs := [1]) (by kernel_rfl) (by simp) ?_
            refine AllReadyH.cons (o := ⟨some 86, _, _, _, _, _⟩) rfl (fun K hK => ?_) ?_
            ·
              have e4 := HW10.out.1.c23
              go_simp
              clear e4
              refine hK.out _ _ (hS) (fun hS => ?_)
              clear hK K
              try simp only [Act.put, List.setIfInBounds_toArray, List.set_cons_zero, List.set_cons_succ]
              refine wpAnyH_ready (rs := [11]) (by kernel_rfl) (by simp) ?_
              refine AllReadyH.cons (o := ⟨some 96, _, _, _, _, _⟩) rfl (fun K hK => ?_) ?_
              ·
                refine step_append_src X10 (by rfl) (.tmp 86) (.tmp 95) 73 (by rfl) (w.heap.size + 3) 140 i0 (.agg #[.int .i64 0, .int .i64 0, .int .i64 0]) 3 24 Tryz.underlying73 hi0 hz0 hz1 hz2 rfl (by decide) (.slice av kk ac) kk (flatC l) (by rfl) (HOWN.out _ HW10.out.2) (some ⟨BN10, 0, none⟩) 1 1 (flatC [⟨day, q, n'⟩]) (by rfl) ⟨rfl, fun j u hu => ⟨_, rfl, World.news_of_block HN10.out j u hu⟩⟩ (flatC_one _) (by unfold maxLen; omega) (by omega) HW10.out.1.low3 ?_
                intro v12 X12 hown hgrow hat
                obtain ⟨a12, c12, rfl⟩ := own_slice hown
                have HA12 := Lib.hid hown
                have HM12 := Lib.hid (HW10.out.1.fr (Fr.grown hgrow) (fun q e => own_low HW10.out.2 e))
                have HK12 := Lib.hid (HK10.out.fr (Fr.grown hgrow) (fun e => HRB.out.1 e) (fun e => HRB.out.2 e))
                clear hown hgrow hat
                refine hK.out _ _ (HK12.out.cells) (fun hS => ?_)
                clear hK K
                try simp only [Act.put, List.setIfInBounds_toArray, List.set_cons_zero, List.set_cons_succ]
                refine wpAnyH_take (i := 12) (oi := ⟨some 97, _, _, _, _, _⟩) (v := .pointer (some ⟨w.heap.size + 1 + 1, 3, none⟩)) rfl (by kernel_rfl) (by kernel_rfl) (by kernel_rfl) (fun _ _ _ h => h) (Or.inl ⟨by rfl, ?_⟩) hS ?_
                · intro W' hSw; (try dsimp only at hSw); obtain ⟨s0, s1, s2, s3, s4, s5⟩ := hSw; go_simp
                try simp only [Act.put, List.setIfInBounds_toArray, List.set_cons_zero, List.set_cons_succ]
                refine wpAnyH_ready (rs := [13]) (by kernel_rfl) (by simp) ?_
                refine AllReadyH.cons (o := ⟨none, _, _, _, _, _⟩) rfl (fun K hK => ?_) ?_
                ·
                  have e4 := HM12.out.c23
                  have e5 := HM12.out.f23
                  go_simp
                  have HM13 := Lib.hid (HM12.out.set (.slice a12 (kk + 1) c12))
                  have HA13 := Lib.hid (own_fr HA12.out (Fr.set X12 (w.heap.size + 1 + 1) 3 (.slice a12 (kk + 1) c12)) (fun g _ _ hg _ e => by omega))
                  have HK13 := Lib.hid (HK12.out.fr (Fr.set X12 (w.heap.size + 1 + 1) 3 (.slice a12 (kk + 1) c12)) (fun e => by omega) (fun e => by omega))
                  refine hK.out _ _ (HK13.out.cells) (fun hS => ?_)
                  clear hK K
                  try simp only [Act.put, List.setIfInBounds_toArray, List.set_cons_zero, List.set_cons_succ]
                  clear e4 e5
                  refine wpAnyH_done (by kernel_rfl) ?_ _
                  go_wp2
                  go_roundw
                  case rel => exact ⟨k + 1, by omega, by go_num, l ++ [⟨day, q, n'⟩], _, by rw [List.length_append, HLEN.out]; simp; omega, HALL2.out, ⟨HM13.out, by rw [flatC_append, List.length_append, HLEN.out]; exact HA13.out⟩⟩
                  case measure => simp [intOf]; omega
                exact AllReadyH.nil
              exact AllReadyH.nil
            exact AllReadyH.nil
          exact AllReadyH.nil
        exact AllReadyH.nil
    · obtain rfl : k = p.nc := by omega
      have HHW := Lib.hid (HP.out.below HBW.out)
      have hpi := HWI.out.1
      obtain ⟨k0, k1, k2, k3⟩ := cells4 hpi.2.1
      have f0 : wr.frozen? ⟨w.heap.size + 1, 0, none⟩ = false := frozen_of_row _ _ 0 _ _ hpi.2.1
      have f1 : wr.frozen? ⟨w.heap.size + 1, 1, none⟩ = false := frozen_of_row _ _ 1 _ _ hpi.2.1
      have f2 : wr.frozen? ⟨w.heap.size + 1, 2, none⟩ = false := frozen_of_row _ _ 2 _ _ hpi.2.1
      have f3 : wr.frozen? ⟨w.heap.size + 1, 3, none⟩ = false := frozen_of_row _ _ 3 _ _ hpi.2.1
      obtain ⟨_, _, _, _, m0, m1, m2, m3⟩ := hpi.cells
      have HFR : Hid (∀ (a b c d : Value), Fr (fun q => q = w.heap.size + 1) wr ((((wr.setCell ⟨w.heap.size + 1, 0, none⟩ a).setCell ⟨w.heap.size + 1, 1, none⟩ b).setCell ⟨w.heap.size + 1, 2, none⟩ c).setCell ⟨w.heap.size + 1, 3, none⟩ d)) := fun a b c d => (((Fr.set _ _ _ _).trans (Fr.set _ _ _ _)).trans (Fr.set _ _ _ _)).trans (Fr.set _ _ _ _)
      have HXF : Hid (∀ W', Fr (fun q => q = w.heap.size + 1) wr W' → CR W' w.heap.size (.slice av kk ac) l) := fun W' hf => by
        have ho := own_fr HWI.out.2 hf (fun g _ _ hg _ e => by omega)
        rcases ho.2 with ⟨e1, e2⟩ | ⟨g, cap, cur, e1, hg, r⟩
        · exact ⟨ho.1, .inl ⟨e1, e2⟩⟩
        · exact ⟨ho.1, .inr ⟨g, cap, cur, e1, by omega, r⟩⟩
      have HTO := Lib.hid (truly_person (birth := birth) HPF.out (by rw [HLEN.out]; exact hll) ⟨br1, br2⟩ HFI.out)
      clear hpi
      go_wp2
      have HX := HXF.out _ (HFR.out (.int .i64 p.lo) (.int .i64 p.hi) (.slice ra p.nr rc) (.slice av kk ac))
      refine bodyPost_ret (v := .tuple #[.agg #[.int .i64 p.lo, .int .i64 p.hi, .slice ra p.nr rc, .slice av kk ac], .int .i64 birth]) (by simp [results, Tryz.results47, go_sem, k0, k1, k2, k3]) rfl ⟨l, _, by rw [HBE.out], HX, by rw [HBE.out]; exact HTO.out, ?_⟩
      exact HBW.out.trans ((HFR.out _ _ _ _).low HBW.out.size (fun q hq e => by omega))
end Go.Proofs.YtgbdbikjckfgmaaGreat
namespace Go.Proofs.YtgbdbikjckfgmaaGreat
open Go.RowKit Go.Shelf
/-- Two entries of one person. -/
structure TrE (a b : En) : Prop where
  sex : b.sex = a.sex ∨ b.sex = 2
  nn : b.nn = a.nn
  z : b.z = a.z
  day : ∃ d, hasR a.p.born d = true ∧ hasR b.p.born d = true
theorem TrE.pair {f : Fl} {a b : En} (h : TrE a b) (ha : a.p.fault = 0) (hb : b.p.fault = 0) (hz : 0 < a.nn) {j : Nat} (hj : j < f.nm) (m1 : f.mf j = a.pl) (m2 : f.mt j = b.pl) : f.pairB a b = true := by
  have h1 : sexB a b = true := by
    unfold sexB
    rcases h.sex with e | e
    · rw [e]; simp
    · rw [e]; simp
  have h2 : nameB a b = true := by
    unfold nameB
    rw [allB_false (p := fun i => allB (fun k => !(b.z k == a.z i)) b.nn) hz (allB_false (k := 0) (by rw [h.nn]; exact hz) (by rw [h.z]; simp))]
    rfl
  have h3 : f.plB a b = true := by
    unfold Fl.plB Fl.movB
    rw [allB_false (p := fun k => !(f.mf k == a.pl && f.mt k == b.pl)) hj (by rw [m1, m2]; simp)]
    simp
  have h4 : ageB a b = true := by
    unfold ageB
    obtain ⟨d, d1, d2⟩ := h.day
    have hm := meetL_has (born_has ha).1 (born_has hb).1 d
    rw [d1, d2] at hm
    refine decide_eq_true (Nat.pos_of_ne_zero fun e => ?_)
    rw [List.length_eq_zero_iff.1 e] at hm
    simp [hasR] at hm
  unfold Fl.pairB
  rw [h1, h2, h3, h4]; rfl
/-- The links of the true pairs. -/
def lkT (n j : Nat) : Int := ((n - 1 - j : Nat) : Int)
theorem lkT_rng (n j : Nat) (h : n ≤ 100000) : rng64 (lkT n j) := rng64_small (by unfold lkT; omega) (by unfold lkT; omega)
theorem cntM_all {z : Nat → Int} (h : ∀ j, z j ≠ -1) : ∀ n, cntM z n = n
  | 0 => rfl
  | n + 1 => by rw [cntM_succ, if_neg (h n), cntM_all h n]
theorem true_law {f : Fl} (h : OkF f) (hp : ∀ j, j < f.no → f.g j (f.no - 1 - j) = true) : f.isM f.no (lkT f.no) = true ∧ cntM (lkT f.no) f.no = f.no ∧ f.most = f.no := by
  have hc : cntM (lkT f.no) f.no = f.no := cntM_all (fun j => by unfold lkT; omega) _
  have hm : f.isM f.no (lkT f.no) = true := Fl.isM_yes rfl fun i hi _ => by
    unfold Fl.rowM
    rw [show (lkT f.no i).toNat = f.no - 1 - i by unfold lkT; omega, hp i hi, decide_eq_true (show 0 ≤ lkT f.no i by unfold lkT; omega)]
    refine allB_true fun j hj => ?_
    have : ¬ lkT f.no j = lkT f.no i := by unfold lkT; omega
    simp [this]
  refine ⟨hm, hc, Nat.le_antisymm ?_ ?_⟩
  · exact (match_rg (g := offG f.g (SK [])) (P := f.P) (F := 9) (no := f.no) f.no (Nat.le_refl _)).2
  · have := h.isM_le hm
    rw [hc] at this; exact this
/-- What an entry's lists are in memory: rules and names as at the start, records that Truly wrote. -/
def QX (w X : World) (v : Value × Value × Value) (e : En) : Prop := RlsIn w v.1 e.p.nr e.p.R ∧ (∃ p l, e.p = trP p l ∧ CR X 0 v.2.1 l) ∧ IntsIn w v.2.2 e.nn e.z ∧ e.p.nr ≤ maxLen ∧ e.p.nc ≤ maxLen ∧ e.nn ≤ maxLen
theorem QX.fr {w X Y : World} {v : Value × Value × Value} {e : En} {ex : Nat → Prop} (h : QX w X v e) (hf : Fr ex X Y) (hx : ∀ g cur, X.heap[g]? = some (.cells cur 140 (0, 0)) → ¬ ex g) : QX w Y v e := by
  obtain ⟨h1, ⟨p, l, e1, hc⟩, h3⟩ := h
  exact ⟨h1, ⟨p, l, e1, own_fr hc hf (fun g cur _ _ hg => hx g cur hg)⟩, h3⟩
theorem QX.qr {w X : World} {v : Value × Value × Value} {e : En} (h : QX w X v e) (hb : Below w.heap.size w X) : QR X v.1 v.2.1 v.2.2 e := by
  obtain ⟨h1, ⟨p, l, e1, hc⟩, h3, h4⟩ := h
  refine ⟨h1.below hb, ?_, h3.below hb, h4⟩
  rw [e1]; exact hc.in
/-- The rows of the true file so far. -/
structure TrI (w X : World) (nm k : Nat) (EO NR : Nat → En) (VO VN : V3) (mf mt : Nat → Int) : Prop where
  qo : ∀ j, j < k → QX w X (VO j) (EO j)
  qn : ∀ j, j < k → QX w X (VN j) (NR j)
  tr : ∀ j, j < k → TrE (EO j) (NR (k - 1 - j)) ∧ mf (nm + j) = (EO j).pl ∧ mt (nm + j) = (NR (k - 1 - j)).pl
theorem TrI.fr {w X Y : World} {nm k : Nat} {EO NR : Nat → En} {VO VN : V3} {mf mt : Nat → Int} {ex : Nat → Prop} (h : TrI w X nm k EO NR VO VN mf mt) (hf : Fr ex X Y) (hx : ∀ g cur, X.heap[g]? = some (.cells cur 140 (0, 0)) → ¬ ex g) : TrI w Y nm k EO NR VO VN mf mt :=
  ⟨fun j hj => (h.qo j hj).fr hf hx, fun j hj => (h.qn j hj).fr hf hx, h.tr⟩
theorem TrI.below {w X Y : World} {nm k : Nat} {EO NR : Nat → En} {VO VN : V3} {mf mt : Nat → Int} (h : TrI w X nm k EO NR VO VN mf mt) (hb : Below X.heap.size X Y) : TrI w Y nm k EO NR VO VN mf mt :=
  h.fr (Fr.below hb (fun _ => False)) fun _ _ _ e => e
def addV (V : V3) (n : Nat) (v : Value × Value × Value) : V3 := fun j => if j < n then V j else v
theorem TrI.next {w X : World} {nm k : Nat} {EO NR : Nat → En} {VO VN : V3} {mf mt : Nat → Int} {a b : En} {va vb : Value × Value × Value} (h : TrI w X nm k EO NR VO VN mf mt) (ha : QX w X va a) (hb : QX w X vb b) (ht : TrE a b) :
    TrI w X nm (k + 1) (addE EO k a) (catE (fun _ => b) NR 1) (addV VO k va) (catE (fun _ => vb) VN 1) (addZ mf (nm + k) a.pl) (addZ mt (nm + k) b.pl) := by
  refine ⟨fun j hj => ?_, fun j hj => ?_, fun j hj => ?_⟩
  · unfold addE addV
    by_cases c : j < k
    · rw [if_pos c, if_pos c]; exact h.qo j c
    · rw [if_neg c, if_neg c]; exact ha
  · unfold catE
    by_cases c : j < 1
    · rw [if_pos c, if_pos c]; exact hb
    · rw [if_neg c, if_neg c]; exact h.qn _ (by omega)
  · unfold addE addZ catE
    by_cases c : j < k
    · have c2 : ¬ k + 1 - 1 - j < 1 := by omega
      have c3 : nm + j < nm + k := by omega
      rw [if_pos c, if_neg c2, if_pos c3, if_pos c3, show k + 1 - 1 - j - 1 = k - 1 - j by omega]; exact h.tr j c
    · have c2 : k + 1 - 1 - j < 1 := by omega
      have c3 : ¬ nm + j < nm + k := by omega
      rw [if_neg c, if_pos c2, if_neg c3, if_neg c3]; exact ⟨ht, rfl, rfl⟩
/-- The file of the true pairs: if it is valid, all its pairs are. -/
theorem TrI.law {w X : World} {nm n : Nat} {EO NR : Nat → En} {VO VN : V3} {mf mt : Nat → Int} (h : TrI w X nm n EO NR VO VN mf mt) (ok : OkF ⟨n, EO, n, NR, nm + n, mf, mt⟩) : (⟨n, EO, n, NR, nm + n, mf, mt⟩ : Fl).isM n (lkT n) = true ∧ cntM (lkT n) n = n ∧ (⟨n, EO, n, NR, nm + n, mf, mt⟩ : Fl).most = n := by
  refine true_law ok fun j hj => ?_
  have hj : j < n := hj
  have hk : n - 1 - j < n := by omega
  obtain ⟨t1, t2, t3⟩ := h.tr j hj
  obtain ⟨o1, o2, o3⟩ := ok.o hj
  obtain ⟨n1, n2, n3⟩ := ok.n hk
  show (decide (j < n) && decide (n - 1 - j < n) && Fl.pairB ⟨n, EO, n, NR, nm + n, mf, mt⟩ (EO j) (NR (n - 1 - j))) = true
  rw [decide_eq_true hj, decide_eq_true hk, TrE.pair (f := ⟨n, EO, n, NR, nm + n, mf, mt⟩) t1 o2 n2 ?_ (j := nm + j) (show nm + j < nm + n by omega) t2 t3]
  · rfl
  · unfold En.ok at o3
    simp only [Bool.and_eq_true, decide_eq_true_eq] at o3
    exact o3.1.1.2
/-- The person of other rules and records is valid too. -/
theorem mix_fault {p q : Pers} (hp : p.fault = 0) (hq : q.fault = 0) : (⟨p.lo, p.hi, q.nr, q.R, q.nc, q.C⟩ : Pers).fault = 0 := by
  obtain ⟨n4, n8, n0, l1, l2, l3, l4, l5, okR, okC⟩ := Pers.ok_facts hp
  obtain ⟨m4, m8, m0, k1, k2, k3, k4, k5, okR2, okC2⟩ := Pers.ok_facts hq
  unfold Pers.fault errOf
  have hs : ¬ (4 < q.nr ∨ 8 < q.nc) := by omega
  rw [if_neg hs, if_pos]
  simp only [Pers.okAll, allB, inB, Bool.and_eq_true, List.all_eq_true, List.mem_range, decide_eq_true_eq, Bool.not_eq_true', beq_eq_false_iff_ne]
  exact ⟨⟨⟨⟨⟨⟨l1, l2⟩, l3, l4⟩, l5⟩, by omega⟩, okR2⟩, okC2⟩
end Go.Proofs.YtgbdbikjckfgmaaGreat
namespace Go.Proofs.YtgbdbikjckfgmaaGreat
open Go.RowKit Go.Shelf
theorem own_set {X : World} {base E size n B off : Nat} {cs : Array Value} {TB : TypeId} {vv u : Value} {xs : List Value} (h : X.ownsRow base E size vv n xs) (hb : X.heap[B]? = some (.cells cs TB (0, 0))) (ht : TB ≠ E) : (X.setCell ⟨B, off, none⟩ u).ownsRow base E size vv n xs :=
  own_fr h (Fr.set X B off u) (fun _ _ e1 _ _ e3 => own_type_ne h hb ht (by rw [e1, e3]))
theorem own_grow {X Y : World} {base E size n base2 E2 size2 n2 : Nat} {vv v2 : Value} {xs xs2 : List Value} (h : X.ownsRow base E size vv n xs) (hg : X.grownBy Y v2.ownBlock) (h2 : X.ownsRow base2 E2 size2 v2 n2 xs2) (ht : E ≠ E2) : Y.ownsRow base E size vv n xs :=
  own_fr h (Fr.grown hg) (fun _ _ _ _ hc e3 => own_type_ne h2 hc ht e3)
theorem eF_single (e : En) (v : Value × Value × Value) : eF (fun _ => e) (fun _ => v) 1 = e7 e v := by
  rw [eF_succ]; rfl
/-- The blocks L; the rows of old entries, of new ones, of moves, of links; the records of two persons; what is known of the entries. -/
structure TS (w X : World) (L : List (Nat × Array Value × TypeId)) (vo : Value) (ko : Nat) (xo : List Value) (vn : Value) (kn : Nat) (xn : List Value) (vm : Value) (km : Nat) (xm : List Value) (vl : Value) (kl : Nat) (xl : List Value) (va : Value) (la : List Rc) (vb : Value) (lb : List Rc)
    (nm k : Nat) (EO NR : Nat → En) (VO VN : V3) (mf mt : Nat → Int) : Prop where
  bf : BF w X L
  tw : Two w.heap.size X 77 7 vo ko xo vn kn xn
  mv : X.ownsRow w.heap.size 63 2 vm km xm
  lk : X.ownsRow w.heap.size 3 1 vl kl xl
  ca : CR X 0 va la
  cb : CR X 0 vb lb
  ti : TrI w X nm k EO NR VO VN mf mt
section
variable {w X Y : World} {L L' : List (Nat × Array Value × TypeId)} {vo vn vm vl va vb : Value} {ko kn km kl : Nat} {xo xn xm xl : List Value} {la lb : List Rc} {nm k : Nat} {EO NR : Nat → En} {VO VN : V3} {mf mt : Nat → Int}
theorem TS.below (h : TS w X L vo ko xo vn kn xn vm km xm vl kl xl va la vb lb nm k EO NR VO VN mf mt) (hb : Below X.heap.size X Y) : TS w Y L vo ko xo vn kn xn vm km xm vl kl xl va la vb lb nm k EO NR VO VN mf mt :=
  ⟨h.bf.below hb, h.tw.below hb, own_below h.mv hb, own_below h.lk hb, own_below h.ca hb, own_below h.cb hb, h.ti.below hb⟩
theorem TS.sub (h : TS w X L vo ko xo vn kn xn vm km xm vl kl xl va la vb lb nm k EO NR VO VN mf mt) (hl : ∀ p, p ∈ L' → p ∈ L) : TS w X L' vo ko xo vn kn xn vm km xm vl kl xl va la vb lb nm k EO NR VO VN mf mt := ⟨h.bf.sub hl, h.tw, h.mv, h.lk, h.ca, h.cb, h.ti⟩
theorem TS.alloc (h : TS w X L vo ko xo vn kn xn vm km xm vl kl xl va la vb lb nm k EO NR VO VN mf mt) (cs : Array Value) (T : TypeId) : TS w (X.alloc (.cells cs T)) ((X.heap.size, cs, T) :: L) vo ko xo vn kn xn vm km xm vl kl xl va la vb lb nm k EO NR VO VN mf mt :=
  have h2 := h.below (below_alloc X (.cells cs T))
  ⟨h.bf.alloc cs T, h2.tw, h2.mv, h2.lk, h2.ca, h2.cb, h2.ti⟩
theorem TS.set1 (h : TS w X L vo ko xo vn kn xn vm km xm vl kl xl va la vb lb nm k EO NR VO VN mf mt) {b i : Nat} {cs cs' : Array Value} {T : TypeId} (hb : (b, cs, T) ∈ L) (v : Value) (hi : i < cs.size) (hc : cs.setIfInBounds i v = cs') (hl : ∀ y, y ∈ L' → y.1 ≠ b ∧ y ∈ L) (ht : T ≠ 77 ∧ T ≠ 63 ∧ T ≠ 3 ∧ T ≠ 140) :
    TS w (X.setCell ⟨b, i, none⟩ v) ((b, cs', T) :: L') vo ko xo vn kn xn vm km xm vl kl xl va la vb lb nm k EO NR VO VN mf mt :=
  have hg := (h.bf.bk b cs T hb).2
  ⟨h.bf.set1 hb v hi hc hl, ⟨own_set h.tw.o1 hg ht.1, own_set h.tw.o2 hg ht.1, h.tw.dis⟩, own_set h.mv hg ht.2.1, own_set h.lk hg ht.2.2.1, own_set h.ca hg ht.2.2.2, own_set h.cb hg ht.2.2.2,
    h.ti.fr (Fr.set X b i v) fun g cur hr e => by subst e; rw [hg] at hr; cases hr; exact ht.2.2.2 rfl⟩
theorem TS.setE (h : TS w X L vo ko xo vn kn xn vm km xm vl kl xl va la vb lb nm k EO NR VO VN mf mt) {b i : Nat} {cs cs' : Array Value} (hb : (b, cs, 77) ∈ L) (v : Value) (hi : i < cs.size) (hc : cs.setIfInBounds i v = cs') (hl : ∀ y, y ∈ L' → y.1 ≠ b ∧ y ∈ L) (ho : ∀ g, vo.ownBlock = some g → g ≠ b) (hn : ∀ g, vn.ownBlock = some g → g ≠ b) :
    TS w (X.setCell ⟨b, i, none⟩ v) ((b, cs', 77) :: L') vo ko xo vn kn xn vm km xm vl kl xl va la vb lb nm k EO NR VO VN mf mt :=
  have hg := (h.bf.bk b cs _ hb).2
  ⟨h.bf.set1 hb v hi hc hl, ⟨own_fr h.tw.o1 (Fr.set X b i v) (fun g _ e1 _ _ e3 => ho g e1 e3), own_fr h.tw.o2 (Fr.set X b i v) (fun g _ e1 _ _ e3 => hn g e1 e3), h.tw.dis⟩, own_set h.mv hg (by decide), own_set h.lk hg (by decide), own_set h.ca hg (by decide), own_set h.cb hg (by decide),
    h.ti.fr (Fr.set X b i v) fun g cur hr e => by subst e; rw [hg] at hr; cases hr⟩
theorem TS.setE7 (h : TS w X L vo ko xo vn kn xn vm km xm vl kl xl va la vb lb nm k EO NR VO VN mf mt) {b : Nat} {a0 a1 a2 a3 a4 a5 a6 : Value} (hb : (b, #[a0, a1, a2, a3, a4, a5, a6], 77) ∈ L) (v0 v1 v2 v3 v4 v5 v6 : Value) (hl : ∀ y, y ∈ L' → y.1 ≠ b ∧ y ∈ L) (ho : ∀ g, vo.ownBlock = some g → g ≠ b) (hn : ∀ g, vn.ownBlock = some g → g ≠ b) :
    TS w (((((((X.setCell ⟨b, 0, none⟩ v0).setCell ⟨b, 1, none⟩ v1).setCell ⟨b, 2, none⟩ v2).setCell ⟨b, 3, none⟩ v3).setCell ⟨b, 4, none⟩ v4).setCell ⟨b, 5, none⟩ v5).setCell ⟨b, 6, none⟩ v6) ((b, #[v0, v1, v2, v3, v4, v5, v6], 77) :: L') vo ko xo vn kn xn vm km xm vl kl xl va la vb lb nm k EO NR VO VN mf mt :=
  have h0 := h.setE (i := 0) (cs' := #[v0, a1, a2, a3, a4, a5, a6]) hb v0 (by simp) rfl (L' := L') hl ho hn
  have h1 := h0.setE (i := 1) (cs' := #[v0, v1, a2, a3, a4, a5, a6]) (.head _) v1 (by simp) rfl (L' := L') (fun y hy => ⟨(hl y hy).1, .tail _ hy⟩) ho hn
  have h2 := h1.setE (i := 2) (cs' := #[v0, v1, v2, a3, a4, a5, a6]) (.head _) v2 (by simp) rfl (L' := L') (fun y hy => ⟨(hl y hy).1, .tail _ hy⟩) ho hn
  have h3 := h2.setE (i := 3) (cs' := #[v0, v1, v2, v3, a4, a5, a6]) (.head _) v3 (by simp) rfl (L' := L') (fun y hy => ⟨(hl y hy).1, .tail _ hy⟩) ho hn
  have h4 := h3.setE (i := 4) (cs' := #[v0, v1, v2, v3, v4, a5, a6]) (.head _) v4 (by simp) rfl (L' := L') (fun y hy => ⟨(hl y hy).1, .tail _ hy⟩) ho hn
  have h5 := h4.setE (i := 5) (cs' := #[v0, v1, v2, v3, v4, v5, a6]) (.head _) v5 (by simp) rfl (L' := L') (fun y hy => ⟨(hl y hy).1, .tail _ hy⟩) ho hn
  have h6 := h5.setE (i := 6) (cs' := #[v0, v1, v2, v3, v4, v5, v6]) (.head _) v6 (by simp) rfl (L' := L') (fun y hy => ⟨(hl y hy).1, .tail _ hy⟩) ho hn
  h6
theorem TS.setE4 (h : TS w X L vo ko xo vn kn xn vm km xm vl kl xl va la vb lb nm k EO NR VO VN mf mt) {b : Nat} {a0 a1 a2 a3 a4 a5 a6 : Value} (hb : (b, #[a0, a1, a2, a3, a4, a5, a6], 77) ∈ L) (v0 v1 v2 v3 : Value) (hl : ∀ y, y ∈ L' → y.1 ≠ b ∧ y ∈ L) (ho : ∀ g, vo.ownBlock = some g → g ≠ b) (hn : ∀ g, vn.ownBlock = some g → g ≠ b) :
    TS w ((((X.setCell ⟨b, 0, none⟩ v0).setCell ⟨b, 1, none⟩ v1).setCell ⟨b, 2, none⟩ v2).setCell ⟨b, 3, none⟩ v3) ((b, #[v0, v1, v2, v3, a4, a5, a6], 77) :: L') vo ko xo vn kn xn vm km xm vl kl xl va la vb lb nm k EO NR VO VN mf mt :=
  have h0 := h.setE (i := 0) (cs' := #[v0, a1, a2, a3, a4, a5, a6]) hb v0 (by simp) rfl (L' := L') hl ho hn
  have h1 := h0.setE (i := 1) (cs' := #[v0, v1, a2, a3, a4, a5, a6]) (.head _) v1 (by simp) rfl (L' := L') (fun y hy => ⟨(hl y hy).1, .tail _ hy⟩) ho hn
  have h2 := h1.setE (i := 2) (cs' := #[v0, v1, v2, a3, a4, a5, a6]) (.head _) v2 (by simp) rfl (L' := L') (fun y hy => ⟨(hl y hy).1, .tail _ hy⟩) ho hn
  have h3 := h2.setE (i := 3) (cs' := #[v0, v1, v2, v3, a4, a5, a6]) (.head _) v3 (by simp) rfl (L' := L') (fun y hy => ⟨(hl y hy).1, .tail _ hy⟩) ho hn
  h3
theorem TS.set4 (h : TS w X L vo ko xo vn kn xn vm km xm vl kl xl va la vb lb nm k EO NR VO VN mf mt) {b : Nat} {a0 a1 a2 a3 : Value} {T : TypeId} (hb : (b, #[a0, a1, a2, a3], T) ∈ L) (v0 v1 v2 v3 : Value) (hl : ∀ y, y ∈ L' → y.1 ≠ b ∧ y ∈ L) (ht : T ≠ 77 ∧ T ≠ 63 ∧ T ≠ 3 ∧ T ≠ 140) :
    TS w ((((X.setCell ⟨b, 0, none⟩ v0).setCell ⟨b, 1, none⟩ v1).setCell ⟨b, 2, none⟩ v2).setCell ⟨b, 3, none⟩ v3) ((b, #[v0, v1, v2, v3], T) :: L') vo ko xo vn kn xn vm km xm vl kl xl va la vb lb nm k EO NR VO VN mf mt :=
  have h0 := h.set1 (i := 0) (cs' := #[v0, a1, a2, a3]) hb v0 (by simp) rfl (L' := L') hl ht
  have h1 := h0.set1 (i := 1) (cs' := #[v0, v1, a2, a3]) (.head _) v1 (by simp) rfl (L' := L') (fun y hy => ⟨(hl y hy).1, .tail _ hy⟩) ht
  have h2 := h1.set1 (i := 2) (cs' := #[v0, v1, v2, a3]) (.head _) v2 (by simp) rfl (L' := L') (fun y hy => ⟨(hl y hy).1, .tail _ hy⟩) ht
  have h3 := h2.set1 (i := 3) (cs' := #[v0, v1, v2, v3]) (.head _) v3 (by simp) rfl (L' := L') (fun y hy => ⟨(hl y hy).1, .tail _ hy⟩) ht
  h3
theorem TS.setca (h : TS w X L vo ko xo vn kn xn vm km xm vl kl xl va la vb lb nm k EO NR VO VN mf mt) {v : Value} {l : List Rc} (hc : CR X 0 v l) : TS w X L vo ko xo vn kn xn vm km xm vl kl xl v l vb lb nm k EO NR VO VN mf mt := ⟨h.bf, h.tw, h.mv, h.lk, hc, h.cb, h.ti⟩
theorem TS.setcb (h : TS w X L vo ko xo vn kn xn vm km xm vl kl xl va la vb lb nm k EO NR VO VN mf mt) {v : Value} {l : List Rc} (hc : CR X 0 v l) : TS w X L vo ko xo vn kn xn vm km xm vl kl xl va la v l nm k EO NR VO VN mf mt := ⟨h.bf, h.tw, h.mv, h.lk, h.ca, hc, h.ti⟩
theorem BF.grows {row : Option Nat} (h : BF w X L) (hg : X.grownBy Y row) (hlow : ∀ q, row = some q → w.heap.size ≤ q) (hl : ∀ p, p ∈ L → row ≠ some p.1) : BF w Y L :=
  h.fro (Fr.grown hg) (fun q hq e => by have := hlow q e; omega) (fun p hp e => hl p hp e)
theorem TS.growO (h : TS w X L vo ko xo vn kn xn vm km xm vl kl xl va la vb lb nm k EO NR VO VN mf mt) {v : Value} {n : Nat} {xs : List Value} (ho : Y.ownsRow w.heap.size 77 7 v n xs) (hg : X.grownBy Y vo.ownBlock) (hl : v.ownBlock = vo.ownBlock ∨ v.ownBlock = some X.heap.size) (hL : ∀ p, p ∈ L → vo.ownBlock ≠ some p.1) :
    TS w Y L v n xs vn kn xn vm km xm vl kl xl va la vb lb nm k EO NR VO VN mf mt :=
  ⟨h.bf.grows hg (fun _ e => own_low h.tw.o1 e) hL, h.tw.app1 ho hg hl, own_grow h.mv hg h.tw.o1 (by decide), own_grow h.lk hg h.tw.o1 (by decide), own_grow h.ca hg h.tw.o1 (by decide), own_grow h.cb hg h.tw.o1 (by decide),
    h.ti.fr (Fr.grown hg) fun g cur hr e => own_type_ne h.tw.o1 hr (by decide) e⟩
theorem TS.growN (h : TS w X L vo ko xo vn kn xn vm km xm vl kl xl va la vb lb nm k EO NR VO VN mf mt) {v : Value} {n : Nat} {xs : List Value} (ho : Y.ownsRow w.heap.size 77 7 v n xs) (hg : X.grownBy Y vn.ownBlock) (hl : v.ownBlock = vn.ownBlock ∨ v.ownBlock = some X.heap.size) (hL : ∀ p, p ∈ L → vn.ownBlock ≠ some p.1) :
    TS w Y L vo ko xo v n xs vm km xm vl kl xl va la vb lb nm k EO NR VO VN mf mt :=
  ⟨h.bf.grows hg (fun _ e => own_low h.tw.o2 e) hL, (h.tw.swap.app1 ho hg hl).swap, own_grow h.mv hg h.tw.o2 (by decide), own_grow h.lk hg h.tw.o2 (by decide), own_grow h.ca hg h.tw.o2 (by decide), own_grow h.cb hg h.tw.o2 (by decide),
    h.ti.fr (Fr.grown hg) fun g cur hr e => own_type_ne h.tw.o2 hr (by decide) e⟩
/-- The list of one new entry, built anew. -/
theorem TS.buildN (h : TS w X L vo ko xo vn kn xn vm km xm vl kl xl va la vb lb nm k EO NR VO VN mf mt) (cs : Array Value) (hc : cs.size = 1 * 7) : TS w (X.alloc (.cells cs 77)) L vo ko xo (.slice (some ⟨X.heap.size, 0, none⟩) 1 1) 1 cs.toList vm km xm vl kl xl va la vb lb nm k EO NR VO VN mf mt :=
  have h2 := h.below (below_alloc X (.cells cs 77))
  ⟨h2.bf, ⟨h2.tw.o1, own_new X 77 7 1 w.heap.size cs h.bf.fr.size hc (by decide), fun g e1 e2 => by
    have h3 := own_lt h.tw.o1 e1
    have e3 : some X.heap.size = some g := e2
    injection e3 with e4
    omega⟩, h2.mv, h2.lk, h2.ca, h2.cb, h2.ti⟩
theorem TS.growM (h : TS w X L vo ko xo vn kn xn vm km xm vl kl xl va la vb lb nm k EO NR VO VN mf mt) {v : Value} {n : Nat} {xs : List Value} (ho : Y.ownsRow w.heap.size 63 2 v n xs) (hg : X.grownBy Y vm.ownBlock) (hL : ∀ p, p ∈ L → p.2.2 ≠ 63) :
    TS w Y L vo ko xo vn kn xn v n xs vl kl xl va la vb lb nm k EO NR VO VN mf mt :=
  ⟨h.bf.grows hg (fun _ e => own_low h.mv e) fun p hp => own_type_ne h.mv (h.bf.bk p.1 p.2.1 p.2.2 hp).2 (hL p hp), ⟨own_grow h.tw.o1 hg h.mv (by decide), own_grow h.tw.o2 hg h.mv (by decide), h.tw.dis⟩, ho, own_grow h.lk hg h.mv (by decide), own_grow h.ca hg h.mv (by decide), own_grow h.cb hg h.mv (by decide),
    h.ti.fr (Fr.grown hg) fun g cur hr e => own_type_ne h.mv hr (by decide) e⟩
theorem TS.growL (h : TS w X L vo ko xo vn kn xn vm km xm vl kl xl va la vb lb nm k EO NR VO VN mf mt) {v : Value} {n : Nat} {xs : List Value} (ho : Y.ownsRow w.heap.size 3 1 v n xs) (hg : X.grownBy Y vl.ownBlock) (hL : ∀ p, p ∈ L → p.2.2 ≠ 3) :
    TS w Y L vo ko xo vn kn xn vm km xm v n xs va la vb lb nm k EO NR VO VN mf mt :=
  ⟨h.bf.grows hg (fun _ e => own_low h.lk e) fun p hp => own_type_ne h.lk (h.bf.bk p.1 p.2.1 p.2.2 hp).2 (hL p hp), ⟨own_grow h.tw.o1 hg h.lk (by decide), own_grow h.tw.o2 hg h.lk (by decide), h.tw.dis⟩, own_grow h.mv hg h.lk (by decide), ho, own_grow h.ca hg h.lk (by decide), own_grow h.cb hg h.lk (by decide),
    h.ti.fr (Fr.grown hg) fun g cur hr e => own_type_ne h.lk hr (by decide) e⟩
theorem TS.srcN (h : TS w X L vo ko xo vn kn xn vm km xm vl kl xl va la vb lb nm k EO NR VO VN mf mt) : ∃ a c, vn = .slice a kn c ∧ Src X a 7 kn xn := by
  obtain ⟨a, c, rfl⟩ := own_slice' h.tw.o2
  refine ⟨a, c, rfl, ?_⟩
  rcases Nat.eq_zero_or_pos kn with h0 | h0
  · subst h0
    have hx : xn = [] := by
      have := h.tw.o2.1
      exact List.eq_nil_of_length_eq_zero (by omega)
    subst hx
    exact ⟨rfl, fun j u hu => by simp at hu⟩
  · obtain ⟨g, rfl⟩ := own_somep h.tw.o2 h0
    exact own_src h.tw.o2
theorem TS.next (h : TS w X L vo ko xo vn kn xn vm km xm vl kl xl va la vb lb nm k EO NR VO VN mf mt) {a b : En} {ra rb : Value × Value × Value} (ha : QX w X ra a) (hb : QX w X rb b) (ht : TrE a b) :
    TS w X L vo ko xo vn kn xn vm km xm vl kl xl va la vb lb nm (k + 1) (addE EO k a) (catE (fun _ => b) NR 1) (addV VO k ra) (catE (fun _ => rb) VN 1) (addZ mf (nm + k) a.pl) (addZ mt (nm + k) b.pl) := ⟨h.bf, h.tw, h.mv, h.lk, h.ca, h.cb, h.ti.next ha hb ht⟩
end
end Go.Proofs.YtgbdbikjckfgmaaGreat
namespace Go.Proofs.YtgbdbikjckfgmaaGreat
open Go.RowKit Go.Shelf
theorem Tryz.infoRMv : (Tryz.prog.info? 63).map (fun i => (i.zero, i.size, i.bytes)) = some (some (.agg #[.int .i64 0, .int .i64 0]), 2, 16) := by kernel_rfl
theorem CR.zero {X : World} {base : Nat} {v : Value} {l : List Rc} (h : CR X base v l) : CR X 0 v l := by
  rcases h.2 with ⟨e1, e2⟩ | ⟨g, cap, cur, e1, _, r⟩
  · exact ⟨h.1, .inl ⟨e1, e2⟩⟩
  · exact ⟨h.1, .inr ⟨g, cap, cur, e1, Nat.zero_le _, r⟩⟩
theorem iL_snoc (z : Nat → Int) (n : Nat) : iL z n ++ [.int .i64 (z n)] = iL z (n + 1) := by
  unfold iL; rw [List.range_succ, List.map_append]; rfl
def w3 (a b c : Int) : Nat → Int := fun j => if j = 0 then a else if j = 1 then b else c
theorem words3 {X : World} {B : Nat} {a b c : Int} {T : TypeId} {w : World} {L : List (Nat × Array Value × TypeId)} (h : BF w X L) (hm : (B, #[.int .u16 a, .int .u16 b, .int .u16 c], T) ∈ L) (ha : 0 ≤ a ∧ a ≤ 65535) (hb : 0 ≤ b ∧ b ≤ 65535) (hc : 0 ≤ c ∧ c ≤ 65535) : WordsIn X (.slice (some ⟨B, 0, none⟩) 3 3) 3 (w3 a b c) := by
  refine .inr ⟨B, 0, 3, rfl, (h.lt hm).2, fun j hj => ?_⟩
  have h0 := h.cell hm 0
  have h1 := h.cell hm 1
  have h2 := h.cell hm 2
  unfold w3
  rcases (show j = 0 ∨ j = 1 ∨ j = 2 by omega) with rfl | rfl | rfl
  · exact ⟨h0, by simp; omega⟩
  · exact ⟨h1, by simp; omega⟩
  · exact ⟨h2, by simp; omega⟩
set_option maxRecDepth 100000 in
set_option maxHeartbeats 32000000 in
theorem linkTrue_thick (x : FV) (f : Fl) (wa : Option Addr) (wn wc : Nat) (w : World) (h : FlQ QR w x f) (ht : f.rdy = false) :
    Calls Tryz.prog 13 #[.agg #[.slice x.oa f.no x.oc, .slice x.na f.nw x.nc, .slice x.ma f.nm x.mc], .slice wa wn wc] w fun e w' => e = .returned (.bool true) ∧ Below w.heap.size w w' := by
  obtain ⟨oa, oc, na, nc, ma, mc⟩ := x
  have HTH := Lib.hid (readyW ⟨oa, oc, na, nc, ma, mc⟩ f w h false ht)
  clear h ht
  dsimp only at HTH ⊢
  generalize f.no = no at *
  generalize f.nw = nw at *
  generalize f.nm = nm at *
  have HA := Lib.hid ((BF.base w).alloc #[.slice oa no oc, .slice na nw nc, .slice ma nm mc] 25)
  go_enter Tryz.func13, Tryz.ntmps13
  have c0 := HA.out.cell (.head _) 0
  have c1 := HA.out.cell (.head _) 1
  have c2 := HA.out.cell (.head _) 2
  go_wp2_with fail
  refine (HTH.out _ HA.out.fr).mono ?_
  rintro _ w1 ⟨rfl, hb⟩
  have HA' := Lib.hid (HA.out.below hb)
  clear HA
  have HA := HA'
  clear HA'
  clear hb c0 c1 c2
  go_wp2_with fail
  refine (awake5_any _).mono ?_
  rintro _ w2 ⟨rfl, hb⟩
  have HA' := Lib.hid (HA.out.below hb)
  clear HA
  have HA := HA'
  clear HA'
  clear hb
  go_wp2_with fail
  go_ret
  exact ⟨rfl, HA.out.fr⟩
set_option maxRecDepth 100000 in
set_option maxHeartbeats 32000000 in
theorem linkTrue_none (x : FV) (f : Fl) (wa : Option Addr) (wc : Nat) (w : World) (h : FlQ QR w x f) (hr : f.rdy = true) :
    Calls Tryz.prog 13 #[.agg #[.slice x.oa f.no x.oc, .slice x.na f.nw x.nc, .slice x.ma f.nm x.mc], .slice wa 0 wc] w fun e w' => e = .returned (.bool true) ∧ Below w.heap.size w w' := by
  obtain ⟨oa, oc, na, nc, ma, mc⟩ := x
  have HTH := Lib.hid (readyW ⟨oa, oc, na, nc, ma, mc⟩ f w h true hr)
  clear h hr
  dsimp only at HTH ⊢
  generalize f.no = no at *
  generalize f.nw = nw at *
  generalize f.nm = nm at *
  have HA := Lib.hid ((BF.base w).alloc #[.slice oa no oc, .slice na nw nc, .slice ma nm mc] 25)
  go_enter Tryz.func13, Tryz.ntmps13
  have c0 := HA.out.cell (.head _) 0
  have c1 := HA.out.cell (.head _) 1
  have c2 := HA.out.cell (.head _) 2
  go_wp2_with fail
  refine (HTH.out _ HA.out.fr).mono ?_
  rintro _ w1 ⟨rfl, hb⟩
  have HA' := Lib.hid (HA.out.below hb)
  clear HA
  have HA := HA'
  clear HA'
  clear hb c0 c1 c2
  go_wp2_with fail
  refine (awake5_any _).mono ?_
  rintro _ w2 ⟨rfl, hb⟩
  have HA' := Lib.hid (HA.out.below hb)
  clear HA
  have HA := HA'
  clear HA'
  clear hb
  go_wp2_with fail
  go_ret
  exact ⟨rfl, HA.out.fr⟩
structure Box (T : Prop) : Prop where
  out : T
theorem joinB {T G : Prop} (h : Box T → G) (t : T) : G := h ⟨t⟩
end Go.Proofs.YtgbdbikjckfgmaaGreat
