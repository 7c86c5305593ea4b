/- Age: persons, births, Same; the reference (turned from the Age seat) (8 of 8). -/
import Derived.Test.YtgbdbikjckfgmaaGreatWG
import Derived.Test.YtgbdbikjckfgmaaGreatPA
import Derived.Test.YtgbdbikjckfgmaaGreatPB
import Derived.Test.YtgbdbikjckfgmaaGreatPC
import Derived.Test.YtgbdbikjckfgmaaGreatPD
import Derived.Test.YtgbdbikjckfgmaaGreatPE
import Derived.Test.YtgbdbikjckfgmaaGreatPG
import Derived.BigQuiet
import Derived.Carry
import Derived.Deep.AppendLies
import Derived.Deep.DeepCutAuto
import Derived.Deep.DrawnRows
import Derived.Deep.MidRow
import Derived.Deep.QuietTactic
import Derived.Deep.RegionHeld3
import Derived.Deep.RegionLaw
import Derived.Deep.RegionLawGrows
import Derived.Deep.RegionWith
import Derived.Deep.Slices
import Derived.Deep.Strs
import Derived.Laws.EntriesVeiled
import Derived.Laws.Rows
import Derived.Laws.Tables
import Derived.Lib.Hide
import Derived.Lib.SliceRun
import Derived.Lib.SmallJoins
import Derived.LoopIn
import Derived.LoopNIn
import Derived.LoopTactic
import Derived.Maps.AppendAt
import Derived.OpenShut
import Derived.OrdersHeld
import Derived.OrdersIn
import Derived.Outline
import Derived.OwnWalkIn
import Derived.ProofKit
import Derived.RangeFuncBound
import Derived.RangeFuncCalls
import Derived.RangeFuncLeaves
import Derived.RangeFuncNested
import Derived.Shelf.Abstract
import Derived.Shelf.RegionOpen
import Derived.TacticsInMore
import Derived.WalkKit
import Derived.WalkLawsBesides
import Derived.WalkSpells
namespace Go.Proofs.YtgbdbikjckfgmaaGreat
open Go.RowKit Go.Shelf
attribute [local go_sem ↓] Go.wp_at_zero Go.wp_at_succ
set_option maxRecDepth 100000 in
set_option maxHeartbeats 8000000 in
theorem denies_any (v av : Value) (p : Pers) (birth : Int) (w : World) (h : PersIn w v p) (hp : p.fault = 0) (ha : FlagsAt w av p.fl p.nc) (hb0 : -50000 ≤ birth) (hb1 : birth ≤ 50000) :
    Calls Tryz.prog 131 #[v, av, .int .i64 birth] w (GivesN w (castL (p.denies birth))) := by
  obtain ⟨pn1, pn2, pn3, pl1, pl2, pl3, pl4, pl5, pR, pOK⟩ := Pers.ok_facts hp
  have POK := Lib.hid pOK; clear hp pOK pR
  obtain ⟨rv, cv, rfl, h1, h2⟩ := h
  obtain ⟨ra, rc, rfl⟩ := h1.slice
  obtain ⟨ca, cc, rfl⟩ := h2.slice
  have HC := Lib.hid h2; clear h1 h2
  obtain ⟨aa, ac, rfl⟩ := ha.slice
  have HF := Lib.hid ha; clear ha
  obtain ⟨i0, hi0, hz0, hz1, hz2⟩ := info_parts Tryz.infoInt
  go_enter Tryz.func131, Tryz.ntmps131
  go_wp2_with fail
  have HW0 : Hid (Below w.heap.size w (w.alloc (.cells #[.int .i64 p.lo, .int .i64 p.hi, .slice ra p.nr rc, .slice ca p.nc cc] 75))) := below_alloc _ _
  have HK0 : Hid ((w.alloc (.cells #[.int .i64 p.lo, .int .i64 p.hi, .slice ra p.nr rc, .slice ca p.nc cc] 75)).heap[w.heap.size]? = some (.cells #[.int .i64 p.lo, .int .i64 p.hi, .slice ra p.nr rc, .slice ca p.nc cc] 75 (0, 0))) := heap_alloc_new _ _
  have hsz0 : (w.alloc (.cells #[.int .i64 p.lo, .int .i64 p.hi, .slice ra p.nr rc, .slice ca p.nc cc] 75)).heap.size = w.heap.size + 1 := by simp
  have HSZ := Lib.hid hsz0; clear hsz0
  generalize w.alloc (.cells #[.int .i64 p.lo, .int .i64 p.hi, .slice ra p.nr rc, .slice ca p.nc cc] 75) = W0 at *
  go_loopw [7, 8] (fun v i wr => ∃ k : Nat, k ≤ p.nc ∧ i = .int .i64 k ∧ wr.ownsRow (w.heap.size + 1) 3 1 v (castL (dnTo p birth k)).length (intsV (castL (dnTo p birth k))) ∧ Below (w.heap.size + 1) W0 wr) (fun _ i _ => p.nc - (intOf i).toNat)
  case atStart => exact ⟨0, Nat.zero_le _, rfl, World.ownsRow_nil _ _ _ _, Below.refl _ _⟩
  case round =>
    obtain ⟨k, hk, rfl, hown, hbl⟩ := hrel
    obtain ⟨ov, oc, rfl⟩ := own_slice' hown
    have hlen := dnTo_length p birth k
    rw [← castL_length] at hlen
    generalize hkk : (castL (dnTo p birth k)).length = kk at *
    have HBL := Lib.hid hbl
    have HBW : Hid (Below w.heap.size w wr) := HW0.out.trans (hbl.mono (by omega))
    have HKW : Hid (wr.heap[w.heap.size]? = some (.cells #[.int .i64 p.lo, .int .i64 p.hi, .slice ra p.nr rc, .slice ca p.nc cc] 75 (0, 0))) := (hbl.block _ (by omega)).trans HK0.out
    obtain ⟨d0, d1, d2, d3⟩ := cells4 HKW.out
    have HOWN := Lib.hid hown; have HKK := Lib.hid hkk
    have HBS : Hid (w.heap.size + 1 ≤ wr.heap.size) := by have := hbl.size; have := HSZ.out; unfold Hid; omega
    clear hown hbl d0 d1 d2 hkk
    by_cases hlt : k < p.nc
    · obtain ⟨b, off, rfl, hbs, _⟩ := HC.out.at HBW.out hlt
      have hok := POK.out k hlt
      obtain ⟨rd1, rd2, _⟩ := Rc.ok_facts hok
      obtain ⟨ag, rfl, hag⟩ : ∃ ag, aa = some ⟨ag, 0, none⟩ ∧ ∀ X : World, Below w.heap.size w X → X.rangeAt ag (k * 121) (flagsL (p.fl k)) := by
        rcases HF.out with ⟨_, h⟩ | ⟨g, cap, e, hg, hr⟩
        · omega
        · cases e; exact ⟨g, rfl, fun X hX i u hu => kept hX hg (hr k hlt i u hu)⟩
      have HAG := Lib.hid hag; clear hag hok
      have HCAT := Lib.hid (fun (W : World) (hW : Below w.heap.size w W) => HC.out.at hW hlt)
      have HDS : Hid (dnTo p birth (k + 1) = if alw (p.fl k) (p.C k).day birth = true then dnTo p birth k else dnTo p birth k ++ [k]) := dnTo_succ p birth k
      generalize (p.C k).day = day at *
      generalize (p.C k).rule = rule at *
      generalize (p.C k).num = num at *
      generalize p.fl k = fl at *
      have HALW := Lib.hid (fun W => allows_any day rule num fl birth W rd1 rd2 hb0 hb1)
      have ki : (0 : Int) ≤ (k : Int) := by omega
      have kj : (k : Int) < (p.nc : Int) := by omega
      have HSB : Hid (∀ X : World, Below wr.heap.size wr X → X.cell? ⟨w.heap.size, 3, none⟩ = some (.slice (some ⟨b, off, none⟩) p.nc cc) ∧ X.cell? ⟨b, off + k * 3, none⟩ = some (.int .i64 day) ∧ X.cell? ⟨b, off + k * 3 + 1, none⟩ = some (.int .i64 rule) ∧ X.cell? ⟨b, off + k * 3 + 2, none⟩ = some (.int .i64 num) ∧ X.rangeAt ag (k * 121) (flagsL fl)) := fun X hX => by
        have hXW : Below w.heap.size w X := below_step HBW.out hX
        obtain ⟨_, _, e1, _, y0, y1, y2⟩ := HCAT.out X hXW
        cases e1
        exact ⟨kept hX (by have := HBS.out; omega) d3, y0, y1, y2, HAG.out X hXW⟩
      go_upto_region 5 with fail
      go_cut [27] (fun s wx => s = .bool (!(alw fl day birth)) ∧ Below wr.heap.size wr wx)
      case first =>
        have HL : Hid (Below wr.heap.size wr wr.drew) := (Below.refl _ _).drew
        clear d3
        refine wp_region_held_drew (S := fun X => X.cell? ⟨w.heap.size, 3, none⟩ = some (.slice (some ⟨b, off, none⟩) p.nc cc) ∧ X.cell? ⟨b, off + k * 3, none⟩ = some (.int .i64 day) ∧ X.cell? ⟨b, off + k * 3 + 1, none⟩ = some (.int .i64 rule) ∧ X.cell? ⟨b, off + k * 3 + 2, none⟩ = some (.int .i64 num) ∧ X.rangeAt ag (k * 121) (flagsL fl)) (by kernel_rfl) (HSB.out _ HL.out) (fun hS => ?_)
        generalize World.drew wr = X at *
        refine wpAnyH_take (i := 0) (oi := ⟨some 16, _, _, _, _, _⟩) (v := .pointer (some ⟨w.heap.size, 3, none⟩)) rfl (by kernel_rfl) (by kernel_rfl) (by kernel_rfl) (fun _ _ _ h => h) (Or.inl ⟨by rfl, ?_⟩) hS ?_
        · intro W' hSw; (try dsimp only at hSw); obtain ⟨s0, s1, s2, s3, _⟩ := hSw; go_simp
        try simp only [Act.put, List.setIfInBounds_toArray, List.set_cons_zero, List.set_cons_succ]
        refine wpAnyH_take (i := 1) (oi := ⟨some 17, _, _, _, _, _⟩) (v := .slice (some ⟨b, off, none⟩) p.nc cc) rfl (by kernel_rfl) (by kernel_rfl) (by kernel_rfl) (fun _ _ _ h => h) (Or.inl ⟨by rfl, ?_⟩) hS ?_
        · intro W' hSw; (try dsimp only at hSw); obtain ⟨s0, s1, s2, s3, _⟩ := hSw; go_simp
        try simp only [Act.put, List.setIfInBounds_toArray, List.set_cons_zero, List.set_cons_succ]
        refine wpAnyH_take (i := 2) (oi := ⟨some 18, _, _, _, _, _⟩) (v := .int .i64 k) rfl (by kernel_rfl) (by kernel_rfl) (by kernel_rfl) (fun _ _ _ h => h) (Or.inl ⟨by rfl, ?_⟩) hS ?_
        · intro W' hSw; (try dsimp only at hSw); obtain ⟨s0, s1, s2, s3, _⟩ := hSw; go_simp
        try simp only [Act.put, List.setIfInBounds_toArray, List.set_cons_zero, List.set_cons_succ]
        refine wpAnyH_take (i := 3) (oi := ⟨some 19, _, _, _, _, _⟩) (v := .pointer (some ⟨b, off + k * 3, none⟩)) rfl (by kernel_rfl) (by kernel_rfl) (by kernel_rfl) (fun _ _ _ h => h) (Or.inl ⟨by rfl, ?_⟩) hS ?_
        · intro W' hSw; (try dsimp only at hSw); obtain ⟨s0, s1, s2, s3, _⟩ := hSw; go_simp
        try simp only [Act.put, List.setIfInBounds_toArray, List.set_cons_zero, List.set_cons_succ]
        refine wpAnyH_take (i := 4) (oi := ⟨some 20, _, _, _, _, _⟩) (v := .agg #[.int .i64 day, .int .i64 rule, .int .i64 num]) rfl (by kernel_rfl) (by kernel_rfl) (by kernel_rfl) (fun _ _ _ h => h) (Or.inl ⟨by rfl, ?_⟩) hS ?_
        · intro W' hSw; (try dsimp only at hSw); obtain ⟨s0, s1, s2, s3, _⟩ := hSw; go_simp
        try simp only [Act.put, List.setIfInBounds_toArray, List.set_cons_zero, List.set_cons_succ]
        refine wpAnyH_take (i := 5) (oi := ⟨some 21, _, _, _, _, _⟩) (v := .slice (some ⟨ag, 0, none⟩) p.nc ac) rfl (by kernel_rfl) (by kernel_rfl) (by kernel_rfl) (fun _ _ _ h => h) (Or.inl ⟨by rfl, ?_⟩) hS ?_
        · intro W' hSw; (try dsimp only at hSw); obtain ⟨s0, s1, s2, s3, _⟩ := hSw; go_simp
        try simp only [Act.put, List.setIfInBounds_toArray, List.set_cons_zero, List.set_cons_succ]
        refine wpAnyH_take (i := 6) (oi := ⟨some 22, _, _, _, _, _⟩) (v := .int .i64 k) rfl (by kernel_rfl) (by kernel_rfl) (by kernel_rfl) (fun _ _ _ h => h) (Or.inl ⟨by rfl, ?_⟩) hS ?_
        · intro W' hSw; (try dsimp only at hSw); obtain ⟨s0, s1, s2, s3, _⟩ := hSw; go_simp
        try simp only [Act.put, List.setIfInBounds_toArray, List.set_cons_zero, List.set_cons_succ]
        refine wpAnyH_take (i := 7) (oi := ⟨some 23, _, _, _, _, _⟩) (v := .pointer (some ⟨ag, k * 121, none⟩)) rfl (by kernel_rfl) (by kernel_rfl) (by kernel_rfl) (fun _ _ _ h => h) (Or.inl ⟨by rfl, ?_⟩) hS ?_
        · intro W' hSw; (try dsimp only at hSw); obtain ⟨s0, s1, s2, s3, _⟩ := hSw; go_simp
        try simp only [Act.put, List.setIfInBounds_toArray, List.set_cons_zero, List.set_cons_succ]
        refine wpAnyH_take (i := 8) (oi := ⟨some 24, _, _, _, _, _⟩) (v := .agg (flagsA fl)) rfl (by kernel_rfl) (by kernel_rfl) (by kernel_rfl) (fun _ _ _ h => h) (yieldsIf_load_flags (by rfl) (.tmp 23) (by rfl) ag (k * 121) (by rfl) fl (fun W hW => hW.2.2.2.2)) hS ?_
        try simp only [Act.put, List.setIfInBounds_toArray, List.set_cons_zero, List.set_cons_succ]
        refine wpAnyH_take (i := 9) (oi := ⟨some 25, _, _, _, _, _⟩) (v := .int .i64 birth) rfl (by kernel_rfl) (by kernel_rfl) (by kernel_rfl) (fun _ _ _ h => h) (Or.inl ⟨by rfl, ?_⟩) hS ?_
        · intro W' hSw; (try dsimp only at hSw); obtain ⟨s0, s1, s2, s3, _⟩ := hSw; go_simp
        try simp only [Act.put, List.setIfInBounds_toArray, List.set_cons_zero, List.set_cons_succ]
        refine wpAnyH_ready (rs := [10]) (by kernel_rfl) (by simp) ?_
        refine AllReadyH.cons (o := ⟨some 26, _, _, _, _, _⟩) rfl (fun K hK => ?_) ?_
        ·
          go_simp
          refine (HALW.out X).mono ?_
          rintro _ X0 ⟨rfl, hx0⟩
          (try go_wp2_with fail)
          have HL0 := Lib.hid (below_step HL.out hx0)
          refine hK.out _ _ (HSB.out _ HL0.out) (fun hS => ?_)
          clear hK K
          try simp only [Act.put, List.setIfInBounds_toArray, List.set_cons_zero, List.set_cons_succ]
          clear hx0
          refine wpAnyH_take (i := 11) (oi := ⟨some 27, _, _, _, _, _⟩) (v := .bool (!(alw fl day birth))) rfl (by kernel_rfl) (by kernel_rfl) (by kernel_rfl) (fun _ _ _ h => h) (Or.inl ⟨by rfl, ?_⟩) hS ?_
          · intro W' hSw; (try dsimp only at hSw); obtain ⟨s0, s1, s2, s3, _⟩ := hSw; go_simp
          try simp only [Act.put, List.setIfInBounds_toArray, List.set_cons_zero, List.set_cons_succ]
          refine wpAnyH_done (by kernel_rfl) ?_ _
          go_wp2_with fail
          go_meet
          exact ⟨rfl, HL0.out⟩
        exact AllReadyH.nil
      case rest =>
        obtain ⟨rfl, hbc⟩ := hcut
        have HBC := Lib.hid hbc
        clear hbc d3
        have HO2 := Lib.hid (own_fr HOWN.out (Fr.below HBC.out (fun _ => False)) (fun _ _ _ _ _ e => e))
        have HB2 : Hid (Below (w.heap.size + 1) W0 wc) := HBL.out.trans (HBC.out.mono HBS.out)
        have hsc : wr.heap.size ≤ wc.heap.size := HBC.out.size
        cases hal : alw fl day birth
        · have HN : Hid (castL (dnTo p birth (k + 1)) = castL (dnTo p birth k) ++ [(k : Int)]) := by unfold Hid; rw [HDS.out, if_neg (by rw [hal]; decide)]; simp [castL]
          generalize castL (dnTo p birth k) = l at *
          go_wp2_with (at_builtin; refine wpList_append_lies _ rfl (.tmp 28) (.tmp 30) 47 rfl (w.heap.size + 1) 3 i0 (.int .i64 0) 1 8 Tryz.underlying47 hi0 hz0 hz1 hz2 rfl (by omega) (.slice ov kk oc) kk (intsV l) rfl (World.ownsRow.alloc HO2.out _) ⟨wc.heap.size, 0, none⟩ 1 1 [.int .i64 k] rfl rfl ?c1 ?c2 ?c3 ?c4 ?c5 ?c6 (wc.heap.size + 1) ?c7 ?_)
          case c1 => exact World.news_of_block (heap_alloc_new wc (.cells #[.int .i64 k] 3))
          case c2 => simp [Value.oneCell']
          case c3 => omega
          case c4 => unfold maxLen; omega
          case c5 => omega
          case c6 => have := HBS.out; simp; omega
          case c7 => simp
          intro g cap' X hown hgrow hat hlt1
          have HX : Hid (Below (w.heap.size + 1) W0 X) := HB2.out.trans (((below_alloc wc (.cells #[.int .i64 k] 3)).mono (by have := HBS.out; omega)).trans ((Fr.grown hgrow).low (by have := HBS.out; simp; omega) (fun q hq e => by have := own_low HO2.out e; omega)))
          have HO : Hid (X.ownsRow (w.heap.size + 1) 3 1 (.slice (some ⟨g, 0, none⟩) (kk + 1) cap') (l ++ [(k : Int)]).length (intsV (l ++ [(k : Int)]))) := by unfold Hid; rw [intsV_snoc, List.length_append, HKK.out]; exact hown
          clear hown hgrow hat hlt1
          go_wp2
          go_roundw
          case rel => exact ⟨k + 1, by omega, by go_num, by rw [HN.out]; exact HO.out, HX.out⟩
          case measure => simp [intOf]; omega
        · have HN : Hid (castL (dnTo p birth (k + 1)) = castL (dnTo p birth k)) := by unfold Hid; rw [HDS.out, if_pos hal]
          go_wp2
          go_roundw
          case rel => exact ⟨k + 1, by omega, by go_num, by rw [HN.out, HKK.out]; exact HO2.out, HB2.out⟩
          case measure => simp [intOf]; omega
    · obtain rfl : k = p.nc := by omega
      go_wp2
      go_ret
      refine ⟨_, rfl, ?_, HBW.out⟩
      unfold IL
      rw [show castL (p.denies birth) = castL (dnTo p birth p.nc) from rfl, HKK.out]
      exact own_mono HOWN.out (Nat.zero_le _)
theorem possible_iff {p : Pers} (hp : p.fault = 0) (b : Int) : hasR p.born b = (inB b p.lo p.hi && ((p.denies b).length == 0)) := by
  rw [Bool.eq_iff_iff, (born_has hp).2, Bool.and_eq_true, beq_iff_eq, List.length_eq_zero_iff]
  have h1 : inB b p.lo p.hi = true ↔ p.lo ≤ b ∧ b ≤ p.hi := by simp [inB]
  have h2 : p.denies b = [] ↔ ∀ j : Nat, j < p.nc → p.okB j b = true := by
    unfold Pers.denies
    rw [List.filter_eq_nil_iff]
    constructor
    · intro h j hj; have := h j (List.mem_range.2 hj); simpa using this
    · intro h j hj; simp [h j (List.mem_range.1 hj)]
  rw [h1, h2, and_assoc]
set_option maxRecDepth 100000 in
set_option maxHeartbeats 4000000 in
theorem possible_any (v av : Value) (p : Pers) (birth : Int) (w : World) (h : PersIn w v p) (hp : p.fault = 0) (ha : FlagsAt w av p.fl p.nc) :
    Calls Tryz.prog 106 #[v, av, .int .i64 birth] w fun e w' => e = .returned (.bool (hasR p.born birth)) ∧ Below w.heap.size w w' := by
  have HPF := Lib.hid hp
  obtain ⟨pn1, pn2, pn3, pl1, pl2, pl3, pl4, pl5, _⟩ := Pers.ok_facts hp
  have HPI := Lib.hid (possible_iff hp birth)
  have HP := Lib.hid h
  obtain ⟨rv, cv, rfl, h1, h2⟩ := h
  obtain ⟨ra, rc, rfl⟩ := h1.slice
  obtain ⟨ca, cc, rfl⟩ := h2.slice
  have HF := Lib.hid ha
  obtain ⟨aa, ac, rfl⟩ := ha.slice
  clear hp h1 h2 ha
  have HB0 : Hid (Below w.heap.size w (w.alloc (.cells #[.int .i64 p.lo, .int .i64 p.hi, .slice ra p.nr rc, .slice ca p.nc cc] 75))) := below_alloc _ _
  cases hin : inB birth p.lo p.hi
  · have HR : Hid (hasR p.born birth = false) := by unfold Hid; rw [HPI.out, hin]; rfl
    go_enter Tryz.func106, Tryz.ntmps106
    go_wp2_with (go_at_call 32; refine (refIn_any _ _ _ _).mono ?_; rintro _ _ ⟨rfl, rfl⟩)
    go_ret
    exact ⟨ret_bool HR.out.symm, HB0.out⟩
  · have hbb : p.lo ≤ birth ∧ birth ≤ p.hi := by simpa [inB] using hin
    obtain ⟨bb1, bb2⟩ := hbb
    have HR : Hid (hasR p.born birth = ((castL (p.denies birth)).length == 0)) := by unfold Hid; rw [HPI.out, hin, castL_length]; rfl
    go_enter Tryz.func106, Tryz.ntmps106
    go_wp2_with (go_at_call 32; refine (refIn_any _ _ _ _).mono ?_; rintro _ _ ⟨rfl, rfl⟩)
    refine (denies_any _ _ p birth _ (HP.out.below HB0.out) HPF.out (HF.out.below HB0.out) (by omega) (by omega)).mono ?_
    rintro _ w1 ⟨v1, rfl, hi1, hb1⟩
    obtain ⟨a1, c1, rfl⟩ := hi1.ints.len
    have HB1 : Hid (Below w.heap.size w w1) := below_step HB0.out hb1
    clear hi1 hb1
    generalize (castL (p.denies birth)).length = m at *
    go_wp2
    go_ret
    exact ⟨ret_bool (by rw [HR.out, Bool.eq_iff_iff]; simp), HB1.out⟩
end Go.Proofs.YtgbdbikjckfgmaaGreat
namespace Go.Proofs.YtgbdbikjckfgmaaGreat
open Go.RowKit Go.Shelf
/-- A row of the reference's ranges of one's own. -/
def QS (w : World) (base : Nat) (v : Value) (l : RL) : Prop := w.ownsRow base 71 2 v l.length (flat l)
theorem QS.rg {w : World} {base : Nat} {v : Value} {l : RL} (h : QS w base v l) : RgAt w v l := by
  have h0 := h
  rcases h.2 with ⟨rfl, hl⟩ | ⟨g, cap, cur, rfl, hg, hc, hfit, hcap, _, _⟩
  · have : l = [] := List.eq_nil_of_length_eq_zero (by simpa using hl)
    subst this; exact .inl ⟨rfl, _, _, rfl⟩
  · refine .inr ⟨g, 0, cap, rfl, by first | omega | assumption, (Array.getElem?_eq_some_iff.1 hc).1, fun j hj => ?_⟩
    have hf := flat_get l j hj
    have hl := flat_length l
    unfold QS at h0
    rw [Nat.zero_add, h0.cellAt _ (by omega), h0.cellAt _ (by omega)]
    exact hf
theorem Tryz.infoRng : (Tryz.prog.info? 71).map (fun i => (i.zero, i.size, i.bytes)) = some (some (.agg #[.int .i64 0, .int .i64 0]), 2, 16) := by kernel_rfl
/-- The possible days before a day. -/
def Upb (p : Pers) (d : Int) (l : RL) : Prop := Nrm l ∧ (∀ n, hasR l n = (hasR p.born n && decide (n < d))) ∧ l.length ≤ (d - p.lo).toNat
theorem Upb.skip {p : Pers} {d : Int} {l : RL} (h : Upb p d l) (hd : hasR p.born d = false) : Upb p (d + 1) l := by
  obtain ⟨h1, h2, h3⟩ := h
  refine ⟨h1, fun n => ?_, by omega⟩
  rw [h2]
  by_cases e : n = d
  · subst e; rw [hd]; rfl
  · congr 1; rw [Bool.eq_iff_iff]; simp only [decide_eq_true_eq]; omega
theorem Upb.low {p : Pers} {d : Int} {l : RL} (h : Upb p d l) : ∀ r ∈ l, r.1 ≤ r.2 ∧ r.2 < d := by
  obtain ⟨h1, h2, h3⟩ := h
  intro r hr
  have hr2 := h1.2 r hr
  have : hasR l r.2 = true := (hasR_iff _ _).2 ⟨r, hr, hr2, Int.le_refl _⟩
  rw [h2, Bool.and_eq_true, decide_eq_true_eq] at this
  exact ⟨hr2, this.2⟩
theorem Upb.next {p : Pers} {d : Int} {l : RL} (h : Upb p d l) (hd : hasR p.born d = true) (hlo : p.lo ≤ d) : Upb p (d + 1) (ext l d d) := by
  have hlow := h.low
  obtain ⟨h1, h2, h3⟩ := h
  obtain ⟨e1, e2⟩ := ext_facts h1 (Int.le_refl d) (fun r hr => by have := hlow r hr; omega)
  refine ⟨e1, fun n => ?_, by have := ext_length l d d; omega⟩
  rw [e2, h2]
  by_cases e : n = d
  · subst e; rw [hd]; simp; omega
  · rw [show (decide (d ≤ n) && decide (n ≤ d)) = false from by simp; omega, Bool.or_false]
    congr 1; rw [Bool.eq_iff_iff]; simp only [decide_eq_true_eq]; omega
theorem Upb.end {p : Pers} {d : Int} {l : RL} (hp : p.fault = 0) (h : Upb p d l) (hd : p.hi < d) : l = p.born := by
  obtain ⟨b1, b2⟩ := born_has hp
  refine Nrm.ext h.1 b1 fun n => ?_
  rw [h.2.1]
  cases hb : hasR p.born n
  · rfl
  · have := (b2 n).1 hb
    simp; omega
attribute [local go_sem ↓] Go.wp_at_zero Go.wp_at_succ
set_option maxRecDepth 100000 in
set_option maxHeartbeats 8000000 in
theorem refBirths_any (v : Value) (p : Pers) (w : World) (h : PersIn w v p) (hp : p.fault = 0) :
    Calls Tryz.prog 68 #[v] w fun e w' => ∃ u, e = .returned u ∧ RgAt w' u p.born ∧ Below w.heap.size w w' := by
  obtain ⟨pn1, pn2, pn3, pl1, pl2, pl3, pl4, pl5, _⟩ := Pers.ok_facts hp
  have HPF := Lib.hid hp; clear hp
  have HP := Lib.hid h
  obtain ⟨rv, cv, rfl, h1, h2⟩ := h
  obtain ⟨ra, rc, rfl⟩ := h1.slice
  obtain ⟨ca, cc, rfl⟩ := h2.slice
  clear h1 h2
  obtain ⟨i0, hi0, hz0, hz1, hz2⟩ := info_parts Tryz.infoRng
  have HB0 : Hid (Below w.heap.size w (w.alloc (.cells #[.int .i64 p.lo, .int .i64 p.hi, .slice ra p.nr rc, .slice ca p.nc cc] 75))) := below_alloc _ _
  have HK0 : Hid ((w.alloc (.cells #[.int .i64 p.lo, .int .i64 p.hi, .slice ra p.nr rc, .slice ca p.nc cc] 75)).heap[w.heap.size]? = some (.cells #[.int .i64 p.lo, .int .i64 p.hi, .slice ra p.nr rc, .slice ca p.nc cc] 75 (0, 0))) := heap_alloc_new _ _
  go_enter Tryz.func68, Tryz.ntmps68
  go_wp2_with fail
  refine (refAges_any _ p _ (HP.out.below HB0.out) HPF.out).mono ?_
  rintro _ w1 ⟨u1, rfl, hf1, hb1⟩
  have HK1 : Hid (w1.heap[w.heap.size]? = some (.cells #[.int .i64 p.lo, .int .i64 p.hi, .slice ra p.nr rc, .slice ca p.nc cc] 75 (0, 0))) := (hb1.block _ (by simp)).trans HK0.out
  have HB1 : Hid (Below w.heap.size w w1) := below_step HB0.out hb1
  have hs1 := (Array.getElem?_eq_some_iff.1 HK1.out).1
  have HF1 := Lib.hid hf1
  obtain ⟨ua, uc, rfl⟩ := hf1.slice
  obtain ⟨d0, d1, d2, d3⟩ := cells4 HK1.out
  have HU0 : Hid (Upb p p.lo []) := ⟨Nrm.nil, fun n => by
    cases hb : hasR p.born n
    · rfl
    · have := ((born_has HPF.out).2 n).1 hb
      simp [hasR]; omega, by simp⟩
  clear hf1 hb1 HB0 HK0
  go_wp2_with fail
  clear d0 d1 d2 d3
  go_loopw [3, 5] (fun v i wr => ∃ d : Int, p.lo ≤ d ∧ d ≤ p.hi + 1 ∧ i = .int .i64 d ∧ ∃ l : RL, Upb p d l ∧ wr.ownsRow w1.heap.size 71 2 v l.length (flat l) ∧ Below w1.heap.size w1 wr) (fun _ i _ => (p.hi + 1 - intOf i).toNat)
  case atStart => exact ⟨p.lo, Int.le_refl _, by omega, rfl, [], HU0.out, World.ownsRow_nil _ _ _ _, Below.refl _ _⟩
  case round =>
    clear HU0
    obtain ⟨d, hd0, hd1, rfl, l, hup, hown, hbl⟩ := hrel
    obtain ⟨av, ac, rfl⟩ := own_slice' hown
    have HUP := Lib.hid hup; have HOWN := Lib.hid hown; have HBL := Lib.hid hbl
    have HBW : Hid (Below w.heap.size w wr) := below_step HB1.out hbl
    obtain ⟨d0, d1, d2, d3⟩ := cells4 ((hbl.block _ hs1).trans HK1.out)
    have hlen := hup.2.2
    clear hup hown hbl
    by_cases hdh : d ≤ p.hi
    · cases hpos : hasR p.born d
      · go_wp2_with fail
        refine (possible_any _ _ p d _ (HP.out.below HBW.out) HPF.out (HF1.out.below HBL.out)).mono ?_
        rintro _ w2 ⟨rfl, hb2⟩
        have HBN : Hid (Below w1.heap.size w1 w2) := below_step HBL.out hb2
        have HON := Lib.hid (own_fr HOWN.out (Fr.below hb2 (fun _ => False)) (fun _ _ _ _ _ e => e))
        have HUN := Lib.hid (HUP.out.skip hpos)
        clear hb2 d0 d1 d2 d3
        go_wp2
        go_roundw
        case rel => exact ⟨d + 1, by omega, by omega, rfl, l, HUN.out, HON.out, HBN.out⟩
        case measure => simp [intOf]; omega
      · go_wp2_with fail
        refine (possible_any _ _ p d _ (HP.out.below HBW.out) HPF.out (HF1.out.below HBL.out)).mono ?_
        rintro _ w2 ⟨rfl, hb2⟩
        have HBN : Hid (Below w1.heap.size w1 w2) := below_step HBL.out hb2
        have HON := Lib.hid (own_fr HOWN.out (Fr.below hb2 (fun _ => False)) (fun _ _ _ _ _ e => e))
        have HUN := Lib.hid (HUP.out.next hpos hd0)
        have hs2 : w1.heap.size ≤ w2.heap.size := HBN.out.size
        have HLOW := Lib.hid HUP.out.low
        clear hb2 d0 d1 d2 d3
        rcases List.eq_nil_or_concat l with rfl | ⟨l0, ⟨a, hh⟩, rfl⟩
        · have HX : Hid (ext [] d d = [(d, d)]) := rfl
          have hz : decide ((0 : Int) < (([] : RL).length : Int)) = false := by simp
          go_wp2_with (at_builtin; refine wpList_append_lies _ rfl (.tmp 44) (.tmp 48) 119 rfl w1.heap.size 71 i0 (.agg #[.int .i64 0, .int .i64 0]) 2 16 Tryz.underlying119 hi0 hz0 hz1 hz2 rfl (by omega) (.slice av 0 ac) 0 [] rfl (World.ownsRow.alloc HON.out _) ⟨w2.heap.size, 0, none⟩ 1 1 [.int .i64 d, .int .i64 d] rfl rfl ?c1 ?c2 ?c3 ?c4 ?c5 ?c6 (w2.heap.size + 1) ?c7 ?_)
          case c1 => exact World.news_of_block (heap_alloc_new w2 (.cells #[.int .i64 d, .int .i64 d] 71))
          case c2 => simp [Value.oneCell']
          case c3 => omega
          case c4 => unfold maxLen; omega
          case c5 => omega
          case c6 => simp; omega
          case c7 => simp
          intro g cap' X hown hgrow hat hlt1
          have HXB : Hid (Below w1.heap.size w1 X) := HBN.out.trans (((below_alloc w2 (.cells #[.int .i64 d, .int .i64 d] 71)).mono hs2).trans ((Fr.grown hgrow).low (by simp; omega) (fun q hq e => by have := own_low HON.out e; omega)))
          have HXO : Hid (X.ownsRow w1.heap.size 71 2 (.slice (some ⟨g, 0, none⟩) (0 + 1) cap') 1 (flat [(d, d)])) := hown
          clear hown hgrow hat hlt1
          go_wp2
          go_roundw
          case rel => exact ⟨d + 1, by omega, by omega, rfl, _, HUN.out, by rw [HX.out]; exact HXO.out, HXB.out⟩
          case measure => simp [intOf]; omega
        · rw [List.concat_eq_append] at *
          obtain ⟨hl1, hl2⟩ := HLOW.out (a, hh) (by simp)
          simp only [] at hl1 hl2
          have hll : (l0 ++ [(a, hh)]).length = l0.length + 1 := by simp
          have hfc : (flat (l0 ++ [(a, hh)]))[l0.length * 2 + 1]? = some (.int .i64 hh) := flat_cell l0 a hh
          have HX : Hid (ext (l0 ++ [(a, hh)]) d d = if d ≤ hh + 1 then l0 ++ [(a, max hh d)] else (l0 ++ [(a, hh)]) ++ [(d, d)]) := ext_snoc _ _ _ _ _
          have hfl := flat_length (l0 ++ [(a, hh)])
          rw [hll] at hlen hfl
          have HON' : Hid (w2.ownsRow w1.heap.size 71 2 (.slice av (l0.length + 1) ac) (l0.length + 1) (flat (l0 ++ [(a, hh)]))) := by have := HON.out; rw [hll] at this; exact this
          obtain ⟨g, cp, e, _, hg⟩ := HON'.out.form (by omega)
          cases e
          have hc : w2.cell? ⟨g, l0.length * 2 + 1, none⟩ = some (.int .i64 hh) := by rw [HON'.out.cellAt _ (by omega), hfc]
          have hf : w2.frozen? ⟨g, l0.length * 2 + 1, none⟩ = false := HON'.out.frozenAt _
          have HST := Lib.hid (HON'.out.stored (l0.length * 2 + 1) (.int .i64 d))
          rw [flat_set] at HST
          have HLL := Lib.hid hll
          rw [hll]
          clear hfc hfl HON HOWN hll
          generalize hm : l0.length = m at *
          have HM := Lib.hid hm
          clear hm
          have hz : decide ((0 : Int) < (m : Int) + 1) = true := decide_eq_true (by omega)
          by_cases hj : hh = d - 1
          · have hj' : (hh == d - 1) = true := by simpa using hj
            have HX2 : Hid (ext (l0 ++ [(a, hh)]) d d = l0 ++ [(a, d)]) := by unfold Hid; rw [HX.out, if_pos (by omega), show max hh d = d by omega]
            have HXB : Hid (Below w1.heap.size w1 (w2.setCell ⟨g, m * 2 + 1, none⟩ (.int .i64 d))) := HBN.out.trans ((Fr.grown HST.out.2).low hs2 (fun q hq e => by have := own_low HON'.out e; omega))
            clear hj
            go_wp2
            go_roundw
            case rel => exact ⟨d + 1, by omega, by omega, rfl, _, HUN.out, by rw [HX2.out, List.length_append, HM.out]; exact HST.out.1, HXB.out⟩
            case measure => simp [intOf]; omega
          · have hj' : (hh == d - 1) = false := by simpa using hj
            have HX2 : Hid (ext (l0 ++ [(a, hh)]) d d = (l0 ++ [(a, hh)]) ++ [(d, d)]) := by unfold Hid; rw [HX.out, if_neg (by omega)]
            clear hj
            generalize hls : l0 ++ [(a, hh)] = ls at *
            clear hls
            go_wp2_with (at_builtin; refine wpList_append_lies _ rfl (.tmp 44) (.tmp 48) 119 rfl w1.heap.size 71 i0 (.agg #[.int .i64 0, .int .i64 0]) 2 16 Tryz.underlying119 hi0 hz0 hz1 hz2 rfl (by omega) (.slice (some ⟨g, 0, none⟩) (m + 1) ac) (m + 1) (flat ls) rfl (World.ownsRow.alloc HON'.out _) ⟨w2.heap.size, 0, none⟩ 1 1 [.int .i64 d, .int .i64 d] rfl rfl ?d1 ?d2 ?d3 ?d4 ?d5 ?d6 (w2.heap.size + 1) ?d7 ?_)
            case d1 => exact World.news_of_block (heap_alloc_new w2 (.cells #[.int .i64 d, .int .i64 d] 71))
            case d2 => simp [Value.oneCell']
            case d3 => omega
            case d4 => unfold maxLen; omega
            case d5 => omega
            case d6 => simp; omega
            case d7 => simp
            intro g' cap' X hown hgrow hat hlt1
            have HXB : Hid (Below w1.heap.size w1 X) := HBN.out.trans (((below_alloc w2 (.cells #[.int .i64 d, .int .i64 d] 71)).mono hs2).trans ((Fr.grown hgrow).low (by simp; omega) (fun q hq e => by have := own_low HON'.out e; omega)))
            have HXO : Hid (X.ownsRow w1.heap.size 71 2 (.slice (some ⟨g', 0, none⟩) (m + 1 + 1) cap') (ls ++ [(d, d)]).length (flat (ls ++ [(d, d)]))) := by unfold Hid; rw [flat_append, List.length_append, HLL.out]; exact hown
            clear hown hgrow hat hlt1
            go_wp2
            go_roundw
            case rel => exact ⟨d + 1, by omega, by omega, rfl, _, HUN.out, by rw [HX2.out]; exact HXO.out, HXB.out⟩
            case measure => simp [intOf]; omega
    · obtain rfl : l = p.born := HUP.out.end HPF.out (by omega)
      go_wp2
      go_ret
      exact ⟨_, rfl, QS.rg HOWN.out, HBW.out⟩
end Go.Proofs.YtgbdbikjckfgmaaGreat
namespace Go.Proofs.YtgbdbikjckfgmaaGreat
open Go.RowKit Go.Shelf
def GivesQ (w : World) (l : RL) (e : Ending) (w' : World) : Prop := ∃ u, e = .returned u ∧ RgAt w' u l ∧ Below w.heap.size w w'
set_option maxRecDepth 100000 in
set_option maxHeartbeats 8000000 in
theorem refMeet_any (va vb : Value) (la lb : RL) (w : World) (ha : RgAt w va la) (hb : RgAt w vb lb) (hla : la.length ≤ 1000) (hlb : lb.length ≤ 1000) :
    Calls Tryz.prog 71 #[va, vb] w (GivesQ w (meetP la lb)) := by
  obtain ⟨aa, ca, rfl⟩ := ha.slice
  obtain ⟨ab, cb, rfl⟩ := hb.slice
  have HA := Lib.hid ha; have HB := Lib.hid hb; clear ha hb
  obtain ⟨i0, hi0, hz0, hz1, hz2⟩ := info_parts Tryz.infoRng
  have HTL := Lib.hid (fun i k => meetT_length (a := la) (b := lb) (i := i) (k := k) hla hlb)
  go_enter Tryz.func71, Tryz.ntmps71
  go_wp2
  go_loopw [5, 6] (fun v i wr => ∃ k : Nat, k ≤ la.length ∧ i = .int .i64 k ∧ wr.ownsRow w.heap.size 71 2 v (meetT la lb k 0).length (flat (meetT la lb k 0)) ∧ Below w.heap.size w wr) (fun _ i _ => la.length - (intOf i).toNat)
  case atStart => exact ⟨0, Nat.zero_le _, rfl, by rw [meetT_zero]; exact World.ownsRow_nil _ _ _ _, Below.refl _ _⟩
  case round =>
    obtain ⟨k, hk, rfl, hown, hbl⟩ := hrel
    obtain ⟨ov, oc, rfl⟩ := own_slice' hown
    have HOWN := Lib.hid hown; have HBL := Lib.hid hbl; clear hown hbl
    by_cases hlt : k < la.length
    · have HAX := Lib.hid (fun (W : World) (hW : Below w.heap.size w W) => (HA.out.kept hW).get hlt)
      have HROW := Lib.hid (meetT_row (b := lb) hlt)
      have HNX := Lib.hid (fun j (hj : j < lb.length) => meetT_next (a := la) (b := lb) hlt hj)
      have HZ := Lib.hid (meetT_zero la lb (k + 1))
      obtain ⟨ba, oa, rfl, _⟩ := HAX.out w (Below.refl _ _)
      go_wp2
      obtain ⟨wo, rfl⟩ : ∃ wo : World, wo = wr := ⟨_, rfl⟩
      go_loopw [5, 7] (fun v i wr => ∃ j : Nat, j ≤ lb.length ∧ i = .int .i64 j ∧ wr.ownsRow w.heap.size 71 2 v (meetT la lb k j).length (flat (meetT la lb k j)) ∧ Below w.heap.size w wr) (fun _ i _ => lb.length - (intOf i).toNat)
      case atStart => exact ⟨0, Nat.zero_le _, rfl, HOWN.out, HBL.out⟩
      case round =>
        clear HOWN HBL
        obtain ⟨j, hj, rfl, hown, hbl⟩ := hrel
        obtain ⟨ov, oc, rfl⟩ := own_slice' hown
        have HOWN := Lib.hid hown; have HBL := Lib.hid hbl; clear hown hbl
        by_cases hjl : j < lb.length
        · obtain ⟨_, _, e1, x0, x1⟩ := HAX.out wr HBL.out
          cases e1
          obtain ⟨bb, ob, rfl, y0, y1⟩ := (HB.out.kept HBL.out).get hjl
          have HN := Lib.hid (HNX.out j hjl)
          have HTJ := Lib.hid (HTL.out k j)
          generalize meetT la lb k j = t at *
          have HMO : Hid (meetO la[k] lb[j] = if max la[k].1 lb[j].1 ≤ min la[k].2 lb[j].2 then [(max la[k].1 lb[j].1, min la[k].2 lb[j].2)] else []) := rfl
          rw [HMO.out] at HN
          clear HMO
          generalize (la[k]).1 = xl at *
          generalize (la[k]).2 = xh at *
          generalize (lb[j]).1 = yl at *
          generalize (lb[j]).2 = yh at *
          have ki : (0 : Int) ≤ (k : Int) := by omega
          have kj : (k : Int) < (la.length : Int) := by omega
          have ji : (0 : Int) ≤ (j : Int) := by omega
          have jj : (j : Int) < (lb.length : Int) := by omega
          go_upto_region 8 with fail
          go_cut [8, 9] (fun s t wx => s = .int .i64 (max xl yl) ∧ t = .int .i64 (min xh yh) ∧ ∃ nq, wx = wr.drewN nq)
          case first =>
            go_quiet (fail)
            all_goals (try go_wp2_with fail)
            all_goals
              go_meet
              exact ⟨congrArg (Value.int .i64) (by omega), congrArg (Value.int .i64) (by omega), _, rfl⟩
          case rest =>
            obtain ⟨rfl, rfl, nq, rfl⟩ := hcut
            have HO2 : Hid ((wr.drewN nq).ownsRow w.heap.size 71 2 (.slice ov t.length oc) t.length (flat t)) := own_fr HOWN.out (Fr.below (below_drewS wr.heap.size wr nq) (fun _ => False)) (fun _ _ _ _ _ e => e)
            have HB2 : Hid (Below w.heap.size w (wr.drewN nq)) := HBL.out.trans (below_drewS _ _ _)
            have hs2 : w.heap.size ≤ (wr.drewN nq).heap.size := HB2.out.size
            have htl := HTJ.out
            generalize World.drewN wr nq = w2 at *
            generalize max xl yl = lo at *
            generalize min xh yh = hi at *
            clear x0 x1 y0 y1
            by_cases hlh : lo ≤ hi
            · have HN2 : Hid (meetT la lb k (j + 1) = t ++ [(lo, hi)]) := by unfold Hid; rw [HN.out, if_pos hlh]
              go_wp2_with (at_builtin; refine wpList_append_lies _ rfl (.tmp 47) (.tmp 51) 119 rfl w.heap.size 71 i0 (.agg #[.int .i64 0, .int .i64 0]) 2 16 Tryz.underlying119 hi0 hz0 hz1 hz2 rfl (by omega) (.slice ov t.length oc) t.length (flat t) rfl (World.ownsRow.alloc HO2.out _) ⟨w2.heap.size, 0, none⟩ 1 1 [.int .i64 lo, .int .i64 hi] rfl rfl ?c1 ?c2 ?c3 ?c4 ?c5 ?c6 (w2.heap.size + 1) ?c7 ?_)
              case c1 => exact World.news_of_block (heap_alloc_new w2 (.cells #[.int .i64 lo, .int .i64 hi] 71))
              case c2 => simp [Value.oneCell']
              case c3 => omega
              case c4 => unfold maxLen; omega
              case c5 => omega
              case c6 => simp; omega
              case c7 => simp
              intro g cap' X hown hgrow hat hlt1
              have HXB : Hid (Below w.heap.size w X) := HB2.out.trans (((below_alloc w2 (.cells #[.int .i64 lo, .int .i64 hi] 71)).mono hs2).trans ((Fr.grown hgrow).low (by simp; omega) (fun q hq e => by have := own_low HO2.out e; omega)))
              have HXO : Hid (X.ownsRow w.heap.size 71 2 (.slice (some ⟨g, 0, none⟩) (t.length + 1) cap') (t ++ [(lo, hi)]).length (flat (t ++ [(lo, hi)]))) := by unfold Hid; rw [flat_append, List.length_append]; exact hown
              clear hown hgrow hat hlt1
              go_wp2
              go_roundw
              case rel => exact ⟨j + 1, by omega, by go_num, by rw [HN2.out]; exact HXO.out, HXB.out⟩
              case measure => simp [intOf]; omega
            · have HN2 : Hid (meetT la lb k (j + 1) = t) := by unfold Hid; rw [HN.out, if_neg hlh, List.append_nil]
              go_wp2
              go_roundw
              case rel => exact ⟨j + 1, by omega, by go_num, by rw [HN2.out]; exact HO2.out, HB2.out⟩
              case measure => simp [intOf]; omega
        · obtain rfl : j = lb.length := by omega
          go_wp2
          go_roundw
          case rel => exact ⟨k + 1, by omega, by go_num, by rw [HZ.out, ← HROW.out]; exact HOWN.out, HBL.out⟩
          case measure => simp [intOf]; omega
    · obtain rfl : k = la.length := by omega
      have HE : Hid (meetT la lb la.length 0 = meetP la lb) := by unfold Hid; rw [meetT_zero, List.take_length]
      go_wp2
      go_ret
      exact ⟨_, rfl, by rw [← HE.out]; exact QS.rg HOWN.out, HBL.out⟩
end Go.Proofs.YtgbdbikjckfgmaaGreat
