/- Age: persons, births, Same; the reference (turned from the Age seat) (6 of 8). -/
import Derived.Test.YtgbdbikjckfgmaaGreatWG
import Derived.Test.YtgbdbikjckfgmaaGreatPA
import Derived.Test.YtgbdbikjckfgmaaGreatPB
import Derived.Test.YtgbdbikjckfgmaaGreatPC
import Derived.Test.YtgbdbikjckfgmaaGreatPD
import Derived.Test.YtgbdbikjckfgmaaGreatPE
import Derived.BigQuiet
import Derived.Carry
import Derived.Deep.AppendLies
import Derived.Deep.DeepCutAuto
import Derived.Deep.DrawnRows
import Derived.Deep.MidRow
import Derived.Deep.QuietTactic
import Derived.Deep.RegionHeld3
import Derived.Deep.RegionLaw
import Derived.Deep.RegionLawGrows
import Derived.Deep.RegionWith
import Derived.Deep.Slices
import Derived.Deep.Strs
import Derived.Laws.EntriesVeiled
import Derived.Laws.Rows
import Derived.Laws.Tables
import Derived.Lib.Hide
import Derived.Lib.SliceRun
import Derived.Lib.SmallJoins
import Derived.LoopIn
import Derived.LoopNIn
import Derived.LoopTactic
import Derived.Maps.AppendAt
import Derived.OpenShut
import Derived.OrdersHeld
import Derived.OrdersIn
import Derived.Outline
import Derived.OwnWalkIn
import Derived.ProofKit
import Derived.RangeFuncBound
import Derived.RangeFuncCalls
import Derived.RangeFuncLeaves
import Derived.RangeFuncNested
import Derived.Shelf.Abstract
import Derived.Shelf.RegionOpen
import Derived.TacticsInMore
import Derived.WalkKit
import Derived.WalkLawsBesides
import Derived.WalkSpells
namespace Go.Proofs.YtgbdbikjckfgmaaGreat
open Go.RowKit Go.Shelf
attribute [local go_sem ↓] Go.wp_at_zero Go.wp_at_succ
set_option maxRecDepth 100000 in
set_option maxHeartbeats 8000000 in
theorem person_any (v : Value) (p : Pers) (w : World) (h : PersIn w v p) (hn : p.nr ≤ 100) (hc : p.nc ≤ 100) :
    Calls Tryz.prog 104 #[v] w fun e w' => ∃ u, e = .returned u ∧ PersAt w' u p ∧ Below w.heap.size w w' := by
  obtain ⟨rv, cv, rfl, h1, h2⟩ := h
  obtain ⟨ra, rc, rfl⟩ := h1.slice
  obtain ⟨ca, cc, rfl⟩ := h2.slice
  have HR := Lib.hid h1; have HC := Lib.hid h2; clear h1 h2
  obtain ⟨i0, hi0, hz0, hz1, hz2⟩ := info_parts Tryz.infoRule
  obtain ⟨i1, hi1, hy0, hy1, hy2⟩ := info_parts Tryz.infoRecord
  obtain ⟨_, hb3, q0, q1, q2⟩ := alloc3 w (.cells #[.int .i64 p.lo, .int .i64 p.hi, .slice ra p.nr rc, .slice ca p.nc cc] 75) (.cells #[.int .i64 0, .int .i64 0, .slice none 0 0, .slice none 0 0] 98) (.cells #[.int .i64 p.lo, .int .i64 p.hi, .slice none 0 0, .slice none 0 0] 98)
  have HPI : Hid (PI w p (.slice ra p.nr rc) (.slice ca p.nc cc) (.slice none 0 0) (.slice none 0 0) (((w.alloc (.cells #[.int .i64 p.lo, .int .i64 p.hi, .slice ra p.nr rc, .slice ca p.nc cc] 75)).alloc (.cells #[.int .i64 0, .int .i64 0, .slice none 0 0, .slice none 0 0] 98)).alloc (.cells #[.int .i64 p.lo, .int .i64 p.hi, .slice none 0 0, .slice none 0 0] 98))) := ⟨q0, q1, q2, hb3⟩
  clear q0 q1 q2 hb3
  go_enter Tryz.func104, Tryz.ntmps104
  go_wp2
  go_loopw [4] (fun i wr => ∃ k : Nat, k ≤ p.nr ∧ i = .int .i64 k ∧ ∃ av, PI w p (.slice ra p.nr rc) (.slice ca p.nc cc) av (.slice none 0 0) wr ∧ LL wr av (rlTo p.R k) ∧ ∀ q, av.ownBlock = some q → w.heap.size ≤ q) (fun i _ => p.nr - (intOf i).toNat)
  case atStart => exact ⟨0, Nat.zero_le _, rfl, _, HPI.out, World.ownsRow_nil _ _ _ _, fun q hq => by cases hq⟩
  case round =>
    clear HPI
    obtain ⟨k, hk, rfl, av, hpi, hll, hlow⟩ := hrel
    obtain ⟨aa, ac, rfl⟩ := hll.at.slice
    rw [rlTo_length] at hpi hll hlow
    have HP := Lib.hid hpi; have HL := Lib.hid hll; have HLOW := Lib.hid hlow
    have d2 : wr.cell? ⟨w.heap.size, 2, none⟩ = some (.slice ra p.nr rc) := cell_of_row _ _ 2 _ _ _ hpi.1
    have d3 : wr.cell? ⟨w.heap.size, 3, none⟩ = some (.slice ca p.nc cc) := cell_of_row _ _ 3 _ _ _ hpi.1
    have hbw := hpi.2.2.2
    clear hpi hll hlow
    by_cases hlt : k < p.nr
    · obtain ⟨b, off, rfl, hbs, x0, x1, x2, x3⟩ := HR.out.at hbw hlt
      have HRS : Hid (rlTo p.R (k + 1) = rlTo p.R k ++ [p.R k]) := rlTo_succ _ _
      have hll : (rlTo p.R k).length = k := rlTo_length _ _
      have HLLEN := Lib.hid hll; clear hll
      generalize rlTo p.R k = l at *
      generalize p.R k = r at *
      have ki : (0 : Int) ≤ (k : Int) := by omega
      have kj : (k : Int) < (p.nr : Int) := by omega
      have hs2 := (Array.getElem?_eq_some_iff.1 HP.out.2.2.1).1
      have HSB : Hid (∀ X : World, Below wr.heap.size wr X → X.cell? ⟨w.heap.size, 2, none⟩ = some (.slice (some ⟨b, off, none⟩) p.nr rc) ∧ X.cell? ⟨b, off + k * 4, none⟩ = some (.int .i64 r.f) ∧ X.cell? ⟨b, off + k * 4 + 1, none⟩ = some (.int .i64 r.b) ∧ X.cell? ⟨b, off + k * 4 + 2, none⟩ = some (.int .i64 r.m) ∧ X.cell? ⟨b, off + k * 4 + 3, none⟩ = some (.int .i64 r.e)) := fun X hX => ⟨kept hX (by omega) d2, kept hX (by omega) x0, kept hX (by omega) x1, kept hX (by omega) x2, kept hX (by omega) x3⟩
      have HSF : Hid (∀ (X X' : World), (X.cell? ⟨w.heap.size, 2, none⟩ = some (.slice (some ⟨b, off, none⟩) p.nr rc) ∧ X.cell? ⟨b, off + k * 4, none⟩ = some (.int .i64 r.f) ∧ X.cell? ⟨b, off + k * 4 + 1, none⟩ = some (.int .i64 r.b) ∧ X.cell? ⟨b, off + k * 4 + 2, none⟩ = some (.int .i64 r.m) ∧ X.cell? ⟨b, off + k * 4 + 3, none⟩ = some (.int .i64 r.e)) → Fr (fun q => (Value.slice aa k ac).ownBlock = some q) X X' → X.heap[w.heap.size]? = some (.cells #[.int .i64 p.lo, .int .i64 p.hi, .slice (some ⟨b, off, none⟩) p.nr rc, .slice ca p.nc cc] 75 (0, 0)) → LL X (.slice aa k ac) l → w.heap.size ≤ X.heap.size → (X'.cell? ⟨w.heap.size, 2, none⟩ = some (.slice (some ⟨b, off, none⟩) p.nr rc) ∧ X'.cell? ⟨b, off + k * 4, none⟩ = some (.int .i64 r.f) ∧ X'.cell? ⟨b, off + k * 4 + 1, none⟩ = some (.int .i64 r.b) ∧ X'.cell? ⟨b, off + k * 4 + 2, none⟩ = some (.int .i64 r.m) ∧ X'.cell? ⟨b, off + k * 4 + 3, none⟩ = some (.int .i64 r.e))) := fun X X' hS hf hblk hL hsz => by
        obtain ⟨s0, s1, s2, s3, s4⟩ := hS
        have g1 : X'.heap[w.heap.size]? = X.heap[w.heap.size]? := hf.block _ (Array.getElem?_eq_some_iff.1 hblk).1 (fun e => absurd (hL.ex _ _ _ e hblk) (by decide))
        have g2 : X'.heap[b]? = X.heap[b]? := hf.block _ (by omega) (fun e => by have := HLOW.out b e; omega)
        exact ⟨(World.cell?_of_block (a := ⟨w.heap.size, 2, none⟩) g1).trans s0, (World.cell?_of_block (a := ⟨b, _, none⟩) g2).trans s1, (World.cell?_of_block (a := ⟨b, _, none⟩) g2).trans s2, (World.cell?_of_block (a := ⟨b, _, none⟩) g2).trans s3, (World.cell?_of_block (a := ⟨b, _, none⟩) g2).trans s4⟩
      go_wp2
      have HPd := Lib.hid (HP.out.below ((Below.refl _ _).drew)); have HLd : Hid (LL wr.drew (.slice aa k ac) l) := own_fr HL.out (Fr.below ((Below.refl _ _).drew) (fun _ => False)) (fun _ _ _ _ _ e => e)
      refine wp_region_held_drew (S := fun X => X.cell? ⟨w.heap.size, 2, none⟩ = some (.slice (some ⟨b, off, none⟩) p.nr rc) ∧ X.cell? ⟨b, off + k * 4, none⟩ = some (.int .i64 r.f) ∧ X.cell? ⟨b, off + k * 4 + 1, none⟩ = some (.int .i64 r.b) ∧ X.cell? ⟨b, off + k * 4 + 2, none⟩ = some (.int .i64 r.m) ∧ X.cell? ⟨b, off + k * 4 + 3, none⟩ = some (.int .i64 r.e)) (by kernel_rfl) (HSB.out _ ((Below.refl _ _).drew)) (fun hS => ?_)
      clear HP HL HSB d2 d3 x0 x1 x2 x3
      have hbw' : w.heap.size ≤ wr.drew.heap.size := hbw.size
      generalize wr.drew = X at *
      refine wpAnyH_take (i := 0) (oi := ⟨some 22, .fieldAddr 98 (.tmp 3) 1, _, _, _, _⟩) (v := .pointer (some ⟨w.heap.size + 1 + 1, 2, none⟩)) rfl (by kernel_rfl) (by kernel_rfl) (by kernel_rfl) (fun _ _ _ h => h) (Or.inl ⟨by rfl, ?_⟩) hS ?_
      · intro W' hSw; (try dsimp only at hSw); obtain ⟨s0, s1, s2, s3, s4⟩ := hSw; go_simp
      try simp only [Act.put, List.setIfInBounds_toArray, List.set_cons_zero, List.set_cons_succ]
      refine wpAnyH_take (i := 2) (oi := ⟨some 24, .fieldAddr 75 (.tmp 1) 1, _, _, _, _⟩) (v := .pointer (some ⟨w.heap.size, 2, none⟩)) rfl (by kernel_rfl) (by kernel_rfl) (by kernel_rfl) (fun _ _ _ h => h) (Or.inl ⟨by rfl, ?_⟩) hS ?_
      · intro W' hSw; (try dsimp only at hSw); obtain ⟨s0, s1, s2, s3, s4⟩ := hSw; go_simp
      try simp only [Act.put, List.setIfInBounds_toArray, List.set_cons_zero, List.set_cons_succ]
      refine wpAnyH_take (i := 3) (oi := ⟨some 25, .load 72 (.tmp 24), _, _, _, _⟩) (v := .slice (some ⟨b, off, none⟩) p.nr rc) rfl (by kernel_rfl) (by kernel_rfl) (by kernel_rfl) (fun _ _ _ h => h) (Or.inl ⟨by rfl, ?_⟩) hS ?_
      · intro W' hSw; (try dsimp only at hSw); obtain ⟨s0, s1, s2, s3, s4⟩ := hSw; go_simp
      try simp only [Act.put, List.setIfInBounds_toArray, List.set_cons_zero, List.set_cons_succ]
      refine wpAnyH_take (i := 4) (oi := ⟨some 26, .move (.tmp 4), _, _, _, _⟩) (v := .int .i64 k) rfl (by kernel_rfl) (by kernel_rfl) (by kernel_rfl) (fun _ _ _ h => h) (Or.inl ⟨by rfl, ?_⟩) hS ?_
      · intro W' hSw; (try dsimp only at hSw); obtain ⟨s0, s1, s2, s3, s4⟩ := hSw; go_simp
      try simp only [Act.put, List.setIfInBounds_toArray, List.set_cons_zero, List.set_cons_succ]
      refine wpAnyH_take (i := 5) (oi := ⟨some 27, .indexAddr 72 (.tmp 25) (.tmp 26), _, _, _, _⟩) (v := .pointer (some ⟨b, off + k * 4, none⟩)) rfl (by kernel_rfl) (by kernel_rfl) (by kernel_rfl) (fun _ _ _ h => h) (Or.inl ⟨by rfl, ?_⟩) hS ?_
      · intro W' hSw; (try dsimp only at hSw); obtain ⟨s0, s1, s2, s3, s4⟩ := hSw; go_simp
      try simp only [Act.put, List.setIfInBounds_toArray, List.set_cons_zero, List.set_cons_succ]
      refine wpAnyH_take (i := 6) (oi := ⟨some 28, .load 142 (.tmp 27), _, _, _, _⟩) (v := .agg #[.int .i64 r.f, .int .i64 r.b, .int .i64 r.m, .int .i64 r.e]) rfl (by kernel_rfl) (by kernel_rfl) (by kernel_rfl) (fun _ _ _ h => h) (Or.inl ⟨by rfl, ?_⟩) hS ?_
      · intro W' hSw; (try dsimp only at hSw); obtain ⟨s0, s1, s2, s3, s4⟩ := hSw; go_simp
      try simp only [Act.put, List.setIfInBounds_toArray, List.set_cons_zero, List.set_cons_succ]
      refine wpAnyH_ready (rs := [1, 7]) (by kernel_rfl) (by simp) ?_
      refine AllReadyH.cons (o := ⟨some 23, .load 95 (.tmp 22), _, _, _, _⟩) rfl (fun K hK => ?_) ?_
      ·
        have e4 : X.cell? ⟨w.heap.size + 1 + 1, 2, none⟩ = some (.slice aa k ac) := cell_of_row _ _ 2 _ _ _ HPd.out.2.2.1
        go_simp
        clear e4
        refine hK.out _ _ hS (fun hS => ?_)
        clear hK K
        try simp only [Act.put, List.setIfInBounds_toArray, List.set_cons_zero, List.set_cons_succ]
        refine wpAnyH_ready (rs := [7]) (by kernel_rfl) (by simp) ?_
        refine AllReadyH.cons (o := ⟨some 29, .call ⟨.value (.func 129), #[.tmp 28], #[142]⟩, _, _, _, _⟩) rfl (fun K hK => ?_) ?_
        ·
          go_simp
          refine (rule_any _ _ _ _ _).mono ?_
          rintro _ X1 ⟨rfl, hx1⟩
          (try go_wp2_with fail)
          refine hK.out _ _ ?_ (fun hS => ?_)
          · exact ⟨(World.cell?_of_block (a := ⟨w.heap.size, 2, none⟩) (hx1.block _ (World.block_lt_of_cell? _ _ hS.1))).trans hS.1, (World.cell?_of_block (a := ⟨b, _, none⟩) (hx1.block _ (World.block_lt_of_cell? _ _ hS.2.1))).trans hS.2.1, (World.cell?_of_block (a := ⟨b, _, none⟩) (hx1.block _ (World.block_lt_of_cell? _ _ hS.2.2.1))).trans hS.2.2.1, (World.cell?_of_block (a := ⟨b, _, none⟩) (hx1.block _ (World.block_lt_of_cell? _ _ hS.2.2.2.1))).trans hS.2.2.2.1, (World.cell?_of_block (a := ⟨b, _, none⟩) (hx1.block _ (World.block_lt_of_cell? _ _ hS.2.2.2.2))).trans hS.2.2.2.2⟩
          clear hK K
          try simp only [Act.put, List.setIfInBounds_toArray, List.set_cons_zero, List.set_cons_succ]
          have HP1 := Lib.hid (HPd.out.below hx1); have HL1 : Hid (LL X1 (.slice aa k ac) l) := own_fr HLd.out (Fr.below hx1 (fun _ => False)) (fun _ _ _ _ _ e => e)
          clear hx1
          refine wpAnyH_ready (rs := [8]) (by kernel_rfl) (by simp) ?_
          refine AllReadyH.cons (o := ⟨some 30, .buildSlice 95 1 #[(0, .tmp 29)], _, _, _, _⟩) rfl (fun K hK => ?_) ?_
          ·
            go_simp
            refine hK.out _ _ ?_ (fun hS => ?_)
            · exact ⟨kept (below_alloc _ _) (World.block_lt_of_cell? _ _ hS.1) hS.1, kept (below_alloc _ _) (World.block_lt_of_cell? _ _ hS.2.1) hS.2.1, kept (below_alloc _ _) (World.block_lt_of_cell? _ _ hS.2.2.1) hS.2.2.1, kept (below_alloc _ _) (World.block_lt_of_cell? _ _ hS.2.2.2.1) hS.2.2.2.1, kept (below_alloc _ _) (World.block_lt_of_cell? _ _ hS.2.2.2.2) hS.2.2.2.2⟩
            clear hK K
            try simp only [Act.put, List.setIfInBounds_toArray, List.set_cons_zero, List.set_cons_succ]
            have HP2 := Lib.hid (HP1.out.below (below_alloc X1 (.cells #[.int .i64 r.f, .int .i64 r.b, .int .i64 r.m, .int .i64 r.e] 156))); have HL2 : Hid (LL (X1.alloc (.cells #[.int .i64 r.f, .int .i64 r.b, .int .i64 r.m, .int .i64 r.e] 156)) (.slice aa k ac) l) := own_fr HL1.out (Fr.below (below_alloc X1 (.cells #[.int .i64 r.f, .int .i64 r.b, .int .i64 r.m, .int .i64 r.e] 156)) (fun _ => False)) (fun _ _ _ _ _ e => e)
            have HB : Hid ((X1.alloc (.cells #[.int .i64 r.f, .int .i64 r.b, .int .i64 r.m, .int .i64 r.e] 156)).heap[X1.heap.size]? = some (.cells #[.int .i64 r.f, .int .i64 r.b, .int .i64 r.m, .int .i64 r.e] 156 (0, 0))) := heap_alloc_new X1 _
            generalize X1.heap.size = B30 at *
            generalize X1.alloc (.cells #[.int .i64 r.f, .int .i64 r.b, .int .i64 r.m, .int .i64 r.e] 156) = X2 at *
            refine wpAnyH_ready (rs := [9]) (by kernel_rfl) (by simp) ?_
            refine AllReadyH.cons (o := ⟨some 31, .call ⟨.builtin .append, #[.tmp 23, .tmp 30], #[95, 95]⟩, _, _, _, _⟩) rfl (fun K hK => ?_) ?_
            ·
              have HLk : Hid (X2.ownsRow 0 156 4 (.slice aa k ac) k (flatL l)) := (by have := HL2.out; unfold LL at this; rw [HLLEN.out] at this; exact this)
              refine step_append_lies _ (by rfl) (.tmp 23) (.tmp 30) 95 (by rfl) 0 156 i0 (.agg #[.int .i64 0, .int .i64 0, .int .i64 0, .int .i64 0]) 4 32 Tryz.underlying95 hi0 hz0 hz1 hz2 rfl (by omega) (.slice aa k ac) k (flatL l) (by rfl) HLk.out ⟨B30, 0, none⟩ 1 1 [.int .i64 r.f, .int .i64 r.b, .int .i64 r.m, .int .i64 r.e] (by rfl) (by rfl) (World.news_of_block HB.out) (by simp [Value.oneCell']) (by omega) (by unfold maxLen; omega) (by omega) (Nat.zero_le _) _ rfl ?_
              intro g cap' X3 hown hgrow hat hlt1
              have HS3 := Lib.hid (HSF.out X2 X3 hS (Fr.grown hgrow) HP2.out.1 HL2.out HP2.out.2.2.2.size)
              have HP3 := Lib.hid (HP2.out.fr (Fr.grown hgrow) (fun q c t e hc => .inl (HL2.out.ex q c t e hc)) (fun q e => HLOW.out q e))
              have HLn : Hid (LL X3 (.slice (some ⟨g, 0, none⟩) (k + 1) cap') (l ++ [r])) := (by unfold Hid LL; rw [flatL_snoc, show (l ++ [r]).length = k + 1 from by simp [HLLEN.out]]; exact hown)
              have HLW : Hid (∀ q, (Value.slice (some ⟨g, 0, none⟩) (k + 1) cap').ownBlock = some q → w.heap.size ≤ q) := (fun q hq => by have e : g = q := Option.some.inj hq; subst e; rcases hat with e | e; exact HLOW.out _ e; (have := HP2.out.2.2.2.size; omega))
              clear hown hgrow hat hlt1
              refine hK.out _ _ HS3.out (fun hS => ?_)
              clear hK K
              try simp only [Act.put, List.setIfInBounds_toArray, List.set_cons_zero, List.set_cons_succ]
              refine wpAnyH_take (i := 10) (oi := ⟨some 32, .fieldAddr 98 (.tmp 3) 1, _, _, _, _⟩) (v := .pointer (some ⟨w.heap.size + 1 + 1, 2, none⟩)) rfl (by kernel_rfl) (by kernel_rfl) (by kernel_rfl) (fun _ _ _ h => h) (Or.inl ⟨by rfl, ?_⟩) hS ?_
              · intro W' hSw; (try dsimp only at hSw); obtain ⟨s0, s1, s2, s3, s4⟩ := hSw; go_simp
              try simp only [Act.put, List.setIfInBounds_toArray, List.set_cons_zero, List.set_cons_succ]
              refine wpAnyH_ready (rs := [11]) (by kernel_rfl) (by simp) ?_
              refine AllReadyH.cons (o := ⟨none, .store 95 (.tmp 32) (.tmp 31), _, _, _, _⟩) rfl (fun K hK => ?_) ?_
              ·
                have e4 : X3.cell? ⟨w.heap.size + 1 + 1, 2, none⟩ = some (.slice aa k ac) := cell_of_row _ _ 2 _ _ _ HP3.out.2.2.1
                have e5 : X3.frozen? ⟨w.heap.size + 1 + 1, 2, none⟩ = false := frozen_of_row _ _ 2 _ _ HP3.out.2.2.1
                go_simp
                have HPF : Hid (PI w p (.slice (some ⟨b, off, none⟩) p.nr rc) (.slice ca p.nc cc) (.slice (some ⟨g, 0, none⟩) (k + 1) cap') (.slice none 0 0) (X3.setCell ⟨w.heap.size + 1 + 1, 2, none⟩ (.slice (some ⟨g, 0, none⟩) (k + 1) cap'))) := HP3.out.set 2 _ _ rfl
                have HLF : Hid (LL (X3.setCell ⟨w.heap.size + 1 + 1, 2, none⟩ (.slice (some ⟨g, 0, none⟩) (k + 1) cap')) (.slice (some ⟨g, 0, none⟩) (k + 1) cap') (l ++ [r])) := own_fr HLn.out (Fr.set X3 (w.heap.size + 1 + 1) 2 _) (fun g2 cur _ _ hg e => (by subst e; rw [show w.heap.size + 1 + 1 = w.heap.size + 2 from rfl, HP3.out.2.2.1] at hg; injection hg with e; injection e with _ e2; exact absurd e2 (by decide)))
                refine hK.out _ _ ?_ (fun hS => ?_)
                · obtain ⟨s0, s1, s2, s3, s4⟩ := hS
                  refine ⟨?_, ?_, ?_, ?_, ?_⟩
                  · rw [World.cell?_setCell_far _ _ _ _ (by show w.heap.size + 1 + 1 ≠ w.heap.size; omega)]; exact s0
                  · rw [World.cell?_setCell_far _ _ _ _ (by show w.heap.size + 1 + 1 ≠ b; omega)]; exact s1
                  · rw [World.cell?_setCell_far _ _ _ _ (by show w.heap.size + 1 + 1 ≠ b; omega)]; exact s2
                  · rw [World.cell?_setCell_far _ _ _ _ (by show w.heap.size + 1 + 1 ≠ b; omega)]; exact s3
                  · rw [World.cell?_setCell_far _ _ _ _ (by show w.heap.size + 1 + 1 ≠ b; omega)]; exact s4
                clear hK K e4 e5
                try simp only [Act.put, List.setIfInBounds_toArray, List.set_cons_zero, List.set_cons_succ]
                refine wpAnyH_done (by kernel_rfl) ?_ _
                go_wp2
                go_roundw
                case rel => exact ⟨k + 1, by omega, by go_num, _, HPF.out, by rw [HRS.out]; exact HLF.out, HLW.out⟩
                case measure => simp [intOf]; omega
              exact AllReadyH.nil
            exact AllReadyH.nil
          exact AllReadyH.nil
        exact AllReadyH.nil
      refine AllReadyH.cons (o := ⟨some 29, .call ⟨.value (.func 129), #[.tmp 28], #[142]⟩, _, _, _, _⟩) rfl (fun K hK => ?_) ?_
      ·
        go_simp
        refine (rule_any _ _ _ _ _).mono ?_
        rintro _ X5 ⟨rfl, hx5⟩
        (try go_wp2_with fail)
        refine hK.out _ _ ?_ (fun hS => ?_)
        · exact ⟨(World.cell?_of_block (a := ⟨w.heap.size, 2, none⟩) (hx5.block _ (World.block_lt_of_cell? _ _ hS.1))).trans hS.1, (World.cell?_of_block (a := ⟨b, _, none⟩) (hx5.block _ (World.block_lt_of_cell? _ _ hS.2.1))).trans hS.2.1, (World.cell?_of_block (a := ⟨b, _, none⟩) (hx5.block _ (World.block_lt_of_cell? _ _ hS.2.2.1))).trans hS.2.2.1, (World.cell?_of_block (a := ⟨b, _, none⟩) (hx5.block _ (World.block_lt_of_cell? _ _ hS.2.2.2.1))).trans hS.2.2.2.1, (World.cell?_of_block (a := ⟨b, _, none⟩) (hx5.block _ (World.block_lt_of_cell? _ _ hS.2.2.2.2))).trans hS.2.2.2.2⟩
        clear hK K
        try simp only [Act.put, List.setIfInBounds_toArray, List.set_cons_zero, List.set_cons_succ]
        have HP5 := Lib.hid (HPd.out.below hx5); have HL5 : Hid (LL X5 (.slice aa k ac) l) := own_fr HLd.out (Fr.below hx5 (fun _ => False)) (fun _ _ _ _ _ e => e)
        clear hx5
        refine wpAnyH_ready (rs := [1, 8]) (by kernel_rfl) (by simp) ?_
        refine AllReadyH.cons (o := ⟨some 23, .load 95 (.tmp 22), _, _, _, _⟩) rfl (fun K hK => ?_) ?_
        ·
          have e4 : X5.cell? ⟨w.heap.size + 1 + 1, 2, none⟩ = some (.slice aa k ac) := cell_of_row _ _ 2 _ _ _ HP5.out.2.2.1
          go_simp
          clear e4
          refine hK.out _ _ hS (fun hS => ?_)
          clear hK K
          try simp only [Act.put, List.setIfInBounds_toArray, List.set_cons_zero, List.set_cons_succ]
          refine wpAnyH_ready (rs := [8]) (by kernel_rfl) (by simp) ?_
          refine AllReadyH.cons (o := ⟨some 30, .buildSlice 95 1 #[(0, .tmp 29)], _, _, _, _⟩) rfl (fun K hK => ?_) ?_
          ·
            go_simp
            refine hK.out _ _ ?_ (fun hS => ?_)
            · exact ⟨kept (below_alloc _ _) (World.block_lt_of_cell? _ _ hS.1) hS.1, kept (below_alloc _ _) (World.block_lt_of_cell? _ _ hS.2.1) hS.2.1, kept (below_alloc _ _) (World.block_lt_of_cell? _ _ hS.2.2.1) hS.2.2.1, kept (below_alloc _ _) (World.block_lt_of_cell? _ _ hS.2.2.2.1) hS.2.2.2.1, kept (below_alloc _ _) (World.block_lt_of_cell? _ _ hS.2.2.2.2) hS.2.2.2.2⟩
            clear hK K
            try simp only [Act.put, List.setIfInBounds_toArray, List.set_cons_zero, List.set_cons_succ]
            have HP7 := Lib.hid (HP5.out.below (below_alloc X5 (.cells #[.int .i64 r.f, .int .i64 r.b, .int .i64 r.m, .int .i64 r.e] 156))); have HL7 : Hid (LL (X5.alloc (.cells #[.int .i64 r.f, .int .i64 r.b, .int .i64 r.m, .int .i64 r.e] 156)) (.slice aa k ac) l) := own_fr HL5.out (Fr.below (below_alloc X5 (.cells #[.int .i64 r.f, .int .i64 r.b, .int .i64 r.m, .int .i64 r.e] 156)) (fun _ => False)) (fun _ _ _ _ _ e => e)
            have HB : Hid ((X5.alloc (.cells #[.int .i64 r.f, .int .i64 r.b, .int .i64 r.m, .int .i64 r.e] 156)).heap[X5.heap.size]? = some (.cells #[.int .i64 r.f, .int .i64 r.b, .int .i64 r.m, .int .i64 r.e] 156 (0, 0))) := heap_alloc_new X5 _
            generalize X5.heap.size = B30 at *
            generalize X5.alloc (.cells #[.int .i64 r.f, .int .i64 r.b, .int .i64 r.m, .int .i64 r.e] 156) = X7 at *
            refine wpAnyH_ready (rs := [9]) (by kernel_rfl) (by simp) ?_
            refine AllReadyH.cons (o := ⟨some 31, .call ⟨.builtin .append, #[.tmp 23, .tmp 30], #[95, 95]⟩, _, _, _, _⟩) rfl (fun K hK => ?_) ?_
            ·
              have HLk : Hid (X7.ownsRow 0 156 4 (.slice aa k ac) k (flatL l)) := (by have := HL7.out; unfold LL at this; rw [HLLEN.out] at this; exact this)
              refine step_append_lies _ (by rfl) (.tmp 23) (.tmp 30) 95 (by rfl) 0 156 i0 (.agg #[.int .i64 0, .int .i64 0, .int .i64 0, .int .i64 0]) 4 32 Tryz.underlying95 hi0 hz0 hz1 hz2 rfl (by omega) (.slice aa k ac) k (flatL l) (by rfl) HLk.out ⟨B30, 0, none⟩ 1 1 [.int .i64 r.f, .int .i64 r.b, .int .i64 r.m, .int .i64 r.e] (by rfl) (by rfl) (World.news_of_block HB.out) (by simp [Value.oneCell']) (by omega) (by unfold maxLen; omega) (by omega) (Nat.zero_le _) _ rfl ?_
              intro g cap' X8 hown hgrow hat hlt1
              have HS8 := Lib.hid (HSF.out X7 X8 hS (Fr.grown hgrow) HP7.out.1 HL7.out HP7.out.2.2.2.size)
              have HP8 := Lib.hid (HP7.out.fr (Fr.grown hgrow) (fun q c t e hc => .inl (HL7.out.ex q c t e hc)) (fun q e => HLOW.out q e))
              have HLn : Hid (LL X8 (.slice (some ⟨g, 0, none⟩) (k + 1) cap') (l ++ [r])) := (by unfold Hid LL; rw [flatL_snoc, show (l ++ [r]).length = k + 1 from by simp [HLLEN.out]]; exact hown)
              have HLW : Hid (∀ q, (Value.slice (some ⟨g, 0, none⟩) (k + 1) cap').ownBlock = some q → w.heap.size ≤ q) := (fun q hq => by have e : g = q := Option.some.inj hq; subst e; rcases hat with e | e; exact HLOW.out _ e; (have := HP7.out.2.2.2.size; omega))
              clear hown hgrow hat hlt1
              refine hK.out _ _ HS8.out (fun hS => ?_)
              clear hK K
              try simp only [Act.put, List.setIfInBounds_toArray, List.set_cons_zero, List.set_cons_succ]
              refine wpAnyH_take (i := 10) (oi := ⟨some 32, .fieldAddr 98 (.tmp 3) 1, _, _, _, _⟩) (v := .pointer (some ⟨w.heap.size + 1 + 1, 2, none⟩)) rfl (by kernel_rfl) (by kernel_rfl) (by kernel_rfl) (fun _ _ _ h => h) (Or.inl ⟨by rfl, ?_⟩) hS ?_
              · intro W' hSw; (try dsimp only at hSw); obtain ⟨s0, s1, s2, s3, s4⟩ := hSw; go_simp
              try simp only [Act.put, List.setIfInBounds_toArray, List.set_cons_zero, List.set_cons_succ]
              refine wpAnyH_ready (rs := [11]) (by kernel_rfl) (by simp) ?_
              refine AllReadyH.cons (o := ⟨none, .store 95 (.tmp 32) (.tmp 31), _, _, _, _⟩) rfl (fun K hK => ?_) ?_
              ·
                have e4 : X8.cell? ⟨w.heap.size + 1 + 1, 2, none⟩ = some (.slice aa k ac) := cell_of_row _ _ 2 _ _ _ HP8.out.2.2.1
                have e5 : X8.frozen? ⟨w.heap.size + 1 + 1, 2, none⟩ = false := frozen_of_row _ _ 2 _ _ HP8.out.2.2.1
                go_simp
                have HPF : Hid (PI w p (.slice (some ⟨b, off, none⟩) p.nr rc) (.slice ca p.nc cc) (.slice (some ⟨g, 0, none⟩) (k + 1) cap') (.slice none 0 0) (X8.setCell ⟨w.heap.size + 1 + 1, 2, none⟩ (.slice (some ⟨g, 0, none⟩) (k + 1) cap'))) := HP8.out.set 2 _ _ rfl
                have HLF : Hid (LL (X8.setCell ⟨w.heap.size + 1 + 1, 2, none⟩ (.slice (some ⟨g, 0, none⟩) (k + 1) cap')) (.slice (some ⟨g, 0, none⟩) (k + 1) cap') (l ++ [r])) := own_fr HLn.out (Fr.set X8 (w.heap.size + 1 + 1) 2 _) (fun g2 cur _ _ hg e => (by subst e; rw [show w.heap.size + 1 + 1 = w.heap.size + 2 from rfl, HP8.out.2.2.1] at hg; injection hg with e; injection e with _ e2; exact absurd e2 (by decide)))
                refine hK.out _ _ ?_ (fun hS => ?_)
                · obtain ⟨s0, s1, s2, s3, s4⟩ := hS
                  refine ⟨?_, ?_, ?_, ?_, ?_⟩
                  · rw [World.cell?_setCell_far _ _ _ _ (by show w.heap.size + 1 + 1 ≠ w.heap.size; omega)]; exact s0
                  · rw [World.cell?_setCell_far _ _ _ _ (by show w.heap.size + 1 + 1 ≠ b; omega)]; exact s1
                  · rw [World.cell?_setCell_far _ _ _ _ (by show w.heap.size + 1 + 1 ≠ b; omega)]; exact s2
                  · rw [World.cell?_setCell_far _ _ _ _ (by show w.heap.size + 1 + 1 ≠ b; omega)]; exact s3
                  · rw [World.cell?_setCell_far _ _ _ _ (by show w.heap.size + 1 + 1 ≠ b; omega)]; exact s4
                clear hK K e4 e5
                try simp only [Act.put, List.setIfInBounds_toArray, List.set_cons_zero, List.set_cons_succ]
                refine wpAnyH_done (by kernel_rfl) ?_ _
                go_wp2
                go_roundw
                case rel => exact ⟨k + 1, by omega, by go_num, _, HPF.out, by rw [HRS.out]; exact HLF.out, HLW.out⟩
                case measure => simp [intOf]; omega
              exact AllReadyH.nil
            exact AllReadyH.nil
          exact AllReadyH.nil
        refine AllReadyH.cons (o := ⟨some 30, .buildSlice 95 1 #[(0, .tmp 29)], _, _, _, _⟩) rfl (fun K hK => ?_) ?_
        ·
          go_simp
          refine hK.out _ _ ?_ (fun hS => ?_)
          · exact ⟨kept (below_alloc _ _) (World.block_lt_of_cell? _ _ hS.1) hS.1, kept (below_alloc _ _) (World.block_lt_of_cell? _ _ hS.2.1) hS.2.1, kept (below_alloc _ _) (World.block_lt_of_cell? _ _ hS.2.2.1) hS.2.2.1, kept (below_alloc _ _) (World.block_lt_of_cell? _ _ hS.2.2.2.1) hS.2.2.2.1, kept (below_alloc _ _) (World.block_lt_of_cell? _ _ hS.2.2.2.2) hS.2.2.2.2⟩
          clear hK K
          try simp only [Act.put, List.setIfInBounds_toArray, List.set_cons_zero, List.set_cons_succ]
          have HP10 := Lib.hid (HP5.out.below (below_alloc X5 (.cells #[.int .i64 r.f, .int .i64 r.b, .int .i64 r.m, .int .i64 r.e] 156))); have HL10 : Hid (LL (X5.alloc (.cells #[.int .i64 r.f, .int .i64 r.b, .int .i64 r.m, .int .i64 r.e] 156)) (.slice aa k ac) l) := own_fr HL5.out (Fr.below (below_alloc X5 (.cells #[.int .i64 r.f, .int .i64 r.b, .int .i64 r.m, .int .i64 r.e] 156)) (fun _ => False)) (fun _ _ _ _ _ e => e)
          have HB : Hid ((X5.alloc (.cells #[.int .i64 r.f, .int .i64 r.b, .int .i64 r.m, .int .i64 r.e] 156)).heap[X5.heap.size]? = some (.cells #[.int .i64 r.f, .int .i64 r.b, .int .i64 r.m, .int .i64 r.e] 156 (0, 0))) := heap_alloc_new X5 _
          generalize X5.heap.size = B30 at *
          generalize X5.alloc (.cells #[.int .i64 r.f, .int .i64 r.b, .int .i64 r.m, .int .i64 r.e] 156) = X10 at *
          refine wpAnyH_ready (rs := [1]) (by kernel_rfl) (by simp) ?_
          refine AllReadyH.cons (o := ⟨some 23, .load 95 (.tmp 22), _, _, _, _⟩) rfl (fun K hK => ?_) ?_
          ·
            have e4 : X10.cell? ⟨w.heap.size + 1 + 1, 2, none⟩ = some (.slice aa k ac) := cell_of_row _ _ 2 _ _ _ HP10.out.2.2.1
            go_simp
            clear e4
            refine hK.out _ _ hS (fun hS => ?_)
            clear hK K
            try simp only [Act.put, List.setIfInBounds_toArray, List.set_cons_zero, List.set_cons_succ]
            refine wpAnyH_ready (rs := [9]) (by kernel_rfl) (by simp) ?_
            refine AllReadyH.cons (o := ⟨some 31, .call ⟨.builtin .append, #[.tmp 23, .tmp 30], #[95, 95]⟩, _, _, _, _⟩) rfl (fun K hK => ?_) ?_
            ·
              have HLk : Hid (X10.ownsRow 0 156 4 (.slice aa k ac) k (flatL l)) := (by have := HL10.out; unfold LL at this; rw [HLLEN.out] at this; exact this)
              refine step_append_lies _ (by rfl) (.tmp 23) (.tmp 30) 95 (by rfl) 0 156 i0 (.agg #[.int .i64 0, .int .i64 0, .int .i64 0, .int .i64 0]) 4 32 Tryz.underlying95 hi0 hz0 hz1 hz2 rfl (by omega) (.slice aa k ac) k (flatL l) (by rfl) HLk.out ⟨B30, 0, none⟩ 1 1 [.int .i64 r.f, .int .i64 r.b, .int .i64 r.m, .int .i64 r.e] (by rfl) (by rfl) (World.news_of_block HB.out) (by simp [Value.oneCell']) (by omega) (by unfold maxLen; omega) (by omega) (Nat.zero_le _) _ rfl ?_
              intro g cap' X12 hown hgrow hat hlt1
              have HS12 := Lib.hid (HSF.out X10 X12 hS (Fr.grown hgrow) HP10.out.1 HL10.out HP10.out.2.2.2.size)
              have HP12 := Lib.hid (HP10.out.fr (Fr.grown hgrow) (fun q c t e hc => .inl (HL10.out.ex q c t e hc)) (fun q e => HLOW.out q e))
              have HLn : Hid (LL X12 (.slice (some ⟨g, 0, none⟩) (k + 1) cap') (l ++ [r])) := (by unfold Hid LL; rw [flatL_snoc, show (l ++ [r]).length = k + 1 from by simp [HLLEN.out]]; exact hown)
              have HLW : Hid (∀ q, (Value.slice (some ⟨g, 0, none⟩) (k + 1) cap').ownBlock = some q → w.heap.size ≤ q) := (fun q hq => by have e : g = q := Option.some.inj hq; subst e; rcases hat with e | e; exact HLOW.out _ e; (have := HP10.out.2.2.2.size; omega))
              clear hown hgrow hat hlt1
              refine hK.out _ _ HS12.out (fun hS => ?_)
              clear hK K
              try simp only [Act.put, List.setIfInBounds_toArray, List.set_cons_zero, List.set_cons_succ]
              refine wpAnyH_take (i := 10) (oi := ⟨some 32, .fieldAddr 98 (.tmp 3) 1, _, _, _, _⟩) (v := .pointer (some ⟨w.heap.size + 1 + 1, 2, none⟩)) rfl (by kernel_rfl) (by kernel_rfl) (by kernel_rfl) (fun _ _ _ h => h) (Or.inl ⟨by rfl, ?_⟩) hS ?_
              · intro W' hSw; (try dsimp only at hSw); obtain ⟨s0, s1, s2, s3, s4⟩ := hSw; go_simp
              try simp only [Act.put, List.setIfInBounds_toArray, List.set_cons_zero, List.set_cons_succ]
              refine wpAnyH_ready (rs := [11]) (by kernel_rfl) (by simp) ?_
              refine AllReadyH.cons (o := ⟨none, .store 95 (.tmp 32) (.tmp 31), _, _, _, _⟩) rfl (fun K hK => ?_) ?_
              ·
                have e4 : X12.cell? ⟨w.heap.size + 1 + 1, 2, none⟩ = some (.slice aa k ac) := cell_of_row _ _ 2 _ _ _ HP12.out.2.2.1
                have e5 : X12.frozen? ⟨w.heap.size + 1 + 1, 2, none⟩ = false := frozen_of_row _ _ 2 _ _ HP12.out.2.2.1
                go_simp
                have HPF : Hid (PI w p (.slice (some ⟨b, off, none⟩) p.nr rc) (.slice ca p.nc cc) (.slice (some ⟨g, 0, none⟩) (k + 1) cap') (.slice none 0 0) (X12.setCell ⟨w.heap.size + 1 + 1, 2, none⟩ (.slice (some ⟨g, 0, none⟩) (k + 1) cap'))) := HP12.out.set 2 _ _ rfl
                have HLF : Hid (LL (X12.setCell ⟨w.heap.size + 1 + 1, 2, none⟩ (.slice (some ⟨g, 0, none⟩) (k + 1) cap')) (.slice (some ⟨g, 0, none⟩) (k + 1) cap') (l ++ [r])) := own_fr HLn.out (Fr.set X12 (w.heap.size + 1 + 1) 2 _) (fun g2 cur _ _ hg e => (by subst e; rw [show w.heap.size + 1 + 1 = w.heap.size + 2 from rfl, HP12.out.2.2.1] at hg; injection hg with e; injection e with _ e2; exact absurd e2 (by decide)))
                refine hK.out _ _ ?_ (fun hS => ?_)
                · obtain ⟨s0, s1, s2, s3, s4⟩ := hS
                  refine ⟨?_, ?_, ?_, ?_, ?_⟩
                  · rw [World.cell?_setCell_far _ _ _ _ (by show w.heap.size + 1 + 1 ≠ w.heap.size; omega)]; exact s0
                  · rw [World.cell?_setCell_far _ _ _ _ (by show w.heap.size + 1 + 1 ≠ b; omega)]; exact s1
                  · rw [World.cell?_setCell_far _ _ _ _ (by show w.heap.size + 1 + 1 ≠ b; omega)]; exact s2
                  · rw [World.cell?_setCell_far _ _ _ _ (by show w.heap.size + 1 + 1 ≠ b; omega)]; exact s3
                  · rw [World.cell?_setCell_far _ _ _ _ (by show w.heap.size + 1 + 1 ≠ b; omega)]; exact s4
                clear hK K e4 e5
                try simp only [Act.put, List.setIfInBounds_toArray, List.set_cons_zero, List.set_cons_succ]
                refine wpAnyH_done (by kernel_rfl) ?_ _
                go_wp2
                go_roundw
                case rel => exact ⟨k + 1, by omega, by go_num, _, HPF.out, by rw [HRS.out]; exact HLF.out, HLW.out⟩
                case measure => simp [intOf]; omega
              exact AllReadyH.nil
            exact AllReadyH.nil
          exact AllReadyH.nil
        exact AllReadyH.nil
      exact AllReadyH.nil
    · obtain rfl : k = p.nr := by omega
      go_wp2
      obtain ⟨wo, rfl⟩ : ∃ wo : World, wo = wr := ⟨_, rfl⟩
      go_loopw [5] (fun i wr => ∃ j : Nat, j ≤ p.nc ∧ i = .int .i64 j ∧ ∃ bv, PI w p (.slice ra p.nr rc) (.slice ca p.nc cc) (.slice aa p.nr ac) bv wr ∧ LL wr (.slice aa p.nr ac) (rlTo p.R p.nr) ∧ CL wr bv (rcTo p.C j) ∧ ∀ q, bv.ownBlock = some q → w.heap.size ≤ q) (fun i _ => p.nc - (intOf i).toNat)
      case atStart => exact ⟨0, Nat.zero_le _, rfl, _, HP.out, HL.out, World.ownsRow_nil _ _ _ _, fun q hq => by cases hq⟩
      case round =>
        clear HP HL d2 d3 hbw hlt HLOW
        obtain ⟨j, hj, rfl, bv, hpi, hll, hcl, hlow⟩ := hrel
        obtain ⟨ba, bc, rfl⟩ := hcl.at.slice
        rw [rcTo_length] at hpi hcl hlow
        have HP := Lib.hid hpi; have HL := Lib.hid hll; have HCL := Lib.hid hcl; have HLOW := Lib.hid hlow
        have d3 : wr.cell? ⟨w.heap.size, 3, none⟩ = some (.slice ca p.nc cc) := cell_of_row _ _ 3 _ _ _ hpi.1
        have hbw := hpi.2.2.2
        have hs2 := (Array.getElem?_eq_some_iff.1 hpi.2.2.1).1
        by_cases hjl : j < p.nc
        · obtain ⟨b, off, rfl, hbs, x0, x1, x2⟩ := HC.out.at hbw hjl
          have HRS : Hid (rcTo p.C (j + 1) = rcTo p.C j ++ [p.C j]) := rcTo_succ _ _
          have hlen : (rcTo p.C j).length = j := rcTo_length _ _
          have HLLEN := Lib.hid hlen; clear hlen
          generalize rcTo p.C j = l at *
          generalize p.C j = r at *
          have ki : (0 : Int) ≤ (j : Int) := by omega
          have kj : (j : Int) < (p.nc : Int) := by omega
          have d4 : wr.cell? ⟨w.heap.size + 1 + 1, 3, none⟩ = some (.slice ba j bc) := cell_of_row _ _ 3 _ _ _ hpi.2.2.1
          have hs3 : w.heap.size + 1 + 1 < wr.heap.size := hs2
          have hs4 : w.heap.size + 1 + 1 < wr.heap.size + 1 := by omega
          have HCk : Hid (wr.ownsRow 0 159 3 (.slice ba j bc) j (flatC l)) := (by have := HCL.out; unfold CL at this; rw [HLLEN.out] at this; exact this)
          clear hpi hll hcl hlow
          go_wp2_with (at_builtin; refine wpList_append_lies _ rfl (.tmp 46) (.tmp 54) 96 rfl 0 159 i1 (.agg #[.int .i64 0, .int .i64 0, .int .i64 0]) 3 24 Tryz.underlying96 hi1 hy0 hy1 hy2 rfl (by omega) (.slice ba j bc) j (flatC l) rfl (World.ownsRow.alloc (World.ownsRow.alloc HCk.out _) _) ⟨wr.heap.size + 1, 0, none⟩ 1 1 [.int .i64 r.day, .int .i64 r.rule, .int .i64 r.num] rfl rfl ?c1 ?c2 ?c3 ?c4 ?c5 ?c6 (wr.heap.size + 1 + 1) ?c7 ?_)
          case c1 =>
            have := heap_alloc_new (wr.alloc (.cells #[.int .i64 r.day, .int .i64 r.rule, .int .i64 r.num] 140)) (.cells #[.int .i64 r.day, .int .i64 r.rule, .int .i64 r.num] 159)
            rw [World.size_alloc] at this
            exact World.news_of_block this
          case c2 => simp [Value.oneCell']
          case c3 => omega
          case c4 => unfold maxLen; omega
          case c5 => omega
          case c6 => omega
          case c7 => simp
          intro g cap' X hown hgrow hat hlt1
          have hX : Below wr.heap.size wr ((wr.alloc (.cells #[.int .i64 r.day, .int .i64 r.rule, .int .i64 r.num] 140)).alloc (.cells #[.int .i64 r.day, .int .i64 r.rule, .int .i64 r.num] 159)) := (below_alloc _ _).alloc (by simp) _
          have hfr : Fr (fun q => (Value.slice ba j bc).ownBlock = some q) wr X := (Fr.below hX _).trans (Fr.grown hgrow)
          have HPn := Lib.hid (HP.out.fr hfr (fun q c t e hc => .inr (HCL.out.ex q c t e hc)) (fun q e => HLOW.out q e))
          have HLn : Hid (LL X (.slice aa p.nr ac) (rlTo p.R p.nr)) := own_fr HL.out hfr (fun g2 cur _ _ hg e => absurd (HCL.out.ex _ _ _ e hg) (by decide))
          have HCn : Hid (CL X (.slice (some ⟨g, 0, none⟩) (j + 1) cap') (l ++ [r])) := (by unfold Hid CL; rw [flatC_snoc, show (l ++ [r]).length = j + 1 from by simp [HLLEN.out]]; exact hown)
          have HLW : Hid (∀ q, (Value.slice (some ⟨g, 0, none⟩) (j + 1) cap').ownBlock = some q → w.heap.size ≤ q) := (fun q hq => by have e : g = q := Option.some.inj hq; subst e; rcases hat with e | e; exact HLOW.out _ e; omega)
          have e4 : X.cell? ⟨w.heap.size + 1 + 1, 3, none⟩ = some (.slice ba j bc) := cell_of_row _ _ 3 _ _ _ HPn.out.2.2.1
          have e5 : X.frozen? ⟨w.heap.size + 1 + 1, 3, none⟩ = false := frozen_of_row _ _ 3 _ _ HPn.out.2.2.1
          have HPF : Hid (PI w p (.slice ra p.nr rc) (.slice (some ⟨b, off, none⟩) p.nc cc) (.slice aa p.nr ac) (.slice (some ⟨g, 0, none⟩) (j + 1) cap') (X.setCell ⟨w.heap.size + 1 + 1, 3, none⟩ (.slice (some ⟨g, 0, none⟩) (j + 1) cap'))) := HPn.out.set 3 _ _ rfl
          have hne : ∀ (g2 : Nat) (cur : Array Value) (t : TypeId), t ≠ 98 → X.heap[g2]? = some (Obj.cells cur t (0, 0)) → ¬ g2 = w.heap.size + 1 + 1 := fun g2 cur t ht hg e => (by subst e; rw [show w.heap.size + 1 + 1 = w.heap.size + 2 from rfl, HPn.out.2.2.1] at hg; injection hg with e; injection e with _ e2; exact ht e2.symm)
          have HLF : Hid (LL (X.setCell ⟨w.heap.size + 1 + 1, 3, none⟩ (.slice (some ⟨g, 0, none⟩) (j + 1) cap')) (.slice aa p.nr ac) (rlTo p.R p.nr)) := own_fr HLn.out (Fr.set X (w.heap.size + 1 + 1) 3 _) (fun g2 cur _ _ hg => hne g2 cur _ (by decide) hg)
          have HCF : Hid (CL (X.setCell ⟨w.heap.size + 1 + 1, 3, none⟩ (.slice (some ⟨g, 0, none⟩) (j + 1) cap')) (.slice (some ⟨g, 0, none⟩) (j + 1) cap') (l ++ [r])) := own_fr HCn.out (Fr.set X (w.heap.size + 1 + 1) 3 _) (fun g2 cur _ _ hg => hne g2 cur _ (by decide) hg)
          clear hown hgrow hat hlt1 hX hfr hne
          go_wp2
          go_roundw
          case rel => exact ⟨j + 1, by omega, by go_num, _, HPF.out, HLF.out, by rw [HRS.out]; exact HCF.out, HLW.out⟩
          case measure => simp [intOf]; omega
        · obtain rfl : j = p.nc := by omega
          have k0 : wr.cell? ⟨w.heap.size + 1, 0, none⟩ = some (.int .i64 0) := cell_of_row _ _ 0 _ _ _ hpi.2.1
          have k1 : wr.cell? ⟨w.heap.size + 1, 1, none⟩ = some (.int .i64 0) := cell_of_row _ _ 1 _ _ _ hpi.2.1
          have k2 : wr.cell? ⟨w.heap.size + 1, 2, none⟩ = some (.slice none 0 0) := cell_of_row _ _ 2 _ _ _ hpi.2.1
          have k3 : wr.cell? ⟨w.heap.size + 1, 3, none⟩ = some (.slice none 0 0) := cell_of_row _ _ 3 _ _ _ hpi.2.1
          have f0 : wr.frozen? ⟨w.heap.size + 1, 0, none⟩ = false := frozen_of_row _ _ 0 _ _ hpi.2.1
          have f1 : wr.frozen? ⟨w.heap.size + 1, 1, none⟩ = false := frozen_of_row _ _ 1 _ _ hpi.2.1
          have f2 : wr.frozen? ⟨w.heap.size + 1, 2, none⟩ = false := frozen_of_row _ _ 2 _ _ hpi.2.1
          have f3 : wr.frozen? ⟨w.heap.size + 1, 3, none⟩ = false := frozen_of_row _ _ 3 _ _ hpi.2.1
          have m0 : wr.cell? ⟨w.heap.size + 1 + 1, 0, none⟩ = some (.int .i64 p.lo) := cell_of_row _ _ 0 _ _ _ hpi.2.2.1
          have m1 : wr.cell? ⟨w.heap.size + 1 + 1, 1, none⟩ = some (.int .i64 p.hi) := cell_of_row _ _ 1 _ _ _ hpi.2.2.1
          have m2 : wr.cell? ⟨w.heap.size + 1 + 1, 2, none⟩ = some (.slice aa p.nr ac) := cell_of_row _ _ 2 _ _ _ hpi.2.2.1
          have m3 : wr.cell? ⟨w.heap.size + 1 + 1, 3, none⟩ = some (.slice ba p.nc bc) := cell_of_row _ _ 3 _ _ _ hpi.2.2.1
          have hfr : ∀ (a b c d : Value), Fr (fun q => q = w.heap.size + 1) wr ((((wr.setCell ⟨w.heap.size + 1, 0, none⟩ a).setCell ⟨w.heap.size + 1, 1, none⟩ b).setCell ⟨w.heap.size + 1, 2, none⟩ c).setCell ⟨w.heap.size + 1, 3, none⟩ d) := fun a b c d => (((Fr.set _ _ _ _).trans (Fr.set _ _ _ _)).trans (Fr.set _ _ _ _)).trans (Fr.set _ _ _ _)
          have HFR := Lib.hid hfr
          have hne : ∀ (g2 : Nat) (cur : Array Value) (t : TypeId), t ≠ 98 → wr.heap[g2]? = some (Obj.cells cur t (0, 0)) → ¬ g2 = w.heap.size + 1 := fun g2 cur t ht hg e => (by subst e; rw [HP.out.2.1] at hg; injection hg with e; injection e with _ e2; exact ht e2.symm)
          have HNE := Lib.hid hne
          have HBW := Lib.hid hbw
          clear hfr hne hpi hll hcl hlow hbw
          go_wp2
          refine bodyPost_ret (v := .agg #[.int .i64 p.lo, .int .i64 p.hi, .slice aa p.nr ac, .slice ba p.nc bc]) (by simp [results, Tryz.results104, go_sem, k0, k1, k2, k3]) rfl ⟨_, rfl, ⟨_, _, rfl, ?_, ?_⟩, ?_⟩
          · exact LL.rls (own_fr HL.out (HFR.out _ _ _ _) (fun g2 cur _ _ hg => HNE.out g2 cur _ (by decide) hg))
          · exact CL.rcs (own_fr HCL.out (HFR.out _ _ _ _) (fun g2 cur _ _ hg => HNE.out g2 cur _ (by decide) hg))
          · exact HBW.out.trans ((HFR.out _ _ _ _).low HBW.out.size (fun q hq e => by omega))
end Go.Proofs.YtgbdbikjckfgmaaGreat
namespace Go.Proofs.YtgbdbikjckfgmaaGreat
open Go.ChangeShapes Go.WideShapes Go.ChangeAt Go.RowKit
instance : Inhabited Rl := ⟨⟨0, 0, 0, 0⟩⟩
instance : Inhabited Rc := ⟨⟨0, 0, 0⟩⟩
set_option maxRecDepth 100000 in
theorem open_rl {H : Type} {enc : TypeId × Value → H} {W : World} {fuel : Nat} {cs : List Value} {x : DataW H × List MemPlace} (h : DataW.trod enc Tryz.prog W 0 (fun _ => true) true fuel 142 cs = some x) :
    ∃ r : Rl, cs = [.int .i64 r.f, .int .i64 r.b, .int .i64 r.m, .int .i64 r.e] := by
  obtain ⟨y0, y1, y2, y3, n, _, hl, h0, h1, h2, h3⟩ := Go.Joins.trod_struct4 Tryz.underlying142 h
  have hl4 : cs.length = 4 := hl.trans (by kernel_rfl)
  match cs, hl4 with
  | [c0, c1, c2, c3], _ =>
    obtain ⟨f, e0, _⟩ := DataW.trod_int Tryz.underlying3 h0
    obtain ⟨b, e1, _⟩ := DataW.trod_int Tryz.underlying3 h1
    obtain ⟨m, e2, _⟩ := DataW.trod_int Tryz.underlying3 h2
    obtain ⟨e, e3, _⟩ := DataW.trod_int Tryz.underlying3 h3
    have k : Tryz.prog.cellsOf 3 = 1 := by kernel_rfl
    rw [k] at e0 e1 e2 e3
    simp at e0 e1 e2 e3
    subst e0 e1 e2 e3
    exact ⟨⟨f, b, m, e⟩, rfl⟩
set_option maxRecDepth 100000 in
theorem open_rc {H : Type} {enc : TypeId × Value → H} {W : World} {fuel : Nat} {cs : List Value} {x : DataW H × List MemPlace} (h : DataW.trod enc Tryz.prog W 0 (fun _ => true) true fuel 140 cs = some x) :
    ∃ r : Rc, cs = [.int .i64 r.day, .int .i64 r.rule, .int .i64 r.num] := by
  obtain ⟨y0, y1, y2, n, _, hl, h0, h1, h2⟩ := Go.Deep.trod_struct3 Tryz.underlying140 h
  have hl4 : cs.length = 3 := hl.trans (by kernel_rfl)
  match cs, hl4 with
  | [c0, c1, c2], _ =>
    obtain ⟨f, e0, _⟩ := DataW.trod_int Tryz.underlying3 h0
    obtain ⟨b, e1, _⟩ := DataW.trod_int Tryz.underlying3 h1
    obtain ⟨m, e2, _⟩ := DataW.trod_int Tryz.underlying3 h2
    have k : Tryz.prog.cellsOf 3 = 1 := by kernel_rfl
    rw [k] at e0 e1 e2
    simp at e0 e1 e2
    subst e0 e1 e2
    exact ⟨⟨f, b, m⟩, rfl⟩
set_option maxRecDepth 100000 in
theorem open_rls {H : Type} {enc : TypeId × Value → H} {W : World} {fuel : Nat} {v : Value} {x : DataW H × List MemPlace} (h : DataW.trod enc Tryz.prog W 0 (fun _ => true) true fuel 72 [v] = some x) :
    ∃ n R, RlsIn W v n R ∧ n ≤ maxLen := by
  rcases Go.Deep.open_slice Tryz.underlying72 h with ⟨hcs, _⟩ | ⟨a, len, cap, m, n, D, Pl, hcs, _, hl, hm, hmm, _, hx⟩
  · simp at hcs; subst hcs
    exact ⟨0, fun _ => default, .inl ⟨_, _, rfl, rfl⟩, Nat.zero_le _⟩
  · simp at hcs; subst hcs
    simp only [if_true] at hmm
    subst hmm
    have k : Tryz.prog.cellsOf 142 = 4 := by kernel_rfl
    rw [k] at hx
    obtain ⟨R, hR⟩ := Go.Deep.choose_lt (α := Rl) (n := len) (p := fun i (r : Rl) => W.cells? 0 (a.add (i * 4)) 4 = some [.int .i64 r.f, .int .i64 r.b, .int .i64 r.m, .int .i64 r.e]) (fun i hi => by
      obtain ⟨cs', h1, h2⟩ := hx i (by omega)
      obtain ⟨r, rfl⟩ := open_rl h2
      exact ⟨r, h1⟩)
    rcases Nat.eq_zero_or_pos len with rfl | hpos
    · exact ⟨0, fun _ => default, .inl ⟨_, _, rfl, rfl⟩, Nat.zero_le _⟩
    · have hc0 := (World.cells?_some (hR 0 hpos)).2.2 0 (by omega)
      obtain ⟨b, off, spot⟩ := a
      obtain rfl : spot = none := by simpa [Addr.add] using World.cell?_spot hc0
      have hc : ∀ j, j < len → ∀ i, i < 4 → W.cell? ⟨b, off + j * 4 + i, none⟩ = [Value.int .i64 (R j).f, .int .i64 (R j).b, .int .i64 (R j).m, .int .i64 (R j).e][i]? := fun j hj i hi => by
        have := (World.cells?_some (hR j hj)).2.2 i hi
        rwa [Go.WideShapes.add_plain, Go.WideShapes.add_plain] at this
      have hbs : b < W.heap.size := World.block_lt_of_cell? W ⟨b, off + 0 * 4 + 0, none⟩ (hc 0 hpos 0 (by omega))
      exact ⟨len, R, .inr ⟨b, off, _, rfl, hbs, fun j hj => ⟨hc j hj 0 (by omega), hc j hj 1 (by omega), hc j hj 2 (by omega), hc j hj 3 (by omega)⟩⟩, by omega⟩
set_option maxRecDepth 100000 in
theorem open_rcs {H : Type} {enc : TypeId × Value → H} {W : World} {fuel : Nat} {v : Value} {x : DataW H × List MemPlace} (h : DataW.trod enc Tryz.prog W 0 (fun _ => true) true fuel 73 [v] = some x) :
    ∃ n C, RcsIn W v n C ∧ n ≤ maxLen := by
  rcases Go.Deep.open_slice Tryz.underlying73 h with ⟨hcs, _⟩ | ⟨a, len, cap, m, n, D, Pl, hcs, _, hl, hm, hmm, _, hx⟩
  · simp at hcs; subst hcs
    exact ⟨0, fun _ => default, .inl ⟨_, _, rfl, rfl⟩, Nat.zero_le _⟩
  · simp at hcs; subst hcs
    simp only [if_true] at hmm
    subst hmm
    have k : Tryz.prog.cellsOf 140 = 3 := by kernel_rfl
    rw [k] at hx
    obtain ⟨R, hR⟩ := Go.Deep.choose_lt (α := Rc) (n := len) (p := fun i (r : Rc) => W.cells? 0 (a.add (i * 3)) 3 = some [.int .i64 r.day, .int .i64 r.rule, .int .i64 r.num]) (fun i hi => by
      obtain ⟨cs', h1, h2⟩ := hx i (by omega)
      obtain ⟨r, rfl⟩ := open_rc h2
      exact ⟨r, h1⟩)
    rcases Nat.eq_zero_or_pos len with rfl | hpos
    · exact ⟨0, fun _ => default, .inl ⟨_, _, rfl, rfl⟩, Nat.zero_le _⟩
    · have hc0 := (World.cells?_some (hR 0 hpos)).2.2 0 (by omega)
      obtain ⟨b, off, spot⟩ := a
      obtain rfl : spot = none := by simpa [Addr.add] using World.cell?_spot hc0
      have hc : ∀ j, j < len → ∀ i, i < 3 → W.cell? ⟨b, off + j * 3 + i, none⟩ = [Value.int .i64 (R j).day, .int .i64 (R j).rule, .int .i64 (R j).num][i]? := fun j hj i hi => by
        have := (World.cells?_some (hR j hj)).2.2 i hi
        rwa [Go.WideShapes.add_plain, Go.WideShapes.add_plain] at this
      have hbs : b < W.heap.size := World.block_lt_of_cell? W ⟨b, off + 0 * 3 + 0, none⟩ (hc 0 hpos 0 (by omega))
      exact ⟨len, R, .inr ⟨b, off, _, rfl, hbs, fun j hj => ⟨hc j hj 0 (by omega), hc j hj 1 (by omega), hc j hj 2 (by omega)⟩⟩, by omega⟩
end Go.Proofs.YtgbdbikjckfgmaaGreat
