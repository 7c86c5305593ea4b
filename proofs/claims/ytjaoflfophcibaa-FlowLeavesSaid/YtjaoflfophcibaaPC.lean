/- before. Printed by gen_fo.py. | Bounds of the sizes (plain). | agree, given up's contract at the last census. | work. | arrive: the plain side, and the state inside the call. -/
import Derived.Test.YtjaoflfophcibaaPB
namespace Go.Proofs.Ytjaoflfophcibaa
open Go.RowKit Go.Shelf

attribute [local go_sem ↓] Go.wp_at_zero Go.wp_at_succ
set_option maxRecDepth 100000 in
set_option maxHeartbeats 4000000 in
theorem before_of (B bm n n' : Nat) (x : WV) (t : Tb) (out : Nat → Nat → Bool) (c g : Nat) (hc : c ≤ 100) (hg : g ≤ 100) (hn : n + 1 ≤ n') (hn2 : n' ≤ 100000)
    (har : ∀ W, St W B bm n x t out → 0 < c → Calls Try.prog 73 #[.pointer (some ⟨B, 0, none⟩), .agg #[.int .i64 c, .int .i64 g]] W (GivesR W B bm (n' - 1) x t out (t.before out c g))) (w : World) (hst : St w B bm n x t out) :
    Calls Try.prog 99 #[.pointer (some ⟨B, 0, none⟩), .agg #[.int .i64 c, .int .i64 g]] w (GivesR w B bm n' x t out (t.before out c g)) := by
  have hB : B < w.heap.size := (Array.getElem?_eq_some_iff.1 hst.wb).1
  have hbm : bm < w.heap.size := hst.cm.lt
  have HSW := Lib.hid hst
  have HAR := Lib.hid har
  obtain ⟨D, hD, hown⟩ := hst.cm
  obtain ⟨h, hlk⟩ := look_cm hD (c := c) (g := g) (by omega) (by omega)
  have hF : t.memo out c g = t.before out c g := by unfold Tb.memo; rw [Int.toNat_natCast, Int.toNat_natCast]
  rw [hF] at hlk
  have HB0 : Hid (Below w.heap.size w ((w.alloc (.cells #[.int .i64 c, .int .i64 g] 39)).alloc (.cells #[.int .i64 0, .int .i64 0] 29))) := (below_alloc _ _).alloc (by simp) _
  have HCE : Hid (∀ X : World, Below ((w.alloc (.cells #[.int .i64 c, .int .i64 g] 39)).alloc (.cells #[.int .i64 0, .int .i64 0] 29)).heap.size ((w.alloc (.cells #[.int .i64 c, .int .i64 g] 39)).alloc (.cells #[.int .i64 0, .int .i64 0] 29)) X → X.cell? ⟨w.heap.size, 0, none⟩ = some (.int .i64 c) ∧ X.cell? ⟨w.heap.size, 1, none⟩ = some (.int .i64 g) ∧ X.cell? ⟨B, 20, none⟩ = some (.map (some bm)) ∧ X.ownsMap Try.prog 39 rgR bm n D) := fun X hX => by
    have hwX := below_step HB0.out hX
    have k := (hX.block w.heap.size (by simp; omega)).trans ((Below.heap_alloc (w.alloc (.cells #[.int .i64 c, .int .i64 g] 39)) (.cells #[.int .i64 0, .int .i64 0] 29) _ (by simp)).trans (heap_alloc_new w (.cells #[.int .i64 c, .int .i64 g] 39)))
    obtain ⟨_, _, _, _, k20, _⟩ := (hst.wb.below hwX).cells
    exact ⟨cell_of_row _ _ 0 _ _ _ k, cell_of_row _ _ 1 _ _ _ k, k20, hown.kept (row := none) ⟨hwX.1, hwX.2, hwX.3, hwX.size, fun k hk _ => hwX.block k hk⟩ (by simp)⟩
  have HO0 : Hid (((w.alloc (.cells #[.int .i64 c, .int .i64 g] 39)).alloc (.cells #[.int .i64 0, .int .i64 0] 29)).heap[w.heap.size + 1]? = some (.cells #[.int .i64 0, .int .i64 0] 29 (0, 0))) := by
    have h := heap_alloc_new (w.alloc (.cells #[.int .i64 c, .int .i64 g] 39)) (.cells #[.int .i64 0, .int .i64 0] 29)
    simp only [World.size_alloc] at h
    exact h
  obtain ⟨p, hp⟩ : ∃ p, p = if h then (t.before out c g).1 else 0 := ⟨_, rfl⟩
  obtain ⟨q, hq⟩ : ∃ q, q = if h then (t.before out c g).2 else 0 := ⟨_, rfl⟩
  have HLK : Hid (∀ W, W.ownsMap Try.prog 39 rgR bm n D → (Instr.lookup 124 (.map (some bm)) (.agg #[.int .i64 c, .int .i64 g]) true).run Try.prog W = .ok (.tuple #[.agg #[.int .i64 p, .int .i64 q], .bool h]) W) := fun W hW => by
    have := hlk W bm n hW
    rw [hp, hq]; exact this
  have HPQ := Lib.hid (And.intro hp hq)
  clear hp hq hlk hst har hF
  go_enter Try.func99, Try.ntmps99
  go_upto_region 1 with fail
  go_cut [5, 6] (fun s5 s6 wx => ∃ BN : Nat, s5 = .pointer (some ⟨BN, 0, none⟩) ∧ s6 = .bool h ∧ wx.heap[BN]? = some (.cells #[.int .i64 p, .int .i64 q] 29 (0, 0)) ∧ Below ((w.alloc (.cells #[.int .i64 c, .int .i64 g] 39)).alloc (.cells #[.int .i64 0, .int .i64 0] 29)).heap.size ((w.alloc (.cells #[.int .i64 c, .int .i64 g] 39)).alloc (.cells #[.int .i64 0, .int .i64 0] 29)) wx ∧ ((w.alloc (.cells #[.int .i64 c, .int .i64 g] 39)).alloc (.cells #[.int .i64 0, .int .i64 0] 29)).heap.size ≤ BN)
  case first =>
    have HM : Hid (Below ((w.alloc (.cells #[.int .i64 c, .int .i64 g] 39)).alloc (.cells #[.int .i64 0, .int .i64 0] 29)).heap.size ((w.alloc (.cells #[.int .i64 c, .int .i64 g] 39)).alloc (.cells #[.int .i64 0, .int .i64 0] 29)) (World.drew ((w.alloc (.cells #[.int .i64 c, .int .i64 g] 39)).alloc (.cells #[.int .i64 0, .int .i64 0] 29)))) := (Below.refl _ _).drew
    refine wp_region_held_drew (S := fun X => X.cell? ⟨w.heap.size, 0, none⟩ = some (.int .i64 c) ∧ X.cell? ⟨w.heap.size, 1, none⟩ = some (.int .i64 g) ∧ X.cell? ⟨B, 20, none⟩ = some (.map (some bm)) ∧ X.ownsMap Try.prog 39 rgR bm n D) (by kernel_rfl) (HCE.out _ HM.out) (fun hS => ?_)
    generalize World.drew ((w.alloc (.cells #[.int .i64 c, .int .i64 g] 39)).alloc (.cells #[.int .i64 0, .int .i64 0] 29)) = X at *
    refine tH 0 (oi := ⟨_, _, _, _, _, _⟩) (v := .pointer (some ⟨B, 0, none⟩)) rfl (by kernel_rfl) (by rfl) (fun _ _ _ h => h) hS ?_ ?_
    · rintro W' ⟨s0, s1, s2, s3⟩; go_simp
    try simp only [Act.put, putA, putZ, putS]
    refine tH 1 (oi := ⟨_, _, _, _, _, _⟩) (v := .pointer (some ⟨B, 0, none⟩)) rfl (by kernel_rfl) (by rfl) (fun _ _ _ h => h) hS ?_ ?_
    · rintro W' ⟨s0, s1, s2, s3⟩; go_simp
    try simp only [Act.put, putA, putZ, putS]
    refine tH 2 (oi := ⟨_, _, _, _, _, _⟩) (v := .pointer (some ⟨B, 20, none⟩)) rfl (by kernel_rfl) (by rfl) (fun _ _ _ h => h) hS ?_ ?_
    · rintro W' ⟨s0, s1, s2, s3⟩; go_simp
    try simp only [Act.put, putA, putZ, putS]
    refine tH 3 (oi := ⟨_, _, _, _, _, _⟩) (v := .map (some bm)) rfl (by kernel_rfl) (by rfl) (fun _ _ _ h => h) hS ?_ ?_
    · rintro W' ⟨s0, s1, s2, s3⟩; go_simp
    try simp only [Act.put, putA, putZ, putS]
    refine tH 4 (oi := ⟨_, _, _, _, _, _⟩) (v := .agg #[.int .i64 c, .int .i64 g]) rfl (by kernel_rfl) (by rfl) (fun _ _ _ h => h) hS ?_ ?_
    · rintro W' ⟨s0, s1, s2, s3⟩; go_simp
    try simp only [Act.put, putA, putZ, putS]
    refine tH 5 (oi := ⟨_, _, _, _, _, _⟩) (v := .tuple #[.agg #[.int .i64 p, .int .i64 q], .bool h]) rfl (by kernel_rfl) (by rfl) (fun _ _ _ h => h) hS ?_ ?_
    · rintro W' ⟨s0, s1, s2, s3⟩; have hl := HLK.out W' s3; go_simp
    try simp only [Act.put, putA, putZ, putS]
    refine tH 6 (oi := ⟨_, _, _, _, _, _⟩) (v := .tuple #[.agg #[.int .i64 p, .int .i64 q], .bool h]) rfl (by kernel_rfl) (by rfl) (fun _ _ _ h => h) hS ?_ ?_
    · rintro W' ⟨s0, s1, s2, s3⟩; go_simp
    try simp only [Act.put, putA, putZ, putS]
    refine tH 7 (oi := ⟨_, _, _, _, _, _⟩) (v := .agg #[.int .i64 p, .int .i64 q]) rfl (by kernel_rfl) (by rfl) (fun _ _ _ h => h) hS ?_ ?_
    · rintro W' ⟨s0, s1, s2, s3⟩; go_simp
    try simp only [Act.put, putA, putZ, putS]
    refine tH 8 (oi := ⟨_, _, _, _, _, _⟩) (v := .bool h) rfl (by kernel_rfl) (by rfl) (fun _ _ _ h => h) hS ?_ ?_
    · rintro W' ⟨s0, s1, s2, s3⟩; go_simp
    try simp only [Act.put, putA, putZ, putS]
    refine wpAnyH_ready (rs := [9]) (by kernel_rfl) (by simp) ?_
    refine AllReadyH.cons (o := ⟨some 5, _, _, _, _, _⟩) rfl (fun K hK => ?_) AllReadyH.nil
    go_simp
    have HM0 : Hid (Below ((w.alloc (.cells #[.int .i64 c, .int .i64 g] 39)).alloc (.cells #[.int .i64 0, .int .i64 0] 29)).heap.size ((w.alloc (.cells #[.int .i64 c, .int .i64 g] 39)).alloc (.cells #[.int .i64 0, .int .i64 0] 29)) (X.alloc (.cells #[.int .i64 0, .int .i64 0] 29))) := below_step HM.out (below_alloc _ _)
    have HN0 : Hid ((X.alloc (.cells #[.int .i64 0, .int .i64 0] 29)).heap[X.heap.size]? = some (.cells #[.int .i64 0, .int .i64 0] 29 (0, 0))) := heap_alloc_new _ _
    have HG0 : Hid (((w.alloc (.cells #[.int .i64 c, .int .i64 g] 39)).alloc (.cells #[.int .i64 0, .int .i64 0] 29)).heap.size ≤ X.heap.size) := HM.out.size
    refine hK.out _ _ (HCE.out _ HM0.out) (fun hS => ?_)
    clear hK K
    try simp only [Act.put, putA, putZ, putS]
    generalize X.heap.size = BN at *
    generalize X.alloc (.cells #[.int .i64 0, .int .i64 0] 29) = X0 at *
    refine wpAnyH_ready (rs := [10]) (by kernel_rfl) (by simp) ?_
    refine AllReadyH.cons (o := ⟨none, _, _, _, _, _⟩) rfl (fun K hK => ?_) AllReadyH.nil
    have eb := HN0.out
    have e0 := cell_of_row _ _ 0 _ _ _ eb
    have e1 := cell_of_row _ _ 1 _ _ _ eb
    have f0 := frozen_of_row _ _ 0 _ _ eb
    have f1 := frozen_of_row _ _ 1 _ _ eb
    have HM1 : Hid (Below ((w.alloc (.cells #[.int .i64 c, .int .i64 g] 39)).alloc (.cells #[.int .i64 0, .int .i64 0] 29)).heap.size ((w.alloc (.cells #[.int .i64 c, .int .i64 g] 39)).alloc (.cells #[.int .i64 0, .int .i64 0] 29)) ((X0.setCell ⟨BN, 0, none⟩ (.int .i64 p)).setCell ⟨BN, 1, none⟩ (.int .i64 q))) := (HM0.out.setCell HG0.out _).setCell HG0.out _
    have HN1 : Hid (((X0.setCell ⟨BN, 0, none⟩ (.int .i64 p)).setCell ⟨BN, 1, none⟩ (.int .i64 q)).heap[BN]? = some (.cells #[.int .i64 p, .int .i64 q] 29 (0, 0))) := by unfold Hid; simp [World.setCell, Array.getElem?_modify, eb]
    clear eb
    go_simp
    refine hK.out _ _ (HCE.out _ HM1.out) (fun hS => ?_)
    clear hK K
    (try simp only [Act.put])
    clear e0 e1 f0 f1
    refine tH 11 (oi := ⟨_, _, _, _, _, _⟩) (v := .bool h) rfl (by kernel_rfl) (by rfl) (fun _ _ _ h => h) hS ?_ ?_
    · rintro W' ⟨s0, s1, s2, s3⟩; go_simp
    try simp only [Act.put, putA, putZ, putS]
    refine wpAnyH_done (by kernel_rfl) ?_ _
    go_wp2_with fail
    go_meet
    exact ⟨BN, rfl, rfl, HN1.out, HM1.out, HG0.out⟩
  case rest =>
    obtain ⟨BN, rfl, rfl, hbn, hbx, hle⟩ := hcut
    have HBN := Lib.hid hbn
    have HBX := Lib.hid hbx
    have HOX : Hid (wc.heap[w.heap.size + 1]? = some (.cells #[.int .i64 0, .int .i64 0] 29 (0, 0))) := (hbx.block _ (by simp)).trans HO0.out
    have HSX : Hid (St wc B bm n x t out) := HSW.out.below (below_step HB0.out hbx)
    have HFX : Hid (Fr (fun q => q = bm) w wc) := Fr.below (below_step HB0.out hbx) _
    have hle2 : w.heap.size + 2 ≤ BN := by simpa using hle
    clear hbn hbx hle
    cases h
    · clear HPQ HLK
      have HKW : Hid (wc.heap[w.heap.size]? = some (.cells #[.int .i64 c, .int .i64 g] 39 (0, 0))) := (HBX.out.block w.heap.size (by simp; omega)).trans ((Below.heap_alloc (w.alloc (.cells #[.int .i64 c, .int .i64 g] 39)) (.cells #[.int .i64 0, .int .i64 0] 29) _ (by simp)).trans (heap_alloc_new w (.cells #[.int .i64 c, .int .i64 g] 39)))
      have hsw : w.heap.size + 2 ≤ wc.heap.size := by have := HBX.out.size; simpa using this
      have b0 : wc.cell? ⟨w.heap.size, 0, none⟩ = some (.int .i64 c) := cell_of_row _ _ 0 _ _ _ HKW.out
      have b1 : wc.cell? ⟨w.heap.size, 1, none⟩ = some (.int .i64 g) := cell_of_row _ _ 1 _ _ _ HKW.out
      have a0 : (wc.alloc (.cells #[.int .i64 0, .int .i64 500] 29)).cell? ⟨w.heap.size, 0, none⟩ = some (.int .i64 c) := cell_of_row _ _ 0 _ _ _ (((below_alloc wc (.cells #[.int .i64 0, .int .i64 500] 29)).block _ (by omega)).trans HKW.out)
      have a1 : (wc.alloc (.cells #[.int .i64 0, .int .i64 500] 29)).cell? ⟨w.heap.size, 1, none⟩ = some (.int .i64 g) := cell_of_row _ _ 1 _ _ _ (((below_alloc wc (.cells #[.int .i64 0, .int .i64 500] 29)).block _ (by omega)).trans HKW.out)
      have hBF : ¬ wc.heap.size = bm := by omega
      by_cases c0 : 0 < c
      ·
        have HS1 : Hid (St (wc.alloc (.cells #[.int .i64 0, .int .i64 500] 29)) B bm n x t out) := HSX.out.below (below_alloc _ _)
        have HF1 : Hid (Fr (fun q => q = bm) w (wc.alloc (.cells #[.int .i64 0, .int .i64 500] 29))) := HFX.out.trans (Fr.below (below_alloc wc (.cells #[.int .i64 0, .int .i64 500] 29)) _)
        have HB1 : Hid ((wc.alloc (.cells #[.int .i64 0, .int .i64 500] 29)).heap[wc.heap.size]? = some (.cells #[.int .i64 0, .int .i64 500] 29 (0, 0))) := heap_alloc_new _ _
        have HK1 : Hid ((wc.alloc (.cells #[.int .i64 0, .int .i64 500] 29)).heap[w.heap.size]? = some (.cells #[.int .i64 c, .int .i64 g] 39 (0, 0))) := ((below_alloc wc (.cells #[.int .i64 0, .int .i64 500] 29)).block _ (by omega)).trans HKW.out
        have HO1 : Hid ((wc.alloc (.cells #[.int .i64 0, .int .i64 500] 29)).heap[w.heap.size + 1]? = some (.cells #[.int .i64 0, .int .i64 0] 29 (0, 0))) := ((below_alloc wc (.cells #[.int .i64 0, .int .i64 500] 29)).block _ (by omega)).trans HOX.out
        have HA1 := Lib.hid (HAR.out _ HS1.out c0)
        have HME0 : Hid (t.memo out (c : Int) (g : Int) = t.before out c g) := by unfold Hid Tb.memo; rw [Int.toNat_natCast, Int.toNat_natCast]
        obtain ⟨rr, HRR⟩ : ∃ rr, Hid (t.before out c g = rr) := ⟨_, rfl⟩
        rw [HRR.out] at HME0
        unfold GivesR at HA1
        rw [HRR.out] at HA1
        obtain ⟨a, b⟩ := rr
        have HPR : Hid (t.before out c g = (a, b)) := HRR.out
        have HME : Hid (t.memo out (c : Int) (g : Int) = (a, b)) := HME0.out
        go_wp2_with fail
        refine HA1.out.mono ?_
        rintro _ Y ⟨rfl, hs, hf⟩
        have HB2 : Hid (Y.heap[wc.heap.size]? = some (.cells #[.int .i64 0, .int .i64 500] 29 (0, 0))) := (hf.block _ (Array.getElem?_eq_some_iff.1 HB1.out).1 hBF).trans HB1.out
        have HK2 : Hid (Y.heap[w.heap.size]? = some (.cells #[.int .i64 c, .int .i64 g] 39 (0, 0))) := (hf.block _ (Array.getElem?_eq_some_iff.1 HK1.out).1 (show ¬ w.heap.size = bm by omega)).trans HK1.out
        have HO2 : Hid (Y.heap[w.heap.size + 1]? = some (.cells #[.int .i64 0, .int .i64 0] 29 (0, 0))) := (hf.block _ (Array.getElem?_eq_some_iff.1 HO1.out).1 (show ¬ w.heap.size + 1 = bm by omega)).trans HO1.out
        have HF2 : Hid (Fr (fun q => q = bm) w Y) := HF1.out.trans hf
        obtain ⟨hs1, hf1⟩ := St.setN HSW.out hs HF2.out (b := wc.heap.size) (by omega) 0 (.int .i64 a)
        obtain ⟨hs2, hf2⟩ := St.setN HSW.out hs1 hf1 (b := wc.heap.size) (by omega) 1 (.int .i64 b)
        have eb := HB2.out
        have HBY : Hid ((World.drew ((Y.setCell ⟨wc.heap.size, 0, none⟩ (.int .i64 a)).setCell ⟨wc.heap.size, 1, none⟩ (.int .i64 b))).heap[wc.heap.size]? = some (.cells #[.int .i64 a, .int .i64 b] 29 (0, 0))) := by
          have h : ((Y.setCell ⟨wc.heap.size, 0, none⟩ (.int .i64 a)).setCell ⟨wc.heap.size, 1, none⟩ (.int .i64 b)).heap[wc.heap.size]? = some (.cells #[.int .i64 a, .int .i64 b] 29 (0, 0)) := by simp [World.setCell, Array.getElem?_modify, eb]
          exact h
        have HSY : Hid (St (World.drew ((Y.setCell ⟨wc.heap.size, 0, none⟩ (.int .i64 a)).setCell ⟨wc.heap.size, 1, none⟩ (.int .i64 b))) B bm (n' - 1) x t out) := hs2.below ((Below.refl _ _).drew)
        have HFY : Hid (Fr (fun q => q = bm) w (World.drew ((Y.setCell ⟨wc.heap.size, 0, none⟩ (.int .i64 a)).setCell ⟨wc.heap.size, 1, none⟩ (.int .i64 b)))) := hf2.trans (Fr.below ((Below.refl _ _).drew) _)
        have HKY : Hid ((World.drew ((Y.setCell ⟨wc.heap.size, 0, none⟩ (.int .i64 a)).setCell ⟨wc.heap.size, 1, none⟩ (.int .i64 b))).heap[w.heap.size]? = some (.cells #[.int .i64 c, .int .i64 g] 39 (0, 0))) := (((Fr.set Y wc.heap.size 0 (.int .i64 a)).trans (Fr.set (Y.setCell ⟨wc.heap.size, 0, none⟩ (.int .i64 a)) wc.heap.size 1 (.int .i64 b))).block _ (Array.getElem?_eq_some_iff.1 HK2.out).1 (show ¬ w.heap.size = wc.heap.size by omega)).trans HK2.out
        have HOY : Hid ((World.drew ((Y.setCell ⟨wc.heap.size, 0, none⟩ (.int .i64 a)).setCell ⟨wc.heap.size, 1, none⟩ (.int .i64 b))).heap[w.heap.size + 1]? = some (.cells #[.int .i64 0, .int .i64 0] 29 (0, 0))) := (((Fr.set Y wc.heap.size 0 (.int .i64 a)).trans (Fr.set (Y.setCell ⟨wc.heap.size, 0, none⟩ (.int .i64 a)) wc.heap.size 1 (.int .i64 b))).block _ (Array.getElem?_eq_some_iff.1 HO2.out).1 (show ¬ w.heap.size + 1 = wc.heap.size by omega)).trans HO2.out
        have e0 : Y.cell? ⟨wc.heap.size, 0, none⟩ = some (.int .i64 0) := cell_of_row _ _ 0 _ _ _ eb
        have e1 : Y.cell? ⟨wc.heap.size, 1, none⟩ = some (.int .i64 500) := cell_of_row _ _ 1 _ _ _ eb
        have f0 := frozen_of_row _ _ 0 _ _ eb
        have f1 := frozen_of_row _ _ 1 _ _ eb
        clear hs hf hs1 hf1 hs2 hf2 eb a0 a1 b0 b1
        go_upto_region 7 with fail
        refine wp_region_held_drew (S := fun X => X.cell? ⟨w.heap.size, 0, none⟩ = some (.int .i64 c) ∧ X.cell? ⟨w.heap.size, 1, none⟩ = some (.int .i64 g) ∧ X.cell? ⟨B, 20, none⟩ = some (.map (some bm)) ∧ X.cell? ⟨wc.heap.size, 0, none⟩ = some (.int .i64 a) ∧ X.cell? ⟨wc.heap.size, 1, none⟩ = some (.int .i64 b)) (by kernel_rfl) ⟨cell_of_row _ _ 0 _ _ _ HKY.out, cell_of_row _ _ 1 _ _ _ HKY.out, HSY.out.wb.cells.2.2.2.2.1, cell_of_row _ _ 0 _ _ _ HBY.out, cell_of_row _ _ 1 _ _ _ HBY.out⟩ (fun hS => ?_)
        clear e0 e1 f0 f1
        generalize World.drew ((Y.setCell ⟨wc.heap.size, 0, none⟩ (.int .i64 a)).setCell ⟨wc.heap.size, 1, none⟩ (.int .i64 b)) = X at *
        refine tH 0 (oi := ⟨_, _, _, _, _, _⟩) (v := .pointer (some ⟨B, 0, none⟩)) rfl (by kernel_rfl) (by rfl) (fun _ _ _ h => h) hS ?_ ?_
        · rintro W' ⟨s0, s1, s2, s3, s4⟩; go_simp
        try simp only [Act.put, putA, putZ, putS]
        refine tH 1 (oi := ⟨_, _, _, _, _, _⟩) (v := .pointer (some ⟨B, 0, none⟩)) rfl (by kernel_rfl) (by rfl) (fun _ _ _ h => h) hS ?_ ?_
        · rintro W' ⟨s0, s1, s2, s3, s4⟩; go_simp
        try simp only [Act.put, putA, putZ, putS]
        refine tH 2 (oi := ⟨_, _, _, _, _, _⟩) (v := .pointer (some ⟨B, 20, none⟩)) rfl (by kernel_rfl) (by rfl) (fun _ _ _ h => h) hS ?_ ?_
        · rintro W' ⟨s0, s1, s2, s3, s4⟩; go_simp
        try simp only [Act.put, putA, putZ, putS]
        refine tH 3 (oi := ⟨_, _, _, _, _, _⟩) (v := .map (some bm)) rfl (by kernel_rfl) (by rfl) (fun _ _ _ h => h) hS ?_ ?_
        · rintro W' ⟨s0, s1, s2, s3, s4⟩; go_simp
        try simp only [Act.put, putA, putZ, putS]
        refine tH 4 (oi := ⟨_, _, _, _, _, _⟩) (v := .agg #[.int .i64 c, .int .i64 g]) rfl (by kernel_rfl) (by rfl) (fun _ _ _ h => h) hS ?_ ?_
        · rintro W' ⟨s0, s1, s2, s3, s4⟩; go_simp
        try simp only [Act.put, putA, putZ, putS]
        refine tH 5 (oi := ⟨_, _, _, _, _, _⟩) (v := .agg #[.int .i64 a, .int .i64 b]) rfl (by kernel_rfl) (by rfl) (fun _ _ _ h => h) hS ?_ ?_
        · rintro W' ⟨s0, s1, s2, s3, s4⟩; go_simp
        try simp only [Act.put, putA, putZ, putS]
        refine wpAnyH_ready (rs := [6]) (by kernel_rfl) (by simp) ?_
        refine AllReadyH.cons (o := ⟨none, _, _, _, _, _⟩) rfl (fun K hK => ?_) AllReadyH.nil
        refine step_update_cm (by rfl) (.tmp 29) (.tmp 30) (.tmp 31) (by rfl) c g (by omega) (by omega) (t.memo out) bm (n' - 1) (by unfold maxLen; omega) (by rfl) HSY.out.cm (by rfl) (by rw [HME.out]; rfl) ?_
        intro Z hcm hgr
        have hfz : Fr (fun q => q = bm) X Z := (Fr.grown hgr).mono (fun k _ e => (Option.some.inj e).symm)
        have HSZ : Hid (St Z B bm n' x t out) := ⟨(hfz.block _ (Array.getElem?_eq_some_iff.1 HSY.out.wb).1 (show ¬ B = bm from HSY.out.ne)).trans HSY.out.wb, HSY.out.wl.fr hfz HSY.out.cm.mp, hcm.mono (by omega)⟩
        have HFZ : Hid (Fr (fun q => q = bm) w Z) := HFY.out.trans hfz
        have HOZ : Hid (Z.heap[w.heap.size + 1]? = some (.cells #[.int .i64 0, .int .i64 0] 29 (0, 0))) := (hfz.block _ (Array.getElem?_eq_some_iff.1 HOY.out).1 (show ¬ w.heap.size + 1 = bm by omega)).trans HOY.out
        have HKZ : Hid (Z.heap[w.heap.size]? = some (.cells #[.int .i64 c, .int .i64 g] 39 (0, 0))) := (hfz.block _ (Array.getElem?_eq_some_iff.1 HKY.out).1 (show ¬ w.heap.size = bm by omega)).trans HKY.out
        have HBZ : Hid (Z.heap[wc.heap.size]? = some (.cells #[.int .i64 a, .int .i64 b] 29 (0, 0))) := (hfz.block _ (Array.getElem?_eq_some_iff.1 HBY.out).1 (show ¬ wc.heap.size = bm by omega)).trans HBY.out
        refine hK.out _ _ (⟨cell_of_row _ _ 0 _ _ _ HKZ.out, cell_of_row _ _ 1 _ _ _ HKZ.out, HSZ.out.wb.cells.2.2.2.2.1, cell_of_row _ _ 0 _ _ _ HBZ.out, cell_of_row _ _ 1 _ _ _ HBZ.out⟩) (fun hS => ?_)
        clear hK K
        (try simp only [Act.put])
        clear hcm hgr hfz
        refine wpAnyH_done (by kernel_rfl) ?_ _
        have b0 := cell_of_row _ _ 0 _ _ _ HBZ.out
        have b1 := cell_of_row _ _ 1 _ _ _ HBZ.out
        have e0 := cell_of_row _ _ 0 _ _ _ HOZ.out
        have e1 := cell_of_row _ _ 1 _ _ _ HOZ.out
        have f0 := frozen_of_row _ _ 0 _ _ HOZ.out
        have f1 := frozen_of_row _ _ 1 _ _ HOZ.out
        have eb := HOZ.out
        have HN : Hid (((Z.setCell ⟨w.heap.size + 1, 0, none⟩ (.int .i64 a)).setCell ⟨w.heap.size + 1, 1, none⟩ (.int .i64 b)).heap[w.heap.size + 1]? = some (.cells #[.int .i64 a, .int .i64 b] 29 (0, 0))) := by unfold Hid; simp [World.setCell, Array.getElem?_modify, eb]
        obtain ⟨hs1, hf1⟩ := St.setN HSW.out HSZ.out HFZ.out (b := w.heap.size + 1) (by omega) 0 (.int .i64 a)
        obtain ⟨hs2, hf2⟩ := St.setN HSW.out hs1 hf1 (b := w.heap.size + 1) (by omega) 1 (.int .i64 b)
        have HE := Lib.hid hs2; have HF := Lib.hid hf2
        clear hs1 hf1 hs2 hf2 eb
        go_wp2
        have c0 := cell_of_row _ _ 0 _ _ _ HN.out
        have c1 := cell_of_row _ _ 1 _ _ _ HN.out
        refine bodyPost_ret (v := .agg #[.int .i64 a, .int .i64 b]) (by simp [results, Try.results99, go_sem, c0, c1]) rfl ⟨by rw [HPR.out], HE.out, HF.out⟩
      · have HPR : Hid (t.before out c g = (0, 500)) := by unfold Hid; rw [show c = 0 from by omega]; rfl
        have HME : Hid (t.memo out (c : Int) (g : Int) = (0, 500)) := by unfold Hid Tb.memo; rw [Int.toNat_natCast, show c = 0 from by omega]; rfl
        have hY : Below wc.heap.size wc (World.drew (wc.alloc (.cells #[.int .i64 0, .int .i64 500] 29))) := (below_alloc _ _).drew
        have HSY : Hid (St (World.drew (wc.alloc (.cells #[.int .i64 0, .int .i64 500] 29))) B bm (n' - 1) x t out) := (HSX.out.below hY).mono (by omega)
        have HFY : Hid (Fr (fun q => q = bm) w (World.drew (wc.alloc (.cells #[.int .i64 0, .int .i64 500] 29)))) := HFX.out.trans (Fr.below hY _)
        have HOY : Hid ((World.drew (wc.alloc (.cells #[.int .i64 0, .int .i64 500] 29))).heap[w.heap.size + 1]? = some (.cells #[.int .i64 0, .int .i64 0] 29 (0, 0))) := (hY.block _ (by omega)).trans HOX.out
        have HKY : Hid ((World.drew (wc.alloc (.cells #[.int .i64 0, .int .i64 500] 29))).heap[w.heap.size]? = some (.cells #[.int .i64 c, .int .i64 g] 39 (0, 0))) := (hY.block _ (by omega)).trans HKW.out
        have HBY : Hid ((World.drew (wc.alloc (.cells #[.int .i64 0, .int .i64 500] 29))).heap[wc.heap.size]? = some (.cells #[.int .i64 0, .int .i64 500] 29 (0, 0))) := heap_alloc_new wc (.cells #[.int .i64 0, .int .i64 500] 29)
        go_upto_region 7 with fail
        refine wp_region_held_drew (S := fun X => X.cell? ⟨w.heap.size, 0, none⟩ = some (.int .i64 c) ∧ X.cell? ⟨w.heap.size, 1, none⟩ = some (.int .i64 g) ∧ X.cell? ⟨B, 20, none⟩ = some (.map (some bm)) ∧ X.cell? ⟨wc.heap.size, 0, none⟩ = some (.int .i64 0) ∧ X.cell? ⟨wc.heap.size, 1, none⟩ = some (.int .i64 500)) (by kernel_rfl) ⟨cell_of_row _ _ 0 _ _ _ HKY.out, cell_of_row _ _ 1 _ _ _ HKY.out, HSY.out.wb.cells.2.2.2.2.1, cell_of_row _ _ 0 _ _ _ HBY.out, cell_of_row _ _ 1 _ _ _ HBY.out⟩ (fun hS => ?_)
        generalize World.drew (wc.alloc (.cells #[.int .i64 0, .int .i64 500] 29)) = X at *
        refine tH 0 (oi := ⟨_, _, _, _, _, _⟩) (v := .pointer (some ⟨B, 0, none⟩)) rfl (by kernel_rfl) (by rfl) (fun _ _ _ h => h) hS ?_ ?_
        · rintro W' ⟨s0, s1, s2, s3, s4⟩; go_simp
        try simp only [Act.put, putA, putZ, putS]
        refine tH 1 (oi := ⟨_, _, _, _, _, _⟩) (v := .pointer (some ⟨B, 0, none⟩)) rfl (by kernel_rfl) (by rfl) (fun _ _ _ h => h) hS ?_ ?_
        · rintro W' ⟨s0, s1, s2, s3, s4⟩; go_simp
        try simp only [Act.put, putA, putZ, putS]
        refine tH 2 (oi := ⟨_, _, _, _, _, _⟩) (v := .pointer (some ⟨B, 20, none⟩)) rfl (by kernel_rfl) (by rfl) (fun _ _ _ h => h) hS ?_ ?_
        · rintro W' ⟨s0, s1, s2, s3, s4⟩; go_simp
        try simp only [Act.put, putA, putZ, putS]
        refine tH 3 (oi := ⟨_, _, _, _, _, _⟩) (v := .map (some bm)) rfl (by kernel_rfl) (by rfl) (fun _ _ _ h => h) hS ?_ ?_
        · rintro W' ⟨s0, s1, s2, s3, s4⟩; go_simp
        try simp only [Act.put, putA, putZ, putS]
        refine tH 4 (oi := ⟨_, _, _, _, _, _⟩) (v := .agg #[.int .i64 c, .int .i64 g]) rfl (by kernel_rfl) (by rfl) (fun _ _ _ h => h) hS ?_ ?_
        · rintro W' ⟨s0, s1, s2, s3, s4⟩; go_simp
        try simp only [Act.put, putA, putZ, putS]
        refine tH 5 (oi := ⟨_, _, _, _, _, _⟩) (v := .agg #[.int .i64 0, .int .i64 500]) rfl (by kernel_rfl) (by rfl) (fun _ _ _ h => h) hS ?_ ?_
        · rintro W' ⟨s0, s1, s2, s3, s4⟩; go_simp
        try simp only [Act.put, putA, putZ, putS]
        refine wpAnyH_ready (rs := [6]) (by kernel_rfl) (by simp) ?_
        refine AllReadyH.cons (o := ⟨none, _, _, _, _, _⟩) rfl (fun K hK => ?_) AllReadyH.nil
        refine step_update_cm (by rfl) (.tmp 29) (.tmp 30) (.tmp 31) (by rfl) c g (by omega) (by omega) (t.memo out) bm (n' - 1) (by unfold maxLen; omega) (by rfl) HSY.out.cm (by rfl) (by rw [HME.out]; rfl) ?_
        intro Z hcm hgr
        have hfz : Fr (fun q => q = bm) X Z := (Fr.grown hgr).mono (fun k _ e => (Option.some.inj e).symm)
        have HSZ : Hid (St Z B bm n' x t out) := ⟨(hfz.block _ (Array.getElem?_eq_some_iff.1 HSY.out.wb).1 (show ¬ B = bm from HSY.out.ne)).trans HSY.out.wb, HSY.out.wl.fr hfz HSY.out.cm.mp, hcm.mono (by omega)⟩
        have HFZ : Hid (Fr (fun q => q = bm) w Z) := HFY.out.trans hfz
        have HOZ : Hid (Z.heap[w.heap.size + 1]? = some (.cells #[.int .i64 0, .int .i64 0] 29 (0, 0))) := (hfz.block _ (Array.getElem?_eq_some_iff.1 HOY.out).1 (show ¬ w.heap.size + 1 = bm by omega)).trans HOY.out
        have HKZ : Hid (Z.heap[w.heap.size]? = some (.cells #[.int .i64 c, .int .i64 g] 39 (0, 0))) := (hfz.block _ (Array.getElem?_eq_some_iff.1 HKY.out).1 (show ¬ w.heap.size = bm by omega)).trans HKY.out
        have HBZ : Hid (Z.heap[wc.heap.size]? = some (.cells #[.int .i64 0, .int .i64 500] 29 (0, 0))) := (hfz.block _ (Array.getElem?_eq_some_iff.1 HBY.out).1 (show ¬ wc.heap.size = bm by omega)).trans HBY.out
        refine hK.out _ _ (⟨cell_of_row _ _ 0 _ _ _ HKZ.out, cell_of_row _ _ 1 _ _ _ HKZ.out, HSZ.out.wb.cells.2.2.2.2.1, cell_of_row _ _ 0 _ _ _ HBZ.out, cell_of_row _ _ 1 _ _ _ HBZ.out⟩) (fun hS => ?_)
        clear hK K
        (try simp only [Act.put])
        clear hcm hgr hfz
        refine wpAnyH_done (by kernel_rfl) ?_ _
        have b0 := cell_of_row _ _ 0 _ _ _ HBZ.out
        have b1 := cell_of_row _ _ 1 _ _ _ HBZ.out
        have e0 := cell_of_row _ _ 0 _ _ _ HOZ.out
        have e1 := cell_of_row _ _ 1 _ _ _ HOZ.out
        have f0 := frozen_of_row _ _ 0 _ _ HOZ.out
        have f1 := frozen_of_row _ _ 1 _ _ HOZ.out
        have eb := HOZ.out
        have HN : Hid (((Z.setCell ⟨w.heap.size + 1, 0, none⟩ (.int .i64 0)).setCell ⟨w.heap.size + 1, 1, none⟩ (.int .i64 500)).heap[w.heap.size + 1]? = some (.cells #[.int .i64 0, .int .i64 500] 29 (0, 0))) := by unfold Hid; simp [World.setCell, Array.getElem?_modify, eb]
        obtain ⟨hs1, hf1⟩ := St.setN HSW.out HSZ.out HFZ.out (b := w.heap.size + 1) (by omega) 0 (.int .i64 0)
        obtain ⟨hs2, hf2⟩ := St.setN HSW.out hs1 hf1 (b := w.heap.size + 1) (by omega) 1 (.int .i64 500)
        have HE := Lib.hid hs2; have HF := Lib.hid hf2
        clear hs1 hf1 hs2 hf2 eb
        go_wp2
        have c0 := cell_of_row _ _ 0 _ _ _ HN.out
        have c1 := cell_of_row _ _ 1 _ _ _ HN.out
        refine bodyPost_ret (v := .agg #[.int .i64 0, .int .i64 500]) (by simp [results, Try.results99, go_sem, c0, c1]) rfl ⟨by rw [HPR.out], HE.out, HF.out⟩
    · obtain ⟨hp, hq⟩ := HPQ.out
      simp only [if_true] at hp hq
      have HPR : Hid (t.before out c g = (p, q)) := by unfold Hid; rw [hp, hq]
      clear hp hq
      have b0 := cell_of_row _ _ 0 _ _ _ HBN.out
      have b1 := cell_of_row _ _ 1 _ _ _ HBN.out
      have e0 := cell_of_row _ _ 0 _ _ _ HOX.out
      have e1 := cell_of_row _ _ 1 _ _ _ HOX.out
      have f0 := frozen_of_row _ _ 0 _ _ HOX.out
      have f1 := frozen_of_row _ _ 1 _ _ HOX.out
      have eb := HOX.out
      have HN : Hid (((wc.setCell ⟨w.heap.size + 1, 0, none⟩ (.int .i64 p)).setCell ⟨w.heap.size + 1, 1, none⟩ (.int .i64 q)).heap[w.heap.size + 1]? = some (.cells #[.int .i64 p, .int .i64 q] 29 (0, 0))) := by unfold Hid; simp [World.setCell, Array.getElem?_modify, eb]
      obtain ⟨hs1, hf1⟩ := St.setN HSW.out HSX.out HFX.out (b := w.heap.size + 1) (by omega) 0 (.int .i64 p)
      obtain ⟨hs2, hf2⟩ := St.setN HSW.out hs1 hf1 (b := w.heap.size + 1) (by omega) 1 (.int .i64 q)
      have HE := Lib.hid (hs2.mono (show n ≤ n' by omega)); have HF := Lib.hid hf2
      clear hs1 hf1 hs2 hf2 eb
      go_wp2
      have c0 := cell_of_row _ _ 0 _ _ _ HN.out
      have c1 := cell_of_row _ _ 1 _ _ _ HN.out
      refine bodyPost_ret (v := .agg #[.int .i64 p, .int .i64 q]) (by simp [results, Try.results99, go_sem, c0, c1]) rfl ⟨by rw [HPR.out], HE.out, HF.out⟩
end Go.Proofs.Ytjaoflfophcibaa

namespace Go.Proofs.Ytjaoflfophcibaa

theorem arr_bd (t : Tb) (c g : Nat) (up : Nat → R2) : 0 ≤ (t.arr c g up).1 ∧ (t.arr c g up).2 ≤ 1048576 := by
  unfold Tb.arr
  simp only
  split
  · simp
  · generalize plusR _ (t.n g) = s
    simp only [meetR]
    omega
theorem before_bd (t : Tb) (out : Nat → Nat → Bool) (c g : Nat) : 0 ≤ (t.before out c g).1 ∧ (t.before out c g).2 ≤ 1048576 := by
  cases c with
  | zero => simp [Tb.before]
  | succ c => exact arr_bd t c g _
theorem up_bd (t : Tb) (out : Nat → Nat → Bool) (c g : Nat) : 0 ≤ (t.up out c g).1 ∧ (t.up out c g).2 ≤ 1048576 := by
  have h := before_bd t out c g
  unfold Tb.up meetR
  simp only
  omega
/-- Sizes that are not empty. -/
theorem up_full {t : Tb} {out : Nat → Nat → Bool} {c g : Nat} (h : emptyR (t.up out c g) = false) : 0 ≤ (t.up out c g).1 ∧ (t.up out c g).1 ≤ 1000000000 ∧ 0 ≤ (t.up out c g).2 ∧ (t.up out c g).2 ≤ 1000000000 := by
  have := up_bd t out c g
  unfold emptyR at h
  simp at h
  omega
theorem inside_bd {r : R2} {lo hi : Int} (h : insideR r lo hi = true) : lo ≤ r.1 ∧ r.1 ≤ r.2 ∧ r.2 ≤ hi := by
  simp [insideR] at h; omega
/-- What is known of a valid table. -/
theorem fault_facts {t : Tb} (h : t.fault = 0) : t.nc ≤ 4 ∧ t.ng ≤ 4 ∧ 2 ≤ t.ng ∧ 1 ≤ t.nc ∧ t.nb + 1 = t.nc ∧ t.nr = t.ng + 1 ∧ t.nn = t.ng ∧ (∀ c, c < t.nc → t.rl c = t.ng ∧ ∀ g, g < t.ng → isCountR (t.ct c g) = true) ∧ (∀ j, j < t.nb → isCountR (t.b j) = true) ∧ (∀ j, j < t.nr → isRateR (t.r j) = true) ∧ (∀ j, j < t.nn → isNetR (t.n j) = true) := by
  unfold Tb.fault at h
  split at h
  · omega
  · rename_i hl
    split at h
    · rename_i ho
      simp only [Tb.okAll, Bool.and_eq_true, decide_eq_true_eq, allB, List.all_eq_true, List.mem_range, Tb.rowOk, beq_iff_eq] at ho
      obtain ⟨⟨⟨⟨⟨⟨⟨h1, h2⟩, h3⟩, h4⟩, h5⟩, h6⟩, h7⟩, h8⟩ := ho
      have hnc : 1 ≤ t.nc := by
        rcases Nat.eq_zero_or_pos t.nc with h0 | h0
        · have : t.ng = 0 := by unfold Tb.ng; rw [if_pos h0]
          omega
        · exact h0
      refine ⟨by omega, by omega, h1, hnc, by omega, h4, h5, fun c hc => ?_, h6, h7, h8⟩
      obtain ⟨ha, hb⟩ := h2 c hc
      exact ⟨ha, fun g hg => hb g (by omega)⟩
    · omega
end Go.Proofs.Ytjaoflfophcibaa

namespace Go.Proofs.Ytjaoflfophcibaa
open Go.RowKit Go.Shelf

set_option maxRecDepth 100000 in
set_option maxHeartbeats 4000000 in
theorem agree_of (B bm M n : Nat) (x : WV) (t : Tb) (out : Nat → Nat → Bool) (hs : t.small) (hn : n + t.ng * M ≤ 90000)
    (hup : ∀ (m : Nat) (W : World) (g : Nat), g < t.ng → m + M ≤ 90000 → St W B bm m x t out → Calls Try.prog 61 #[.pointer (some ⟨B, 0, none⟩), .agg #[.int .i64 ((t.nc : Int) - 1), .int .i64 g]] W (GivesR W B bm (m + M) x t out (t.up out (t.nc - 1) g))) (w : World) (hst : St w B bm n x t out) :
    Calls Try.prog 59 #[.pointer (some ⟨B, 0, none⟩)] w fun e w' => e = .returned (.bool (t.agree out)) ∧ St w' B bm (n + t.ng * M) x t out ∧ Fr (fun q => q = bm) w w' := by
  have HG := Lib.hid (groups_any _ t w hst.wl.tb hs)
  have HUP := Lib.hid hup
  have hg := hs.ng
  have hnc := hs.1
  have HST := Lib.hid hst
  have HAG : Hid (t.agree out = allB (fun g => !emptyR (t.up out (t.nc - 1) g)) t.ng) := rfl
  have HCE : Hid (∀ (X : World) (m : Nat), St X B bm m x t out → X.cell? ⟨B, 0, none⟩ = some (x.cv t) ∧ X.cell? ⟨B, 1, none⟩ = some (x.bv t) ∧ X.cell? ⟨B, 2, none⟩ = some (x.rv t) ∧ X.cell? ⟨B, 3, none⟩ = some (x.nv t)) := fun X m h => by
    obtain ⟨k0, k1, k2, k3, _, _⟩ := h.wb.cells
    exact ⟨k0, k1, k2, k3⟩
  obtain ⟨k0, k1, k2, k3⟩ := HCE.out w n hst
  clear hup hst hs
  generalize t.agree out = ag at *
  unfold WV.cv WV.bv WV.rv WV.nv at *
  unfold GivesR at HUP
  go_enter Try.func59, Try.ntmps59
  go_wp2_with (go_at_call 57; refine HG.out.mono ?_; rintro _ w1 ⟨rfl, hb1⟩; have HS1 := Lib.hid (HST.out.below hb1); have HF1 : Hid (Fr (fun q => q = bm) w w1) := Fr.below hb1 _)
  go_loopw [9] (fun i wr => ∃ k : Nat, k ≤ t.ng ∧ i = .int .i64 k ∧ St wr B bm (n + k * M) x t out ∧ Fr (fun q => q = bm) w wr ∧ ∀ q, q < k → (!emptyR (t.up out (t.nc - 1) q)) = true) (fun i _ => t.ng - (intOf i).toNat)
  case atStart => exact ⟨0, Nat.zero_le _, rfl, by rw [Nat.zero_mul]; exact HS1.out, HF1.out, fun q h => absurd h (Nat.not_lt_zero _)⟩
  case round =>
    obtain ⟨k, hk, rfl, hsr, hfr, hall⟩ := hrel
    have HSR := Lib.hid hsr; have HFR := Lib.hid hfr; have HAL := Lib.hid hall
    clear hsr hfr hall
    by_cases hlt : k < t.ng
    · obtain ⟨d0, d1, d2, d3⟩ := HCE.out wr _ HSR.out
      have hkm : n + k * M + M ≤ 90000 := by
        have : (k + 1) * M ≤ t.ng * M := Nat.mul_le_mul_right _ hlt
        rw [Nat.succ_mul] at this; omega
      have HU := Lib.hid (HUP.out _ wr k hlt hkm HSR.out)
      obtain ⟨r, HR⟩ : ∃ r, Hid (t.up out (t.nc - 1) k = r) := ⟨_, rfl⟩
      rw [HR.out] at HU
      obtain ⟨a, b⟩ := r
      have he : n + (k + 1) * M = n + k * M + M := by rw [Nat.succ_mul]; omega
      have HE := Lib.hid he
      clear he hkm
      cases hem : emptyR (a, b)
      · go_wp2_with (first | (go_at_call 61; refine HU.out.mono ?_; rintro _ w2 ⟨rfl, hs2, hf2⟩; have HS2 := Lib.hid hs2; have HF2 := Lib.hid hf2; clear hs2 hf2) | (go_at_call 74; refine (empty_any _ _ _).mono ?_; rw [hem]; rintro _ w3 ⟨rfl, hb3⟩))
        go_roundw
        case rel => exact ⟨k + 1, by omega, by go_num, by rw [HE.out]; exact HS2.out.below hb3, (HFR.out.trans HF2.out).trans (Fr.below hb3 _), fun q hq => by rcases Nat.lt_succ_iff_lt_or_eq.1 hq with h | rfl; exact HAL.out q h; rw [HR.out, hem]; rfl⟩
        case measure => simp [intOf]; omega
      · go_wp2_with (first | (go_at_call 61; refine HU.out.mono ?_; rintro _ w2 ⟨rfl, hs2, hf2⟩; have HS2 := Lib.hid hs2; have HF2 := Lib.hid hf2; clear hs2 hf2) | (go_at_call 74; refine (empty_any _ _ _).mono ?_; rw [hem]; rintro _ w3 ⟨rfl, hb3⟩))
        go_ret
        have hle : n + k * M + M ≤ n + t.ng * M := by
          have : (k + 1) * M ≤ t.ng * M := Nat.mul_le_mul_right _ hlt
          rw [Nat.succ_mul] at this; omega
        exact ⟨ret_bool (by rw [HAG.out, allB_false hlt (by rw [HR.out, hem]; rfl)]), (HS2.out.below hb3).mono hle, (HFR.out.trans HF2.out).trans (Fr.below hb3 _)⟩
    · obtain rfl : k = t.ng := by omega
      go_wp2
      go_ret
      exact ⟨ret_bool (by rw [HAG.out, allB_true HAL.out]), HSR.out, HFR.out⟩
end Go.Proofs.Ytjaoflfophcibaa

namespace Go.Proofs.Ytjaoflfophcibaa
open Go.RowKit Go.Shelf

theorem work_made (w : World) (o1 o2 : Obj) (x : WV) (t : Tb) (out : Nat → Nat → Bool) (hl : WL w x t) :
    St ((((w.alloc o1).alloc o2).alloc (.map #[] 0)).alloc (.cells (workA (x.cv t) (x.bv t) (x.rv t) (x.nv t) out (w.heap.size + 1 + 1)) 126)) (w.heap.size + 1 + 1 + 1) (w.heap.size + 1 + 1) 0 x t out ∧
      Below w.heap.size w ((((w.alloc o1).alloc o2).alloc (.map #[] 0)).alloc (.cells (workA (x.cv t) (x.bv t) (x.rv t) (x.nv t) out (w.heap.size + 1 + 1)) 126)) := by
  have hb : Below w.heap.size w ((((w.alloc o1).alloc o2).alloc (.map #[] 0)).alloc (.cells (workA (x.cv t) (x.bv t) (x.rv t) (x.nv t) out (w.heap.size + 1 + 1)) 126)) := (((below_alloc _ _).alloc (by simp) _).alloc (by simp; omega) _).alloc (by simp; omega) _
  refine ⟨⟨?_, hl.below hb, ?_⟩, hb⟩
  · have h := heap_alloc_new (((w.alloc o1).alloc o2).alloc (.map #[] 0)) (.cells (workA (x.cv t) (x.bv t) (x.rv t) (x.nv t) out (w.heap.size + 1 + 1)) 126)
    simp only [World.size_alloc] at h
    exact h
  · have h := CM.made ((w.alloc o1).alloc o2) (t.memo out)
    simp only [World.size_alloc] at h
    exact h.below (below_alloc _ _)
set_option maxRecDepth 100000 in
set_option maxHeartbeats 4000000 in
theorem work_any (x : WV) (t : Tb) (out : Nat → Nat → Bool) (w : World) (hl : WL w x t) :
    Calls Try.prog 58 #[.agg #[x.cv t, x.bv t, x.rv t, x.nv t], .agg (outL out).toArray] w fun e w' => ∃ B bm, e = .returned (.pointer (some ⟨B, 0, none⟩)) ∧ St w' B bm 0 x t out ∧ w.heap.size ≤ B ∧ w.heap.size ≤ bm ∧ Below w.heap.size w w' := by
  have HL := Lib.hid hl
  clear hl
  have hol : outL out = [.bool (out 0 0), .bool (out 0 1), .bool (out 0 2), .bool (out 0 3), .bool (out 1 0), .bool (out 1 1), .bool (out 1 2), .bool (out 1 3), .bool (out 2 0), .bool (out 2 1), .bool (out 2 2), .bool (out 2 3), .bool (out 3 0), .bool (out 3 1), .bool (out 3 2), .bool (out 3 3)] := rfl
  rw [hol]
  clear hol
  obtain ⟨ca, cc, ba, bc, ra, rc, na, nc⟩ := x
  simp only [WV.cv, WV.bv, WV.rv, WV.nv]
  have hmm := @run_makeMap Try.prog
  go_enter Try.func58, Try.ntmps58
  go_wp2
  go_ret
  have h := work_made w (.cells #[.slice ca t.nc cc, .slice ba t.nb bc, .slice ra t.nr rc, .slice na t.nn nc] 36) (.cells (outL out).toArray 110) ⟨ca, cc, ba, bc, ra, rc, na, nc⟩ t out HL.out
  exact ⟨_, _, rfl, h.1, by omega, by omega, h.2⟩
end Go.Proofs.Ytjaoflfophcibaa

namespace Go.Proofs.Ytjaoflfophcibaa
open Go.RowKit Go.Shelf

/-- The groups that lead to a group. -/
def srcG (t : Tb) (g : Nat) : List Nat := (if 0 < g then [g - 1] else []) ++ if g + 1 = t.ng then [g] else []
theorem srcG_le (t : Tb) (g : Nat) : (srcG t g).length ≤ 2 := by
  unfold srcG; rw [List.length_append]; split <;> split <;> simp
theorem srcG_lt {t : Tb} {g k : Nat} (hg : g < t.ng) (hk : k < (srcG t g).length) : (srcG t g)[k] < t.ng := by
  have h : ∀ q ∈ srcG t g, q < t.ng := by
    intro q hq
    unfold srcG at hq
    rw [List.mem_append] at hq
    rcases hq with hq | hq
    · split at hq
      · simp at hq; omega
      · simp at hq
    · split at hq
      · simp at hq; omega
      · simp at hq
  exact h _ (List.getElem_mem _)
theorem srcL_eq (t : Tb) (c g : Nat) : srcL t (c + 1) g = (srcG t g).map fun q : Nat => ((c : Int), (q : Int)) := by
  unfold srcL srcL1 srcG
  rw [List.map_append]
  congr 1
  · split
    · simp only [List.map_cons, List.map_nil]; congr 2 <;> omega
    · rfl
  · split
    · simp only [List.map_cons, List.map_nil]; congr 2; omega
    · rfl
/-- The sum of what arrives from the first k of the sources. -/
def accR (t : Tb) (g : Nat) (up : Nat → R2) (r0 : R2) (k : Nat) : R2 := ((srcG t g).take k).foldl (fun r q => plusR r (livingR (t.r (q + 1)) (up q))) r0
theorem accR_zero (t : Tb) (g : Nat) (up : Nat → R2) (r0 : R2) : accR t g up r0 0 = r0 := rfl
theorem accR_succ {t : Tb} {g : Nat} {up : Nat → R2} {r0 : R2} {k : Nat} (hk : k < (srcG t g).length) : accR t g up r0 (k + 1) = plusR (accR t g up r0 k) (livingR (t.r ((srcG t g)[k] + 1)) (up (srcG t g)[k])) := by
  unfold accR
  rw [List.take_succ_eq_append_getElem hk, List.foldl_append]; rfl
def arr0 (t : Tb) (c g : Nat) : R2 := if g = 0 then livingR (t.r 0) (t.b c) else (0, 0)
theorem arr_none {t : Tb} {c g : Nat} {up : Nat → R2} {k : Nat} (hk : k < (srcG t g).length) (he : emptyR (up (srcG t g)[k]) = true) : t.arr c g up = (1, 0) := by
  have hm : (srcG t g)[k] ∈ srcG t g := List.getElem_mem _
  generalize (srcG t g)[k] = q at *
  unfold Tb.arr
  simp only
  rw [if_pos]
  unfold srcG at hm
  rw [List.mem_append] at hm
  rcases hm with hm | hm
  · split at hm
    · rename_i h0
      simp only [List.mem_singleton] at hm
      rw [hm] at he
      simp [h0, he]
    · simp at hm
  · split at hm
    · rename_i h0
      simp only [List.mem_singleton] at hm
      rw [hm] at he
      have : g = t.last := by unfold Tb.last; omega
      simp [this.symm, he]
    · simp at hm
theorem arr_full {t : Tb} {c g : Nat} {up : Nat → R2} (hg : g < t.ng) (he : ∀ k (hk : k < (srcG t g).length), emptyR (up (srcG t g)[k]) = false) : t.arr c g up = meetR (plusR (accR t g up (arr0 t c g) (srcG t g).length) (t.n g)) (0, 1048576) := by
  have he' : ∀ q ∈ srcG t g, emptyR (up q) = false := fun q hq => by
    obtain ⟨k, hk, rfl⟩ := List.getElem_of_mem hq
    exact he k hk
  unfold Tb.arr
  simp only
  have hl : (g = t.last) = (g + 1 = t.ng) := by unfold Tb.last; rw [eq_iff_iff]; omega
  rw [if_neg]
  · congr 2
    unfold accR arr0
    rw [List.take_length]
    unfold srcG
    rw [List.foldl_append]
    by_cases h0 : 0 < g
    · have h1 : g - 1 + 1 = g := by omega
      by_cases hq : g + 1 = t.ng
      · simp [h0, hq, h1, hl]
      · simp [h0, hq, h1, hl]
    · by_cases hq : g + 1 = t.ng
      · simp [h0, hq, hl]
      · simp [h0, hq, hl]
  · unfold srcG at he'
    simp only [hl, Bool.or_eq_true, Bool.and_eq_true, decide_eq_true_eq, not_or, not_and, Bool.not_eq_true]
    refine ⟨fun h0 => he' _ ?_, fun h0 => he' _ ?_⟩
    · rw [if_pos h0]; simp
    · rw [if_pos h0]; simp
/-- What lives on of sizes. -/
theorem living_bd {r s : R2} (hr : isRateR r = true) (h1 : 0 ≤ s.1 ∧ s.1 ≤ 1048576) (h2 : 0 ≤ s.2 ∧ s.2 ≤ 1048576) : -1 ≤ (livingR r s).1 ∧ (livingR r s).1 ≤ 1048576 ∧ 0 ≤ (livingR r s).2 ∧ (livingR r s).2 ≤ 1048576 := by
  obtain ⟨q0, q1, q2⟩ := inside_bd hr
  unfold livingR fewestR mostR deadR
  simp only
  have a1 : 0 ≤ s.1 * r.2 := Int.mul_nonneg h1.1 (by omega)
  have a2 : s.1 * r.2 ≤ s.1 * 1000 := Int.mul_le_mul_of_nonneg_left (by omega) h1.1
  have a3 : 0 ≤ s.2 * r.1 := Int.mul_nonneg h2.1 (by omega)
  have a4 : s.2 * r.1 ≤ s.2 * 1000 := Int.mul_le_mul_of_nonneg_left (by omega) h2.1
  omega
theorem full_bd {t : Tb} {out : Nat → Nat → Bool} {c g : Nat} (h : emptyR (t.up out c g) = false) : (0 ≤ (t.up out c g).1 ∧ (t.up out c g).1 ≤ 1048576) ∧ 0 ≤ (t.up out c g).2 ∧ (t.up out c g).2 ≤ 1048576 := by
  have := up_bd t out c g
  unfold emptyR at h
  simp at h
  omega
theorem acc_bd {t : Tb} {out : Nat → Nat → Bool} {c g : Nat} (hg : g < t.ng) (hnr : t.nr = t.ng + 1) (hr : ∀ j, j < t.nr → isRateR (t.r j) = true) (hb : isCountR (t.b c) = true) :
    ∀ k, k ≤ (srcG t g).length → (∀ j (hj : j < (srcG t g).length), j < k → emptyR (t.up out c (srcG t g)[j]) = false) →
      -10000000 - 10000000 * k ≤ (accR t g (t.up out c) (arr0 t c g) k).1 ∧ (accR t g (t.up out c) (arr0 t c g) k).1 ≤ 10000000 + 10000000 * k ∧ -10000000 - 10000000 * k ≤ (accR t g (t.up out c) (arr0 t c g) k).2 ∧ (accR t g (t.up out c) (arr0 t c g) k).2 ≤ 10000000 + 10000000 * k := by
  intro k
  induction k with
  | zero =>
    intro _ _
    rw [accR_zero]
    unfold arr0
    split
    · have h1 := hr 0 (by omega)
      obtain ⟨q0, q1, q2⟩ := inside_bd hb
      have := living_bd h1 (s := t.b c) ⟨by omega, by omega⟩ ⟨by omega, by omega⟩
      omega
    · simp
  | succ k ih =>
    intro hk he
    have h := ih (by omega) (fun j hj hl => he j hj (by omega))
    rw [accR_succ (by omega)]
    have hq := srcG_lt hg (k := k) (by omega)
    obtain ⟨f1, f2⟩ := full_bd (he k (by omega) (by omega))
    have := living_bd (hr ((srcG t g)[k] + 1) (by omega)) f1 f2
    unfold plusR
    simp only
    omega
theorem src_at {t : Tb} {c0 c1 g k : Nat} (h10 : c1 = c0 + 1) {l : List (Int × Int)} (hl : l = srcL t c1 g) (hk : k < l.length) : ∃ (q : Nat) (hq : k < (srcG t g).length), (srcG t g)[k] = q ∧ l[k] = ((c0 : Int), (q : Int)) := by
  have h := hl
  rw [h10, srcL_eq] at h
  subst h
  rw [List.length_map] at hk
  exact ⟨_, hk, rfl, by rw [List.getElem_map]⟩
theorem src_len {t : Tb} {c0 c1 g : Nat} (h10 : c1 = c0 + 1) {l : List (Int × Int)} (hl : l = srcL t c1 g) : l.length = (srcG t g).length := by
  rw [hl, h10, srcL_eq, List.length_map]
/-- The state inside a call of arrive: its four blocks (the cell, the result, none, r), the table at work. -/
structure AR (w X : World) (B bm m : Nat) (x : WV) (t : Tb) (out : Nat → Nat → Bool) (c1 g : Nat) (a b : Int) : Prop where
  st : St X B bm m x t out
  fr : Fr (fun q => q = bm) w X
  sz : w.heap.size + 4 ≤ X.heap.size
  k : X.heap[w.heap.size]? = some (.cells #[.int .i64 c1, .int .i64 g] 39 (0, 0))
  o : X.heap[w.heap.size + 1]? = some (.cells #[.int .i64 0, .int .i64 0] 29 (0, 0))
  n : X.heap[w.heap.size + 2]? = some (.cells #[.int .i64 1, .int .i64 0] 29 (0, 0))
  r : X.heap[w.heap.size + 3]? = some (.cells #[.int .i64 a, .int .i64 b] 29 (0, 0))
section
variable {w X Y : World} {B bm m : Nat} {x : WV} {t : Tb} {out : Nat → Nat → Bool} {c1 g : Nat} {a b : Int}
theorem AR.go (h : AR w X B bm m x t out c1 g a b) (hw : bm < w.heap.size) (hf : Fr (fun q => q = bm) X Y) {m' : Nat} (hs : St Y B bm m' x t out) : AR w Y B bm m' x t out c1 g a b := by
  have hz := h.sz
  refine ⟨hs, h.fr.trans hf, Nat.le_trans h.sz hf.size, ?_, ?_, ?_, ?_⟩
  · rw [hf.block _ (by omega) (by omega)]; exact h.k
  · rw [hf.block _ (by omega) (by omega)]; exact h.o
  · rw [hf.block _ (by omega) (by omega)]; exact h.n
  · rw [hf.block _ (by omega) (by omega)]; exact h.r
theorem AR.below (h : AR w X B bm m x t out c1 g a b) (hw : bm < w.heap.size) (hb : Below X.heap.size X Y) : AR w Y B bm m x t out c1 g a b := h.go hw (Fr.below hb _) (h.st.below hb)
theorem AR.mono (h : AR w X B bm m x t out c1 g a b) {m' : Nat} (hm : m ≤ m') : AR w X B bm m' x t out c1 g a b := ⟨h.st.mono hm, h.fr, h.sz, h.k, h.o, h.n, h.r⟩
theorem set2 {X : World} {b : Nat} {p q : Value} {t : TypeId} (h : X.heap[b]? = some (.cells #[p, q] t (0, 0))) (p' q' : Value) :
    ((X.setCell ⟨b, 0, none⟩ p').setCell ⟨b, 1, none⟩ q').heap[b]? = some (.cells #[p', q'] t (0, 0)) ∧ Fr (fun k => k = b) X ((X.setCell ⟨b, 0, none⟩ p').setCell ⟨b, 1, none⟩ q') := by
  refine ⟨by simp [World.setCell, Array.getElem?_modify, h], (Fr.set X b 0 p').trans (Fr.set _ b 1 q')⟩
theorem AR.setR {n0 : Nat} (h0 : St w B bm n0 x t out) (h : AR w X B bm m x t out c1 g a b) (a' b' : Int) :
    AR w ((X.setCell ⟨w.heap.size + 3, 0, none⟩ (.int .i64 a')).setCell ⟨w.heap.size + 3, 1, none⟩ (.int .i64 b')) B bm m x t out c1 g a' b' := by
  obtain ⟨hs1, hf1⟩ := St.setN h0 h.st h.fr (b := w.heap.size + 3) (by omega) 0 (.int .i64 a')
  obtain ⟨hs2, hf2⟩ := St.setN h0 hs1 hf1 (b := w.heap.size + 3) (by omega) 1 (.int .i64 b')
  obtain ⟨hr, hf⟩ := set2 h.r (.int .i64 a') (.int .i64 b')
  have hz := h.sz
  refine ⟨hs2, hf2, by simpa using hz, ?_, ?_, ?_, hr⟩
  · rw [hf.block _ (by omega) (by omega)]; exact h.k
  · rw [hf.block _ (by omega) (by omega)]; exact h.o
  · rw [hf.block _ (by omega) (by omega)]; exact h.n
/-- The result is set. -/
theorem AR.setO {n0 : Nat} (h0 : St w B bm n0 x t out) (h : AR w X B bm m x t out c1 g a b) (a' b' : Int) :
    St ((X.setCell ⟨w.heap.size + 1, 0, none⟩ (.int .i64 a')).setCell ⟨w.heap.size + 1, 1, none⟩ (.int .i64 b')) B bm m x t out ∧
      Fr (fun q => q = bm) w ((X.setCell ⟨w.heap.size + 1, 0, none⟩ (.int .i64 a')).setCell ⟨w.heap.size + 1, 1, none⟩ (.int .i64 b')) ∧
      ((X.setCell ⟨w.heap.size + 1, 0, none⟩ (.int .i64 a')).setCell ⟨w.heap.size + 1, 1, none⟩ (.int .i64 b')).heap[w.heap.size + 1]? = some (.cells #[.int .i64 a', .int .i64 b'] 29 (0, 0)) := by
  obtain ⟨hs1, hf1⟩ := St.setN h0 h.st h.fr (b := w.heap.size + 1) (by omega) 0 (.int .i64 a')
  obtain ⟨hs2, hf2⟩ := St.setN h0 hs1 hf1 (b := w.heap.size + 1) (by omega) 1 (.int .i64 b')
  exact ⟨hs2, hf2, (set2 h.o _ _).1⟩
theorem AR.made {n0 : Nat} (h0 : St w B bm n0 x t out) : AR w ((((w.alloc (.cells #[.int .i64 c1, .int .i64 g] 39)).alloc (.cells #[.int .i64 0, .int .i64 0] 29)).alloc (.cells #[.int .i64 1, .int .i64 0] 29)).alloc (.cells #[.int .i64 0, .int .i64 0] 29)) B bm n0 x t out c1 g 0 0 := by
  obtain ⟨hz, hb, k0, k1, k2, k3⟩ := alloc4 w (.cells #[.int .i64 c1, .int .i64 g] 39) (.cells #[.int .i64 0, .int .i64 0] 29) (.cells #[.int .i64 1, .int .i64 0] 29) (.cells #[.int .i64 0, .int .i64 0] 29)
  exact ⟨h0.below hb, Fr.below hb _, by omega, k0, k1, k2, k3⟩
end
/-- An element of a list of cells of the call's own. -/
theorem cells_at {W : World} {va : Option Addr} {vc : Nat} {l : List (Int × Int)} (h : W.ownsRow 0 39 2 (.slice va l.length vc) l.length (flat l)) {k : Nat} (hk : k < l.length) :
    ∃ gb, va = some ⟨gb, 0, none⟩ ∧ gb < W.heap.size ∧ W.cell? ⟨gb, k * 2, none⟩ = some (.int .i64 l[k].1) ∧ W.cell? ⟨gb, k * 2 + 1, none⟩ = some (.int .i64 l[k].2) := by
  obtain ⟨gb, cap, he, _, _⟩ := h.form (by omega)
  cases he
  obtain ⟨h0, h1⟩ := flat_get l k hk
  refine ⟨gb, rfl, own_lt h rfl, ?_, ?_⟩
  · rw [h.cellAt _ (by omega), h0]
  · rw [h.cellAt _ (by omega), h1]
end Go.Proofs.Ytjaoflfophcibaa
