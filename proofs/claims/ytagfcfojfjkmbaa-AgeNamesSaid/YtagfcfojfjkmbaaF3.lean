/- AgeRounds: for every input the law returns true, and each argument reads afterwards as it read before. No condition. -/
import Derived.Test.YtagfcfojfjkmbaaF2
import Derived.Test.YtagfcfojfjkmbaaL1
namespace Go.Proofs.Ytagfcfojfjkmbaa
open Go.RowKit Go.Shelf

attribute [local go_sem ↓] Go.wp_at_zero Go.wp_at_succ
/-- A rule of the reference lies in block B. -/
def RuleAt (X : World) (B : Nat) (f b m e : Int) : Prop := X.heap[B]? = some (.cells #[.int .i64 f, .int .i64 b, .int .i64 m, .int .i64 e] 77 (0, 0))
theorem RuleAt.cells {X : World} {B : Nat} {f b m e : Int} (h : RuleAt X B f b m e) : X.cell? ⟨B, 0, none⟩ = some (.int .i64 f) ∧ X.cell? ⟨B, 1, none⟩ = some (.int .i64 b) ∧ X.cell? ⟨B, 2, none⟩ = some (.int .i64 m) ∧ X.cell? ⟨B, 3, none⟩ = some (.int .i64 e) :=
  ⟨cell_of_row _ _ 0 _ _ _ h, cell_of_row _ _ 1 _ _ _ h, cell_of_row _ _ 2 _ _ _ h, cell_of_row _ _ 3 _ _ _ h⟩
theorem RuleAt.lt {X : World} {B : Nat} {f b m e : Int} (h : RuleAt X B f b m e) : B < X.heap.size := (Array.getElem?_eq_some_iff.1 h).1
theorem RuleAt.below {X Y : World} {B : Nat} {f b m e : Int} (h : RuleAt X B f b m e) (hb : Below X.heap.size X Y) : RuleAt Y B f b m e := (hb.block _ h.lt).trans h
theorem RuleAt.set3 {X : World} {B : Nat} {f b m e : Int} (h : RuleAt X B f b m e) (v : Int) : RuleAt (X.setCell ⟨B, 3, none⟩ (.int .i64 v)) B f b m v := by
  unfold RuleAt at *; simp [World.setCell, Array.getElem?_modify, h]
theorem RuleAt.set1 {X : World} {B : Nat} {f b m e : Int} (h : RuleAt X B f b m e) (v : Int) : RuleAt (X.setCell ⟨B, 1, none⟩ (.int .i64 v)) B f v m e := by
  unfold RuleAt at *; simp [World.setCell, Array.getElem?_modify, h]
theorem RuleAt.other {X : World} {B C o : Nat} {f b m e : Int} (h : RuleAt X B f b m e) (hne : B ≠ C) (v : Value) : RuleAt (X.setCell ⟨C, o, none⟩ v) B f b m e := ((Fr.set X C o v).block _ h.lt hne).trans h

set_option maxRecDepth 100000 in
set_option maxHeartbeats 8000000 in
theorem ageRounds_walk (f b m e yr wr_ : Int) (w : World) (hy0 : 0 ≤ yr) (hy1 : yr ≤ 255) (hw0 : 0 ≤ wr_) (hw1 : wr_ ≤ 255) :
    Calls Try.prog 11 #[.agg #[.int .i64 f, .int .i64 b, .int .i64 m, .int .i64 e], .int .u8 yr, .int .u8 wr_] w fun e w' => e = .returned (.bool true) ∧ Below w.heap.size w w' := by
  cases hr : okRule f b m e
  · go_enter Try.func11, Try.ntmps11
    go_wp2_with (first | (go_at_call 46; refine (isRule_any f b m e _).mono ?_; rintro e w1 ⟨rfl, hb1⟩) | (go_at_call 20; refine (awake_any _).mono ?_; rintro e w2 ⟨rfl, hb2⟩))
    go_ret
    exact ⟨rfl, below_step (below_step (below_alloc _ _) hb1) hb2⟩
  · obtain ⟨g0, g1, g2, g3, g4, g5, g6, g7⟩ := okRule_bd hr
    go_enter Try.func11, Try.ntmps11
    go_wp2_with fail
    refine (isRule_any f b m e _).mono ?_
    rintro _ w1 ⟨rfl, hb1⟩
    have hblk : w1.heap[w.heap.size]? = some (.cells #[.int .i64 f, .int .i64 b, .int .i64 m, .int .i64 e] 77 (0, 0)) := (hb1.block _ (by simp)).trans (heap_alloc_new w _)
    have HB1 : Hid (Below w.heap.size w w1) := below_step (below_alloc _ _) hb1
    have hs1 : w.heap.size < w1.heap.size := (Array.getElem?_eq_some_iff.1 hblk).1
    have c0 : w1.cell? ⟨w.heap.size, 0, none⟩ = some (.int .i64 f) := cell_of_row _ _ 0 _ _ _ hblk
    have c1 : w1.cell? ⟨w.heap.size, 1, none⟩ = some (.int .i64 b) := cell_of_row _ _ 1 _ _ _ hblk
    have c2 : w1.cell? ⟨w.heap.size, 2, none⟩ = some (.int .i64 m) := cell_of_row _ _ 2 _ _ _ hblk
    have c3 : w1.cell? ⟨w.heap.size, 3, none⟩ = some (.int .i64 e) := cell_of_row _ _ 3 _ _ _ hblk
    have HBLK := Lib.hid hblk
    clear hb1 hblk
    have n0 := World.new_ne w1 ⟨w.heap.size, 0, none⟩ c0
    have n1 : w1.heap.size + 1 ≠ w.heap.size := by omega
    have n2 : w1.heap.size + 1 + 1 ≠ w.heap.size := by omega
    have HSB : Hid (∀ X : World, Below w1.heap.size w1 X → X.cell? ⟨w.heap.size, 0, none⟩ = some (.int .i64 f) ∧ X.cell? ⟨w.heap.size, 1, none⟩ = some (.int .i64 b) ∧ X.cell? ⟨w.heap.size, 2, none⟩ = some (.int .i64 m) ∧ X.cell? ⟨w.heap.size, 3, none⟩ = some (.int .i64 e) ∧ Below w1.heap.size w1 X) :=
      fun X hX => ⟨kept hX hs1 c0, kept hX hs1 c1, kept hX hs1 c2, kept hX hs1 c3, hX⟩
    clear n0 n1 n2
    go_upto_region 3 with fail
    go_cut [7, 8, 9] (fun s7 s8 s9 wx => ∃ b7 b8 b9 : Nat, s7 = .pointer (some ⟨b7, 0, none⟩) ∧ s8 = .pointer (some ⟨b8, 0, none⟩) ∧ s9 = .pointer (some ⟨b9, 0, none⟩) ∧ wx.heap[b7]? = some (.cells #[.int .i64 f, .int .i64 b, .int .i64 m, .int .i64 e] 77 (0, 0)) ∧ wx.heap[b8]? = some (.cells #[.int .i64 f, .int .i64 b, .int .i64 m, .int .i64 e] 77 (0, 0)) ∧ wx.heap[b9]? = some (.cells #[.int .i64 f, .int .i64 b, .int .i64 m, .int .i64 e] 77 (0, 0)) ∧ w1.heap.size ≤ b7 ∧ w1.heap.size ≤ b8 ∧ w1.heap.size ≤ b9 ∧ b7 ≠ b8 ∧ b7 ≠ b9 ∧ b8 ≠ b9 ∧ Below w1.heap.size w1 wx)
    case first =>
      obtain ⟨_, hb, q0, q1, q2⟩ := alloc3 w1 (.cells #[.int .i64 f, .int .i64 b, .int .i64 m, .int .i64 e] 77) (.cells #[.int .i64 f, .int .i64 b, .int .i64 m, .int .i64 e] 77) (.cells #[.int .i64 f, .int .i64 b, .int .i64 m, .int .i64 e] 77)
      have HQ0 := Lib.hid q0; have HQ1 := Lib.hid q1; have HQ2 := Lib.hid q2; have HQB := Lib.hid hb
      clear q0 q1 q2 hb
      go_region_held3 (fun X => X.cell? ⟨w.heap.size, 0, none⟩ = some (.int .i64 f) ∧ X.cell? ⟨w.heap.size, 1, none⟩ = some (.int .i64 b) ∧ X.cell? ⟨w.heap.size, 2, none⟩ = some (.int .i64 m) ∧ X.cell? ⟨w.heap.size, 3, none⟩ = some (.int .i64 e) ∧ Below w1.heap.size w1 X)
        (first | exact HSB.out _ ((Below.refl _ _).drew) | exact HSB.out _ ((below_alloc _ _).drew) | exact HSB.out _ (((below_alloc _ _).alloc (by simp) _).drew) | exact HSB.out _ ((((below_alloc _ _).alloc (by simp) _).alloc (by simp; omega) _).drew)) (fail)
      all_goals
        go_wp2_with fail
        go_meet
        refine ⟨_, _, _, rfl, rfl, rfl, ?_, ?_, ?_, by omega, by omega, by omega, by omega, by omega, by omega, HQB.out.drew⟩
        all_goals first | exact HQ0.out | exact HQ1.out | exact HQ2.out
    case rest =>
      obtain ⟨b7, b8, b9, rfl, rfl, rfl, r7, r8, r9, l7, l8, l9, n78, n79, n89, hbx⟩ := hcut
      have r3 : RuleAt wc w.heap.size f b m e := (hbx.block _ hs1).trans HBLK.out
      have R7 : Hid (RuleAt wc b7 f b m e) := r7
      have R8 : Hid (RuleAt wc b8 f b m e) := r8
      have R9 : Hid (RuleAt wc b9 f b m e) := r9
      have R3 := Lib.hid r3
      have HBX := Lib.hid hbx
      obtain ⟨_, _, _, a3⟩ := r3.cells
      obtain ⟨_, _, _, a7⟩ := R7.out.cells
      obtain ⟨_, _, _, a8⟩ := R8.out.cells
      obtain ⟨_, a9, _, _⟩ := R9.out.cells
      have f7 : wc.frozen? ⟨b7, 3, none⟩ = false := frozen_of_row _ _ 3 _ _ r7
      have f8 : wc.frozen? ⟨b8, 3, none⟩ = false := frozen_of_row _ _ 3 _ _ r8
      have f9 : wc.frozen? ⟨b9, 1, none⟩ = false := frozen_of_row _ _ 1 _ _ r9
      clear r7 r8 r9 r3 hbx c0 c1 c2 c3
      have n87 := Ne.symm n78; have n97 := Ne.symm n79; have n98 := Ne.symm n89
      have z7 : b7 ≠ w.heap.size := by omega
      have z8 : b8 ≠ w.heap.size := by omega
      have z9 : b9 ≠ w.heap.size := by omega
      go_upto_region 4 with fail
      go_cut [7] (fun s7 wx => s7 = .pointer (some ⟨b7, 0, none⟩) ∧ RuleAt wx b7 f b m 0 ∧ RuleAt wx b8 f b m (mn 5 (e + 1)) ∧ RuleAt wx b9 f 1 m e ∧ RuleAt wx w.heap.size f b m e ∧ Below w.heap.size w wx)
      case first =>
        have he5 : (e + 1 < 5 ∧ mn 5 (e + 1) = e + 1) ∨ (¬ e + 1 < 5 ∧ mn 5 (e + 1) = 5) := by unfold mn; omega
        have wE : IntKind.i64.wrap (e + 1) = e + 1 := IntWalk.i64_in _ (by omega)
        have hbw : Below w.heap.size w wc := HB1.out.trans (HBX.out.mono (by omega))
        have HBW := Lib.hid hbw; clear hbw
        rcases he5 with ⟨h5, hm5⟩ | ⟨h5, hm5⟩
        all_goals
          have HM5 := Lib.hid hm5; clear hm5
          go_region_held3 (fun X => X.cell? ⟨w.heap.size, 3, none⟩ = some (.int .i64 e)) (first | go_keep | (simp [World.cell?_setCell_far, *]; done)) (fail)
        all_goals
          go_wp2_with fail
          go_meet
          refine ⟨rfl, ((R7.out.set3 _).other n78 _).other n79 _, ?_, ((R9.out.other n97 _).other n98 _).set1 _, ((R3.out.other (Ne.symm z7) _).other (Ne.symm z8) _).other (Ne.symm z9) _, (((HBW.out.setCell ?_ _).setCell ?_ _).setCell ?_ _).drew⟩
          · rw [HM5.out]; exact ((R8.out.other n87 _).set3 _).other n89 _
          · show w.heap.size ≤ b7; omega
          · show w.heap.size ≤ b8; omega
          · show w.heap.size ≤ b9; omega
      case rest =>
        obtain ⟨rfl, s7, s8, s9, s3, hbw⟩ := hcut
        have S7 := Lib.hid s7; have S8 := Lib.hid s8; have S9 := Lib.hid s9; have S3 := Lib.hid s3; have HBW := Lib.hid hbw
        clear R7 R8 R9 R3 HBX a3 a7 a8 a9 f7 f8 f9 HBLK HSB HB1 s8 s9 s3 hbw n78 n79 n89 n87 n97 n98 z7 z8 z9 l7 l8 l9 hs1
        have hn0 : 0 ≤ yr % 121 := by omega
        have hn1 : yr % 121 ≤ 120 := by omega
        have hk0 : 0 ≤ wr_ % 141 := by omega
        have hk1 : wr_ % 141 ≤ 140 := by omega
        have m0 : 0 ≤ mn 5 (e + 1) ∧ mn 5 (e + 1) ≤ 5 ∧ e ≤ mn 5 (e + 1) := by unfold mn; omega
        have o0 : okRule f b m 0 = true := by simp [okRule, inB]; omega
        have o2 : okRule f b m (mn 5 (e + 1)) = true := by simp [okRule, inB]; omega
        have o1 : okRule f 1 m e = true := by simp [okRule, inB]; omega
        have wb := wrt_bd f b m (yr % 121) g2 g3 hn0 (by omega)
        have w0 : wrE f b m 0 (yr % 121) = 0 := by unfold wrE; rw [if_neg (by rw [o0]; decide), if_neg (by simp [inB]; omega)]
        have w0' : wrR f b m 0 (yr % 121) = wrt f b m (yr % 121) := by unfold wrR; rw [if_pos w0]
        have w1' : wrE f 1 m e (yr % 121) = 0 := by unfold wrE; rw [if_neg (by rw [o1]; decide), if_neg (by simp [inB]; omega)]
        have w1'' : wrR f 1 m e (yr % 121) = yr % 121 := by
          unfold wrR; rw [if_pos w1']; unfold wrt
          split
          · rfl
          · split <;> omega
        have HWA := Lib.hid (fun W => writeF_any f b m 0 (yr % 121) W)
        rw [w0, w0'] at HWA
        have HWB := Lib.hid (fun W => writeF_any f 1 m e (yr % 121) W)
        rw [w1', w1''] at HWB
        have HTA := Lib.hid (fun W => true_ok f b m 0 (wrt f b m (yr % 121)) W o0 (by simp [inB]; omega))
        have HTB := Lib.hid (fun W => true_ok f b m e (wr_ % 141) W hr (by simp [inB]; omega))
        have HTC := Lib.hid (fun W => true_ok f b m (mn 5 (e + 1)) (wr_ % 141) W o2 (by simp [inB]; omega))
        unfold ruleV at HTA HTB HTC
        have HH : Hid (hasR (rngs (agesF f b m 0 (wrt f b m (yr % 121)) 126) 121) (yr % 121) = true) := by
          unfold Hid
          obtain ⟨q, hq⟩ := Int.eq_ofNat_of_zero_le hn0
          rw [(rngs_facts _ 121).2.2, hq]
          have : agesF f b m 0 (wrt f b m (q : Int)) 126 q = true := (agesF_iff _ _ _ _ _ _ _).2 ⟨q, by omega, rfl, by omega, by omega⟩
          simp [this]; omega
        have HI : Hid (insB (rngs (agesF f b m e (wr_ % 141) 126) 121) (rngs (agesF f b m (mn 5 (e + 1)) (wr_ % 141) 126) 121) = true) := by
          refine insB_of (rngs_facts _ _).1 (rngs_facts _ _).1 (fun x hx => ?_)
          rw [(rngs_facts _ 121).2.2] at hx ⊢
          simp only [Bool.and_eq_true] at hx ⊢
          refine ⟨hx.1, ?_⟩
          obtain ⟨q, h1, h2, h3, h4⟩ := (agesF_iff _ _ _ _ _ _ _).1 hx.2
          exact (agesF_iff _ _ _ _ _ _ _).2 ⟨q, h1, h2, by omega, by omega⟩
        have hlA := rngs_length (agesF f b m 0 (wrt f b m (yr % 121)) 126) 121
        have hlB := rngs_length (agesF f b m e (wr_ % 141) 126) 121
        have hlC := rngs_length (agesF f b m (mn 5 (e + 1)) (wr_ % 141) 126) 121
        generalize rngs (agesF f b m 0 (wrt f b m (yr % 121)) 126) 121 = la at *
        generalize rngs (agesF f b m e (wr_ % 141) 126) 121 = lb at *
        generalize rngs (agesF f b m (mn 5 (e + 1)) (wr_ % 141) 126) 121 = lc at *
        generalize wrt f b m (yr % 121) = wv at *
        obtain ⟨wb0, wb1⟩ := wb
        generalize mn 5 (e + 1) = e2 at *
        clear w0 w0' w1' w1'' o0 o1 o2 m0 hr
        obtain ⟨k0, k1, k2, k3⟩ := s7.cells
        clear s7
        go_wp2_with fail
        generalize yr % 121 = nn at *
        generalize wr_ % 141 = kk at *
        refine (rule_any _ _ _ _ _).mono ?_
        rintro _ x1 ⟨rfl, hx1⟩
        go_wp2_with fail
        refine (HWA.out _).mono ?_
        rintro _ x2 ⟨rfl, hx2⟩
        have B2 := Lib.hid (below_step hx1 hx2)
        clear k0 k1 k2 k3 hx1 hx2
        obtain ⟨k0, k1, k2, k3⟩ := (S7.out.below B2.out).cells
        go_wp2_with fail
        refine (rule_any _ _ _ _ _).mono ?_
        rintro _ x3 ⟨rfl, hx3⟩
        go_wp2_with fail
        refine (HTA.out _).mono ?_
        rintro _ x4 ⟨v4, rfl, hr4, hx4⟩
        obtain ⟨a4, c4, rfl⟩ := hr4.slice
        have RG4 := Lib.hid hr4.rg
        have B4 := Lib.hid (below_step B2.out (below_step hx3 hx4))
        clear k0 k1 k2 k3 hx3 hx4 hr4
        obtain ⟨k0, k1, k2, k3⟩ := (S3.out.below B4.out).cells
        go_wp2_with fail
        refine (rule_any _ _ _ _ _).mono ?_
        rintro _ x5 ⟨rfl, hx5⟩
        go_wp2_with fail
        refine (HTB.out _).mono ?_
        rintro _ x6 ⟨v6, rfl, hr6, hx6⟩
        obtain ⟨a6, c6, rfl⟩ := hr6.slice
        have RG6 := Lib.hid hr6.rg
        have B46 := Lib.hid (below_step hx5 hx6)
        clear k0 k1 k2 k3 hx5 hx6 hr6
        obtain ⟨k0, k1, k2, k3⟩ := (S8.out.below (below_step B4.out B46.out)).cells
        go_wp2_with fail
        refine (rule_any _ _ _ _ _).mono ?_
        rintro _ x7 ⟨rfl, hx7⟩
        go_wp2_with fail
        refine (HTC.out _).mono ?_
        rintro _ x8 ⟨v8, rfl, hr8, hx8⟩
        obtain ⟨a8, c8, rfl⟩ := hr8.slice
        have RG8 := Lib.hid hr8.rg
        have B68 := Lib.hid (below_step hx7 hx8)
        clear k0 k1 k2 k3 hx7 hx8 hr8
        obtain ⟨k0, k1, k2, k3⟩ := (S9.out.below (below_step (below_step B4.out B46.out) B68.out)).cells
        go_wp2_with fail
        refine (rule_any _ _ _ _ _).mono ?_
        rintro _ x9 ⟨rfl, hx9⟩
        go_wp2_with fail
        refine (HWB.out _).mono ?_
        rintro _ x10 ⟨rfl, hx10⟩
        have B810 := Lib.hid (below_step hx9 hx10)
        have B410 := Lib.hid (below_step (below_step B46.out B68.out) B810.out)
        have hh := HH.out
        have hi := HI.out
        clear k0 k1 k2 k3 hx9 hx10
        go_wp2_with (first | (go_at_call 50; refine (has_any _ la _ _ (by omega) (RG4.out.kept B410.out)).mono ?_; rintro _ _ ⟨rfl, rfl⟩) | (go_at_call 38; refine (inside_any _ _ lb lc _ (by omega) (by omega) (RG6.out.kept (below_step B68.out B810.out)) (RG8.out.kept B810.out)).mono ?_; rintro _ x11 ⟨rfl, hx11⟩) | (go_at_call 20; refine (awake_any _).mono ?_; rintro _ x12 ⟨rfl, hx12⟩))
        go_ret
        exact ⟨rfl, HBW.out.trans ((below_step (below_step (below_step B4.out B410.out) hx11) hx12).mono HBW.out.size)⟩

open Go.ChangeShapes Go.WideShapes Go.ChangeAt
set_option maxRecDepth 100000 in
theorem ageRounds_lifted (os : Os) (started : os.Started) (H : Type) (enc : TypeId × Value → H) :
    ReturnsInHanded {} Try.checked os 11 .any (Rows.ageRoundsSpec.pre6 enc Try.prog Try.f11 Rows.ageRoundsRow.domain false) (Rows.ageRoundsSpec.post enc Try.prog Try.f11 false true false false) := by
  refine returnsInHanded_of_change (C := Try.checked) Try.own started (by kernel_rfl) Try.func11
    (ChangeSpec.witness6 (enc := enc) (C := Try.checked) false ⟨#[], #[.agg #[.int .i64 0, .int .i64 0, .int .i64 0, .int .i64 0], .int .u8 0, .int .u8 0], []⟩ 8 (by kernel_rfl) (by kernel_rfl) (by kernel_rfl) (by kernel_rfl)) ?_
  intro W base args ds gs before hval0 hW hcnd _
  have hval : ∀ (j : Nat) t v, Try.f11.params[j]? = some t → args[j]? = some v → Value.okWide Try.prog W .any base t v := hval0
  have hW' := hW
  obtain ⟨p, q, hA0, hV, hpq, hfz, hnd⟩ := hW
  have hA : DataW.TrodAll enc Try.prog W 0 (fun _ => true) true Try.f11.params.toList args.toList ds p := hA0
  rw [Try.params11] at hA hval
  obtain ⟨v0, v1, v2, d0, d1, d2, p0, p1, p2, rfl, rfl, rfl, h0, h1, h2⟩ := trodAll_three hA
  obtain ⟨f, b, m, e, rfl⟩ := open_rule (hval 0 77 v0 rfl rfl) h0
  obtain ⟨y, rfl, rfl, rfl, hy⟩ := open_int Try.underlying5 (hval 1 5 v1 rfl rfl) h1
  obtain ⟨k, rfl, rfl, rfl, hk⟩ := open_int Try.underlying5 (hval 2 5 v2 rfl rfl) h2
  have hyb := bounds_u8 hy
  have hkb := bounds_u8 hk
  refine (ageRounds_walk f b m e y k W hyb.1 hyb.2 hkb.1 hkb.2).mono fun e W' ⟨he, hb⟩ => ?_
  subst he
  exact ⟨_, rfl, law_post rfl rfl (by rw [Try.params11]; simp only [List.mem_cons, List.not_mem_nil, or_false]; rintro t (rfl | rfl | rfl) <;> exact ⟨by kernel_rfl, of_decide_eq_true (by kernel_rfl)⟩) (fun _ => rfl) hW' hb⟩

theorem ageRounds_holds : Rows.AgeRoundsSaid :=
  OpenClaim.holds_of_wide 11 Try.f11 rfl rfl rfl rfl rfl rfl rfl ⟨rfl, rfl, rfl, rfl, rfl⟩ rfl rfl rfl rfl rfl (by kernel_rfl) Try.func11 (by kernel_rfl)
    (of_decide_eq_true (by kernel_rfl)) (by unfold Func.isWrapper; first | (rw [if_pos (by decide +kernel)]; kernel_rfl) | (rw [if_neg (by decide +kernel)]; exact ⟨rfl, rfl⟩))
    (fun os started H enc _ => ageRounds_lifted os started H enc)
#print axioms ageRounds_holds
end Go.Proofs.Ytagfcfojfjkmbaa
