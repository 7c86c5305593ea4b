/- FlowWould: the walk. -/
import Derived.Test.YtjaoflfophcibaaHP
import Derived.Test.YtjaoflfophcibaaGO
namespace Go.Proofs.Ytjaoflfophcibaa
open Go.RowKit Go.Shelf

theorem LvR.gen {W : World} {t : Tb} {nw : Nat} {z : Nat → Int} {bits : Int} {T1 T2 T3 : Value} (h : LvR W t nw z bits T1 T2 T3) : ∃ (y : Tb) (u : WV), T1 = .agg #[u.cv y, u.bv y, u.rv y, u.nv y] ∧ WLi W u y ∧ y.small ∧ y.fault = 0 := by
  obtain ⟨u, y, x, sa, sc, rfl, _, _, hw, _, _, hf, _⟩ := h.ex
  exact ⟨_, u, rfl, hw, cnted_small (Okt.of_fault h.ft) x nw z bits, hf⟩
theorem wouldE_in {t : Tb} (hf : t.fault = 0) {c g : Nat} (hc : c < t.nc) (hg : g < t.ng) : wouldE t c g = if t.agree (outC c g) = true then 0 else 9 := by
  unfold wouldE
  rw [if_neg (by rw [hf]; decide), if_pos]
  · simp
  · unfold inB
    simp only [Bool.and_eq_true, decide_eq_true_eq]
    omega
set_option maxRecDepth 100000 in
set_option maxHeartbeats 8000000 in
theorem flowWould_walk (u : WV) (t : Tb) (wv : Value) (nw : Nat) (z : Nat → Int) (bits wh : Int) (w : World) (h0 : TbLaw w u t) (hw : WordsIn w wv nw z) (hn : nw ≤ maxLen) (hb0 : 0 ≤ bits) (hbb1 : bits ≤ 65535) (hw0 : 0 ≤ wh) (hw1 : wh ≤ 255) :
    Calls Try.prog 7 #[.agg #[u.cv t, u.bv t, u.rv t, u.nv t], wv, .int .u16 bits, .int .u8 wh] w fun e w' => e = .returned (.bool true) ∧ Below w.heap.size w w' := by
  have LV0 := Lib.hid (fun (X : World) (hX : Below w.heap.size w X) => lives_any u t wv nw z bits h0.big h0.z X (h0.l.below hX) h0.cc h0.cb (hw.below hX) hn hb0 hbb1)
  have HAW := Lib.hid awake_any
  obtain ⟨wa, wc, rfl⟩ := hw.len
  clear h0 hw hn
  simp only [WV.cv, WV.bv, WV.rv, WV.nv] at LV0 ⊢
  have HA0 : Hid (BF w (w.alloc (.cells #[.slice u.ca t.nc u.cc, .slice u.ba t.nb u.bc, .slice u.ra t.nr u.rc, .slice u.na t.nn u.nc] 25)) [(w.heap.size, #[.slice u.ca t.nc u.cc, .slice u.ba t.nb u.bc, .slice u.ra t.nr u.rc, .slice u.na t.nn u.nc], 25)]) := (BF.base w).alloc _ _
  go_enter Try.func7, Try.ntmps7
  go_wp2_with fail
  refine (LV0.out _ HA0.out.fr).mono ?_
  rintro _ w5 ⟨V1, U1, T3, b, rfl, hb5, hlv⟩
  have HB5 := Lib.hid (HA0.out.below hb5).fr
  have HLR := Lib.hid hlv
  clear hb5 hlv HA0 LV0
  cases b
  · go_wp2_with (go_at_call 18; refine (HAW.out _).mono ?_; rintro _ w9 ⟨rfl, hb9⟩; have HB9 := Lib.hid (below_step (HB5.out.trans ((below_step (below_alloc w5 (.cells #[.slice V1.p0 V1.l0 V1.c0, .slice V1.p1 V1.l1 V1.c1, .slice V1.p2 V1.l2 V1.c2, .slice V1.p3 V1.l3 V1.c3] 25)) (below_alloc _ (.cells #[.slice U1.p0 U1.l0 U1.c0, .slice U1.p1 U1.l1 U1.c1, .slice U1.p2 U1.l2 U1.c2, .slice U1.p3 U1.l3 U1.c3] 75))).mono HB5.out.size)) hb9); clear hb9)
    go_ret
    exact ⟨rfl, HB9.out⟩
  obtain ⟨y, v, hv, hwl, hys, hyf⟩ := (HLR.out rfl).gen
  obtain ⟨p0, l0, e0, p1, l1, e1, p2, l2, e2, p3, l3, e3⟩ := V1
  simp only [WV.cv, WV.bv, WV.rv, WV.nv, Value.agg.injEq, Value.slice.injEq, Array.mk.injEq, List.cons.injEq, and_true] at hv
  obtain ⟨⟨rfl, rfl, rfl⟩, ⟨rfl, rfl, rfl⟩, ⟨rfl, rfl, rfl⟩, rfl, rfl, rfl⟩ := hv
  have hok := Okt.of_fault hyf
  have HOK := Lib.hid hok
  have yng2 := hok.ng2; have yng4 := hok.ng4; have ync4 := hok.nc4; have ync1 := hok.nc1
  have HA6 : Hid (BF w ((w5.alloc (.cells #[.slice v.ca y.nc v.cc, .slice v.ba y.nb v.bc, .slice v.ra y.nr v.rc, .slice v.na y.nn v.nc] 25)).alloc (.cells #[.slice U1.p0 U1.l0 U1.c0, .slice U1.p1 U1.l1 U1.c1, .slice U1.p2 U1.l2 U1.c2, .slice U1.p3 U1.l3 U1.c3] 75)) [(w5.heap.size, #[.slice v.ca y.nc v.cc, .slice v.ba y.nb v.bc, .slice v.ra y.nr v.rc, .slice v.na y.nn v.nc], 25)]) := ((((BF.base w).below HB5.out).alloc #[.slice v.ca y.nc v.cc, .slice v.ba y.nb v.bc, .slice v.ra y.nr v.rc, .slice v.na y.nn v.nc] 25).below (below_alloc _ _)).sub (List.forall_mem_cons.2 ⟨.head _, List.forall_mem_nil _⟩)
  have HB6 : Hid (Below w5.heap.size w5 ((w5.alloc (.cells #[.slice v.ca y.nc v.cc, .slice v.ba y.nb v.bc, .slice v.ra y.nr v.rc, .slice v.na y.nn v.nc] 25)).alloc (.cells #[.slice U1.p0 U1.l0 U1.c0, .slice U1.p1 U1.l1 U1.c1, .slice U1.p2 U1.l2 U1.c2, .slice U1.p3 U1.l3 U1.c3] 75))) := below_step (below_alloc _ _) (below_alloc _ _)
  have HTB : Hid (∀ X, Below w5.heap.size w5 X → Calls Try.prog 20 #[.agg #[v.cv y, v.bv y, v.rv y, v.nv y]] X fun e w' => ∃ v' : WV, e = .returned (.agg #[v'.cv y, v'.bv y, v'.rv y, v'.nv y]) ∧ WL w' v' y ∧ Below X.heap.size X w') := fun X hX => table_any v y hys X (hwl.below hX)
  have HGR : Hid (∀ X, Below w5.heap.size w5 X → Calls Try.prog 23 #[.agg #[v.cv y, v.bv y, v.rv y, v.nv y]] X fun e w' => e = .returned (.int .i64 (y.ng : Nat)) ∧ Below X.heap.size X w') := fun X hX => rgroups_any _ y X (hwl.below hX).tb hys
  have HBO : Hid (y.agree off0 = true → ∀ (X : World) (v' : WV), WL X v' y → Calls Try.prog 39 #[.agg #[v'.cv y, v'.bv y, v'.rv y, v'.nv y]] X fun e w' => ∃ b, e = .returned (.tuple #[b, .int .i64 0]) ∧ RowsAt w' b y.nc (fun _ => y.ng) (bndR y off0) ∧ Below X.heap.size X w') := fun hya X v' h => Bounds_ok v' y hys X h hyf hya (fun c g hc hg => agree_ne hya (by omega) c g hc hg)
  have HBN : Hid (y.agree off0 = false → ∀ (X : World) (v' : WV), WL X v' y → Calls Try.prog 39 #[.agg #[v'.cv y, v'.bv y, v'.rv y, v'.nv y]] X fun e w' => e = .returned (.tuple #[.slice none 0 0, .int .i64 9]) ∧ Below X.heap.size X w') := fun hya X v' h => Bounds_fail v' y hys X h hyf hya
  have HWO : Hid (∀ (X : World) (v' : WV) (c g : Nat), WL X v' y → Calls Try.prog 19 #[.agg #[v'.cv y, v'.bv y, v'.rv y, v'.nv y], .agg #[.int .i64 c, .int .i64 g]] X (WouldP y c g X)) := fun X v' c g h => Would_ok v' y hys c g X h hyf
  have HRC := Lib.hid hwl.1
  have HFZ := Lib.hid hyf
  simp only [WV.cv, WV.bv, WV.rv, WV.nv] at HTB HGR HBO HBN HWO HRC
  obtain ⟨c, hcq, hc⟩ : ∃ c : Nat, wh % (y.nc : Int) = (c : Int) ∧ c < y.nc := ⟨(wh % (y.nc : Int)).toNat, by have := Int.emod_nonneg wh (show (y.nc : Int) ≠ 0 by omega); omega, by have := Int.emod_lt_of_pos wh (show (0 : Int) < (y.nc : Int) by omega); have := Int.emod_nonneg wh (show (y.nc : Int) ≠ 0 by omega); omega⟩
  obtain ⟨g, hgq, hg⟩ : ∃ g : Nat, wh / 8 % (y.ng : Int) = (g : Int) ∧ g < y.ng := ⟨(wh / 8 % (y.ng : Int)).toNat, by have := Int.emod_nonneg (wh / 8) (show (y.ng : Int) ≠ 0 by omega); omega, by have := Int.emod_lt_of_pos (wh / 8) (show (0 : Int) < (y.ng : Int) by omega); have := Int.emod_nonneg (wh / 8) (show (y.ng : Int) ≠ 0 by omega); omega⟩
  clear hwl hyf hok HLR
  have n1 : ¬ y.nc = 0 := by omega
  have n2 : ¬ y.ng = 0 := by omega
  have n3 : (IntKind.i64.wrap wh).tmod (y.nc : Int) = (c : Int) := by rw [IntWalk.i64_in _ (by omega), Int.tmod_eq_emod_of_nonneg hw0]; exact hcq
  have n4 : (IntKind.i64.wrap ((IntKind.i64.wrap wh).tdiv 8)).tmod (y.ng : Int) = (g : Int) := by
    rw [IntWalk.i64_in wh (by omega), Int.tdiv_eq_ediv_of_nonneg hw0, IntWalk.i64_in _ (by omega), Int.tmod_eq_emod_of_nonneg (by omega)]; exact hgq
  go_wp2_with fail
  go_cut [13, 14] (fun s13 s14 wx => s13 = .int .i64 c ∧ s14 = .int .i64 g ∧ Below w5.heap.size w5 wx ∧ BF w wx [(w5.heap.size, #[.slice v.ca y.nc v.cc, .slice v.ba y.nb v.bc, .slice v.ra y.nr v.rc, .slice v.na y.nn v.nc], 25)])
  case first =>
    generalize ((w5.alloc (.cells #[.slice v.ca y.nc v.cc, .slice v.ba y.nb v.bc, .slice v.ra y.nr v.rc, .slice v.na y.nn v.nc] 25)).alloc (.cells #[.slice U1.p0 U1.l0 U1.c0, .slice U1.p1 U1.l1 U1.c1, .slice U1.p2 U1.l2 U1.c2, .slice U1.p3 U1.l3 U1.c3] 75)) = wr at *
    have HC4 : Hid (∀ X, Below wr.heap.size wr X → X.cell? ⟨w5.heap.size, 0, none⟩ = some (.slice v.ca y.nc v.cc) ∧ X.cell? ⟨w5.heap.size, 1, none⟩ = some (.slice v.ba y.nb v.bc) ∧ X.cell? ⟨w5.heap.size, 2, none⟩ = some (.slice v.ra y.nr v.rc) ∧ X.cell? ⟨w5.heap.size, 3, none⟩ = some (.slice v.na y.nn v.nc)) := fun X hX => by
      have hA := HA6.out.below hX
      exact ⟨hA.cell (.head _) 0, hA.cell (.head _) 1, hA.cell (.head _) 2, hA.cell (.head _) 3⟩
    have HAX : Hid (Below wr.heap.size wr wr.drew) := (Below.refl _ _).drew
    refine wp_region_held_drew (S := fun X => X.cell? ⟨w5.heap.size, 0, none⟩ = some (.slice v.ca y.nc v.cc) ∧ X.cell? ⟨w5.heap.size, 1, none⟩ = some (.slice v.ba y.nb v.bc) ∧ X.cell? ⟨w5.heap.size, 2, none⟩ = some (.slice v.ra y.nr v.rc) ∧ X.cell? ⟨w5.heap.size, 3, none⟩ = some (.slice v.na y.nn v.nc)) (by kernel_rfl) (HC4.out _ HAX.out) (fun hS => ?_)
    generalize wr.drew = X at *
    refine wpAnyH_take (i := 0) (oi := ⟨some 33, Op.move (Operand.tmp 3), _, _, _, _⟩) (v := ?_) rfl (by kernel_rfl) (by kernel_rfl) (by kernel_rfl) (fun _ _ _ h => h) (Or.inl ⟨by rfl, ?_⟩) hS ?_
    rotate_left
    · rintro W' ⟨z0, z1, z2, z3⟩; go_simp; try with_reducible rfl
    try simp only [Act.put, putA, putZ, putS]
    refine wpAnyH_take (i := 1) (oi := ⟨some 34, Op.convert 5 3 (Operand.tmp 33), _, _, _, _⟩) (v := ?_) rfl (by kernel_rfl) (by kernel_rfl) (by kernel_rfl) (fun _ _ _ h => h) (Or.inl ⟨by rfl, ?_⟩) hS ?_
    rotate_left
    · rintro W' ⟨z0, z1, z2, z3⟩; go_simp; try with_reducible rfl
    try simp only [Act.put, putA, putZ, putS]
    refine wpAnyH_take (i := 2) (oi := ⟨some 35, Op.fieldAddr 25 (Operand.tmp 9) 0, _, _, _, _⟩) (v := ?_) rfl (by kernel_rfl) (by kernel_rfl) (by kernel_rfl) (fun _ _ _ h => h) (Or.inl ⟨by rfl, ?_⟩) hS ?_
    rotate_left
    · rintro W' ⟨z0, z1, z2, z3⟩; go_simp; try with_reducible rfl
    try simp only [Act.put, putA, putZ, putS]
    refine wpAnyH_take (i := 3) (oi := ⟨some 36, Op.load 22 (Operand.tmp 35), _, _, _, _⟩) (v := ?_) rfl (by kernel_rfl) (by kernel_rfl) (by kernel_rfl) (fun _ _ _ h => h) (Or.inl ⟨by rfl, ?_⟩) hS ?_
    rotate_left
    · rintro W' ⟨z0, z1, z2, z3⟩; go_simp; try with_reducible rfl
    try simp only [Act.put, putA, putZ, putS]
    refine wpAnyH_take (i := 4) (oi := ⟨some 37, Op.call { callee := Callee.builtin Builtin.len, args := #[Operand.tmp 36], argTypes := #[22] }, _, _, _, _⟩) (v := ?_) rfl (by kernel_rfl) (by kernel_rfl) (by kernel_rfl) (fun _ _ _ h => h) (Or.inl ⟨by rfl, ?_⟩) hS ?_
    rotate_left
    · rintro W' ⟨z0, z1, z2, z3⟩; go_simp; try with_reducible rfl
    try simp only [Act.put, putA, putZ, putS]
    refine wpAnyH_take (i := 5) (oi := ⟨some 38, Op.binOp BinOp.rem 3 (Operand.tmp 34) (Operand.tmp 37) 3, _, _, _, _⟩) (v := .int .i64 c) rfl (by kernel_rfl) (by kernel_rfl) (by kernel_rfl) (fun _ _ _ h => h) (Or.inl ⟨by rfl, ?_⟩) hS ?_
    · rintro W' ⟨z0, z1, z2, z3⟩; go_simp
    try simp only [Act.put, putA, putZ, putS]
    refine wpAnyH_take (i := 6) (oi := ⟨some 39, Op.move (Operand.tmp 3), _, _, _, _⟩) (v := ?_) rfl (by kernel_rfl) (by kernel_rfl) (by kernel_rfl) (fun _ _ _ h => h) (Or.inl ⟨by rfl, ?_⟩) hS ?_
    rotate_left
    · rintro W' ⟨z0, z1, z2, z3⟩; go_simp; try with_reducible rfl
    try simp only [Act.put, putA, putZ, putS]
    refine wpAnyH_take (i := 7) (oi := ⟨some 40, Op.convert 5 3 (Operand.tmp 39), _, _, _, _⟩) (v := ?_) rfl (by kernel_rfl) (by kernel_rfl) (by kernel_rfl) (fun _ _ _ h => h) (Or.inl ⟨by rfl, ?_⟩) hS ?_
    rotate_left
    · rintro W' ⟨z0, z1, z2, z3⟩; go_simp; try with_reducible rfl
    try simp only [Act.put, putA, putZ, putS]
    refine wpAnyH_take (i := 8) (oi := ⟨some 41, Op.binOp BinOp.quo 3 (Operand.tmp 40) (Operand.const (Value.int IntKind.i64 8)) 3, _, _, _, _⟩) (v := ?_) rfl (by kernel_rfl) (by kernel_rfl) (by kernel_rfl) (fun _ _ _ h => h) (Or.inl ⟨by rfl, ?_⟩) hS ?_
    rotate_left
    · rintro W' ⟨z0, z1, z2, z3⟩; go_simp; try with_reducible rfl
    try simp only [Act.put, putA, putZ, putS]
    refine wpAnyH_take (i := 9) (oi := ⟨some 42, Op.load 25 (Operand.tmp 9), _, _, _, _⟩) (v := ?_) rfl (by kernel_rfl) (by kernel_rfl) (by kernel_rfl) (fun _ _ _ h => h) (Or.inl ⟨by rfl, ?_⟩) hS ?_
    rotate_left
    · rintro W' ⟨z0, z1, z2, z3⟩; go_simp; try with_reducible rfl
    try simp only [Act.put, putA, putZ, putS]
    refine wpAnyH_ready (rs := [10]) (by kernel_rfl) (by simp) ?_
    refine AllReadyH.cons (o := ⟨some 43, Op.call { callee := Callee.value (Operand.func 23), args := #[Operand.tmp 42], argTypes := #[25] }, _, _, _, _⟩) rfl (fun K hK => ?_) ?_
    ·
      go_simp
      refine (HGR.out _ (below_step HB6.out HAX.out)).mono ?_
      rintro _ X0 ⟨rfl, hb0⟩
      (try go_wp2_with fail)
      have HA0 := Lib.hid (below_step HAX.out hb0)
      refine hK.out _ _ (HC4.out X0 HA0.out) (fun hS => ?_)
      clear hK K
      try simp only [Act.put, putA, putZ, putS]
      clear hb0
      refine wpAnyH_take (i := 11) (oi := ⟨some 44, Op.binOp BinOp.rem 3 (Operand.tmp 41) (Operand.tmp 43) 3, _, _, _, _⟩) (v := .int .i64 g) rfl (by kernel_rfl) (by kernel_rfl) (by kernel_rfl) (fun _ _ _ h => h) (Or.inl ⟨by rfl, ?_⟩) hS ?_
      · rintro W' ⟨z0, z1, z2, z3⟩; go_simp
      try simp only [Act.put, putA, putZ, putS]
      refine wpAnyH_take (i := 12) (oi := ⟨some 13, Op.assign (Operand.tmp 38), _, _, _, _⟩) (v := ?_) rfl (by kernel_rfl) (by kernel_rfl) (by kernel_rfl) (fun _ _ _ h => h) (Or.inl ⟨by rfl, ?_⟩) hS ?_
      rotate_left
      · rintro W' ⟨z0, z1, z2, z3⟩; go_simp; try with_reducible rfl
      try simp only [Act.put, putA, putZ, putS]
      refine wpAnyH_take (i := 13) (oi := ⟨some 14, Op.assign (Operand.tmp 44), _, _, _, _⟩) (v := ?_) rfl (by kernel_rfl) (by kernel_rfl) (by kernel_rfl) (fun _ _ _ h => h) (Or.inl ⟨by rfl, ?_⟩) hS ?_
      rotate_left
      · rintro W' ⟨z0, z1, z2, z3⟩; go_simp; try with_reducible rfl
      try simp only [Act.put, putA, putZ, putS]
      refine wpAnyH_done (by kernel_rfl) ?_ _
      go_wp2_with fail
      go_meet
      exact ⟨rfl, rfl, below_step HB6.out HA0.out, HA6.out.below HA0.out⟩
    exact AllReadyH.nil
  rename World => wr
  obtain ⟨rfl, rfl, hb7, hbf⟩ := hcut
  have HB7 := Lib.hid hb7; have HA7 := Lib.hid hbf
  clear hb7 hbf HA6 HB6 hcq hgq n1 n2 n3 n4
  have HWE := Lib.hid (wouldE_in HFZ.out hc hg)
  cases hO : y.agree (outC c g)
  · have hE : wouldE y c g = 9 := by rw [HWE.out, hO]; rfl
    have hR : wouldR y c g = (0, 0) := by unfold wouldR; rw [hE]; rfl
    have hA := would_none HOK.out hc hg hO
    have HBD := Lib.hid (HBN.out hA)
    have k0 := HA7.out.cell (.head _) 0
    have k1 := HA7.out.cell (.head _) 1
    have k2 := HA7.out.cell (.head _) 2
    have k3 := HA7.out.cell (.head _) 3
    go_wp2_with fail
    refine (HTB.out _ HB7.out).mono ?_
    rintro _ w8 ⟨v8, rfl, hl8, hb8⟩
    go_wp2_with fail
    refine (HBD.out _ _ hl8).mono ?_
    rintro _ w9 ⟨rfl, hb9⟩
    have HB9 := Lib.hid (below_step hb8 hb9)
    clear k0 k1 k2 k3 hl8 hb8 hb9
    have HA9 := Lib.hid (HA7.out.below HB9.out)
    have k0 := HA9.out.cell (.head _) 0
    have k1 := HA9.out.cell (.head _) 1
    have k2 := HA9.out.cell (.head _) 2
    have k3 := HA9.out.cell (.head _) 3
    go_wp2_with fail
    refine (HTB.out _ (below_step HB7.out HB9.out)).mono ?_
    rintro _ w10 ⟨v10, rfl, hl10, hb10⟩
    have HA10 := Lib.hid (HA9.out.below hb10)
    have HB10 := Lib.hid (below_step HB9.out hb10)
    clear k0 k1 k2 k3 hb10
    go_wp2_with fail
    refine (HWO.out _ _ c g hl10).mono ?_
    rintro e11 w11 hP
    unfold WouldP at hP
    rw [hE, hR] at hP
    obtain ⟨rfl, hb11⟩ := hP
    have HB11 := Lib.hid (HA10.out.below hb11).fr
    clear hb11 hl10
    go_wp2_with (go_at_call 18; refine (HAW.out _).mono ?_; rintro _ w12 ⟨rfl, hb12⟩; have HB12 := Lib.hid (below_step (HB11.out.trans ((below_alloc w11 (.cells #[.int .i64 0, .int .i64 0] 29)).mono HB11.out.size)) hb12); clear hb12)
    go_ret
    exact ⟨rfl, HB12.out⟩
  have hE : wouldE y c g = 0 := by rw [HWE.out, hO]; rfl
  obtain ⟨W1, W2, hW⟩ : ∃ W1 W2, bndR y (outC c g) c g = (W1, W2) := ⟨_, _, rfl⟩
  have hR : wouldR y c g = (W1, W2) := by unfold wouldR; rw [hE]; simpa using hW
  obtain ⟨o1, o2, hCT⟩ : ∃ o1 o2, y.ct c g = (o1, o2) := ⟨_, _, rfl⟩
  have hoff := would_off HOK.out hc hg hO
  have hon := would_on HOK.out hc hg hO
  rw [hW, hCT] at hoff hon
  simp only at hoff hon
  obtain ⟨ca', co, ra1, rc1, hca, hcb, hx1, hr1⟩ := HRC.out.at (k := c) hc
  obtain ⟨rb, ro, rfl, hrb, x1, x2⟩ := hr1.at (k := g) (by rw [HOK.out.rl c hc]; exact hg)
  rw [hCT] at x1 x2
  simp only at x1 x2
  obtain ⟨lo, hlo⟩ : ∃ lo, max W1 o1 = lo := ⟨_, rfl⟩
  obtain ⟨hi, hhi⟩ : ∃ hi, min W2 o2 = hi := ⟨_, rfl⟩
  rw [hlo, hhi] at hoff hon
  have ci : (0 : Int) ≤ (c : Int) := by omega
  have cj : (c : Int) < (y.nc : Int) := by omega
  have gi : (0 : Int) ≤ (g : Int) := by omega
  have gj : (g : Int) < (y.ng : Int) := by omega
  have gk : (g : Int) < (y.rl c : Int) := by rw [HOK.out.rl c hc]; exact gj
  have HX := Lib.hid (And.intro hx1 (And.intro x1 x2)); have HCA := Lib.hid hca
  clear hx1 x1 x2 hr1 hca hCT hW
  by_cases hlh : lo ≤ hi
  · obtain ⟨hA, hBN⟩ := hon hlh
    have HBD := Lib.hid (HBO.out hA)
    have k0 := HA7.out.cell (.head _) 0
    have k1 := HA7.out.cell (.head _) 1
    have k2 := HA7.out.cell (.head _) 2
    have k3 := HA7.out.cell (.head _) 3
    go_wp2_with fail
    refine (HTB.out _ HB7.out).mono ?_
    rintro _ w8 ⟨v8, rfl, hl8, hb8⟩
    go_wp2_with fail
    refine (HBD.out _ _ hl8).mono ?_
    rintro _ w9 ⟨bv, rfl, hrows, hb9⟩
    obtain ⟨ba, bc, rfl⟩ := hrows.toIn.slice
    have HRW := Lib.hid hrows
    clear hrows
    have HB9 := Lib.hid (below_step hb8 hb9)
    clear k0 k1 k2 k3 hl8 hb8 hb9
    have HA9 := Lib.hid (HA7.out.below HB9.out)
    have k0 := HA9.out.cell (.head _) 0
    have k1 := HA9.out.cell (.head _) 1
    have k2 := HA9.out.cell (.head _) 2
    have k3 := HA9.out.cell (.head _) 3
    go_wp2_with fail
    refine (HTB.out _ (below_step HB7.out HB9.out)).mono ?_
    rintro _ w10 ⟨v10, rfl, hl10, hb10⟩
    have HA10 := Lib.hid (HA9.out.below hb10)
    have HB10 := Lib.hid (below_step HB9.out hb10)
    have HB10b := Lib.hid hb10
    clear k0 k1 k2 k3 hb10
    go_wp2_with fail
    refine (HWO.out _ _ c g hl10).mono ?_
    rintro e11 w11 hP
    unfold WouldP at hP
    rw [hE, hR] at hP
    obtain ⟨rfl, hb11⟩ := hP
    have HA11 := Lib.hid ((HA10.out.below hb11).alloc #[.int .i64 W1, .int .i64 W2] 29)
    have HBX : Hid (Below wr.heap.size wr (w11.alloc (.cells #[.int .i64 W1, .int .i64 W2] 29))) := below_step (below_step HB10.out hb11) (below_alloc _ _)
    have HBB : Hid (Below w9.heap.size w9 (w11.alloc (.cells #[.int .i64 W1, .int .i64 W2] 29))) := below_step (below_step HB10b.out hb11) (below_alloc _ _)
    clear hb11 hl10 hoff hon
    go_wp2_with fail
    have HC9 : Hid (∀ X, Below (w11.alloc (.cells #[.int .i64 W1, .int .i64 W2] 29)).heap.size (w11.alloc (.cells #[.int .i64 W1, .int .i64 W2] 29)) X → X.cell? ⟨w11.heap.size, 0, none⟩ = some (.int .i64 W1) ∧ X.cell? ⟨w11.heap.size, 1, none⟩ = some (.int .i64 W2) ∧ X.cell? ⟨w5.heap.size, 0, none⟩ = some (.slice (some ⟨ca', co, none⟩) y.nc v.cc) ∧ X.cell? ⟨ca', co + c, none⟩ = some (.slice (some ⟨rb, ro, none⟩) (y.rl c) rc1) ∧ X.cell? ⟨rb, ro + g * 2, none⟩ = some (.int .i64 o1) ∧ X.cell? ⟨rb, ro + g * 2 + 1, none⟩ = some (.int .i64 o2)) := fun X hX => by
      have hA := HA11.out.below hX
      have h5 := below_step (below_step HB7.out HBX.out) hX
      exact ⟨hA.cell (.head _) 0, hA.cell (.head _) 1, by rw [← HCA.out]; exact hA.cell (.tail _ (.head _)) 0, kept h5 hcb HX.out.1, kept h5 hrb HX.out.2.1, kept h5 hrb HX.out.2.2⟩
    go_cut [19, 20] (fun s19 s20 wx => s19 = .int .i64 lo ∧ s20 = .int .i64 hi ∧ Below (w11.alloc (.cells #[.int .i64 W1, .int .i64 W2] 29)).heap.size (w11.alloc (.cells #[.int .i64 W1, .int .i64 W2] 29)) wx)
    case first =>
      have HAX : Hid (Below (w11.alloc (.cells #[.int .i64 W1, .int .i64 W2] 29)).heap.size (w11.alloc (.cells #[.int .i64 W1, .int .i64 W2] 29)) (w11.alloc (.cells #[.int .i64 W1, .int .i64 W2] 29)).drew) := (Below.refl _ _).drew
      refine wp_region_held_drew (S := fun X => X.cell? ⟨w11.heap.size, 0, none⟩ = some (.int .i64 W1) ∧ X.cell? ⟨w11.heap.size, 1, none⟩ = some (.int .i64 W2) ∧ X.cell? ⟨w5.heap.size, 0, none⟩ = some (.slice (some ⟨ca', co, none⟩) y.nc v.cc) ∧ X.cell? ⟨ca', co + c, none⟩ = some (.slice (some ⟨rb, ro, none⟩) (y.rl c) rc1) ∧ X.cell? ⟨rb, ro + g * 2, none⟩ = some (.int .i64 o1) ∧ X.cell? ⟨rb, ro + g * 2 + 1, none⟩ = some (.int .i64 o2)) (by kernel_rfl) (HC9.out _ HAX.out) (fun hS => ?_)
      generalize (w11.alloc (.cells #[.int .i64 W1, .int .i64 W2] 29)).drew = X at *
      refine wpAnyH_take (i := 0) (oi := ⟨some 71, Op.fieldAddr 29 (Operand.tmp 17) 0, _, _, _, _⟩) (v := ?_) rfl (by kernel_rfl) (by kernel_rfl) (by kernel_rfl) (fun _ _ _ h => h) (Or.inl ⟨by rfl, ?_⟩) hS ?_
      rotate_left
      · rintro W' ⟨z0, z1, z2, z3, z4, z5⟩; go_simp; try with_reducible rfl
      try simp only [Act.put, putA, putZ, putS]
      refine wpAnyH_take (i := 1) (oi := ⟨some 72, Op.load 3 (Operand.tmp 71), _, _, _, _⟩) (v := ?_) rfl (by kernel_rfl) (by kernel_rfl) (by kernel_rfl) (fun _ _ _ h => h) (Or.inl ⟨by rfl, ?_⟩) hS ?_
      rotate_left
      · rintro W' ⟨z0, z1, z2, z3, z4, z5⟩; go_simp; try with_reducible rfl
      try simp only [Act.put, putA, putZ, putS]
      refine wpAnyH_take (i := 2) (oi := ⟨some 73, Op.fieldAddr 25 (Operand.tmp 9) 0, _, _, _, _⟩) (v := ?_) rfl (by kernel_rfl) (by kernel_rfl) (by kernel_rfl) (fun _ _ _ h => h) (Or.inl ⟨by rfl, ?_⟩) hS ?_
      rotate_left
      · rintro W' ⟨z0, z1, z2, z3, z4, z5⟩; go_simp; try with_reducible rfl
      try simp only [Act.put, putA, putZ, putS]
      refine wpAnyH_take (i := 3) (oi := ⟨some 74, Op.load 22 (Operand.tmp 73), _, _, _, _⟩) (v := ?_) rfl (by kernel_rfl) (by kernel_rfl) (by kernel_rfl) (fun _ _ _ h => h) (Or.inl ⟨by rfl, ?_⟩) hS ?_
      rotate_left
      · rintro W' ⟨z0, z1, z2, z3, z4, z5⟩; go_simp; try with_reducible rfl
      try simp only [Act.put, putA, putZ, putS]
      refine wpAnyH_take (i := 4) (oi := ⟨some 75, Op.move (Operand.tmp 13), _, _, _, _⟩) (v := ?_) rfl (by kernel_rfl) (by kernel_rfl) (by kernel_rfl) (fun _ _ _ h => h) (Or.inl ⟨by rfl, ?_⟩) hS ?_
      rotate_left
      · rintro W' ⟨z0, z1, z2, z3, z4, z5⟩; go_simp; try with_reducible rfl
      try simp only [Act.put, putA, putZ, putS]
      refine wpAnyH_take (i := 5) (oi := ⟨some 76, Op.indexAddr 22 (Operand.tmp 74) (Operand.tmp 75), _, _, _, _⟩) (v := ?_) rfl (by kernel_rfl) (by kernel_rfl) (by kernel_rfl) (fun _ _ _ h => h) (Or.inl ⟨by rfl, ?_⟩) hS ?_
      rotate_left
      · rintro W' ⟨z0, z1, z2, z3, z4, z5⟩; go_simp; try with_reducible rfl
      try simp only [Act.put, putA, putZ, putS]
      refine wpAnyH_take (i := 6) (oi := ⟨some 77, Op.load 23 (Operand.tmp 76), _, _, _, _⟩) (v := ?_) rfl (by kernel_rfl) (by kernel_rfl) (by kernel_rfl) (fun _ _ _ h => h) (Or.inl ⟨by rfl, ?_⟩) hS ?_
      rotate_left
      · rintro W' ⟨z0, z1, z2, z3, z4, z5⟩; go_simp; try with_reducible rfl
      try simp only [Act.put, putA, putZ, putS]
      refine wpAnyH_take (i := 7) (oi := ⟨some 78, Op.move (Operand.tmp 14), _, _, _, _⟩) (v := ?_) rfl (by kernel_rfl) (by kernel_rfl) (by kernel_rfl) (fun _ _ _ h => h) (Or.inl ⟨by rfl, ?_⟩) hS ?_
      rotate_left
      · rintro W' ⟨z0, z1, z2, z3, z4, z5⟩; go_simp; try with_reducible rfl
      try simp only [Act.put, putA, putZ, putS]
      refine wpAnyH_take (i := 8) (oi := ⟨some 79, Op.indexAddr 23 (Operand.tmp 77) (Operand.tmp 78), _, _, _, _⟩) (v := ?_) rfl (by kernel_rfl) (by kernel_rfl) (by kernel_rfl) (fun _ _ _ h => h) (Or.inl ⟨by rfl, ?_⟩) hS ?_
      rotate_left
      · rintro W' ⟨z0, z1, z2, z3, z4, z5⟩; go_simp; try with_reducible rfl
      try simp only [Act.put, putA, putZ, putS]
      refine wpAnyH_take (i := 9) (oi := ⟨some 80, Op.fieldAddr 43 (Operand.tmp 79) 0, _, _, _, _⟩) (v := ?_) rfl (by kernel_rfl) (by kernel_rfl) (by kernel_rfl) (fun _ _ _ h => h) (Or.inl ⟨by rfl, ?_⟩) hS ?_
      rotate_left
      · rintro W' ⟨z0, z1, z2, z3, z4, z5⟩; go_simp; try with_reducible rfl
      try simp only [Act.put, putA, putZ, putS]
      refine wpAnyH_take (i := 10) (oi := ⟨some 81, Op.load 3 (Operand.tmp 80), _, _, _, _⟩) (v := ?_) rfl (by kernel_rfl) (by kernel_rfl) (by kernel_rfl) (fun _ _ _ h => h) (Or.inl ⟨by rfl, ?_⟩) hS ?_
      rotate_left
      · rintro W' ⟨z0, z1, z2, z3, z4, z5⟩; go_simp; try with_reducible rfl
      try simp only [Act.put, putA, putZ, putS]
      refine wpAnyH_take (i := 11) (oi := ⟨some 82, Op.call { callee := Callee.builtin Builtin.max, args := #[Operand.tmp 72, Operand.tmp 81], argTypes := #[3, 3] }, _, _, _, _⟩) (v := .int .i64 lo) rfl (by kernel_rfl) (by kernel_rfl) (by kernel_rfl) (fun _ _ _ h => h) (Or.inl ⟨by rfl, ?_⟩) hS ?_
      · rintro W' ⟨z0, z1, z2, z3, z4, z5⟩; go_simp; (try (split <;> omega))
      try simp only [Act.put, putA, putZ, putS]
      refine wpAnyH_take (i := 12) (oi := ⟨some 83, Op.fieldAddr 29 (Operand.tmp 17) 1, _, _, _, _⟩) (v := ?_) rfl (by kernel_rfl) (by kernel_rfl) (by kernel_rfl) (fun _ _ _ h => h) (Or.inl ⟨by rfl, ?_⟩) hS ?_
      rotate_left
      · rintro W' ⟨z0, z1, z2, z3, z4, z5⟩; go_simp; try with_reducible rfl
      try simp only [Act.put, putA, putZ, putS]
      refine wpAnyH_take (i := 13) (oi := ⟨some 84, Op.load 3 (Operand.tmp 83), _, _, _, _⟩) (v := ?_) rfl (by kernel_rfl) (by kernel_rfl) (by kernel_rfl) (fun _ _ _ h => h) (Or.inl ⟨by rfl, ?_⟩) hS ?_
      rotate_left
      · rintro W' ⟨z0, z1, z2, z3, z4, z5⟩; go_simp; try with_reducible rfl
      try simp only [Act.put, putA, putZ, putS]
      refine wpAnyH_take (i := 14) (oi := ⟨some 85, Op.fieldAddr 25 (Operand.tmp 9) 0, _, _, _, _⟩) (v := ?_) rfl (by kernel_rfl) (by kernel_rfl) (by kernel_rfl) (fun _ _ _ h => h) (Or.inl ⟨by rfl, ?_⟩) hS ?_
      rotate_left
      · rintro W' ⟨z0, z1, z2, z3, z4, z5⟩; go_simp; try with_reducible rfl
      try simp only [Act.put, putA, putZ, putS]
      refine wpAnyH_take (i := 15) (oi := ⟨some 86, Op.load 22 (Operand.tmp 85), _, _, _, _⟩) (v := ?_) rfl (by kernel_rfl) (by kernel_rfl) (by kernel_rfl) (fun _ _ _ h => h) (Or.inl ⟨by rfl, ?_⟩) hS ?_
      rotate_left
      · rintro W' ⟨z0, z1, z2, z3, z4, z5⟩; go_simp; try with_reducible rfl
      try simp only [Act.put, putA, putZ, putS]
      refine wpAnyH_take (i := 16) (oi := ⟨some 87, Op.move (Operand.tmp 13), _, _, _, _⟩) (v := ?_) rfl (by kernel_rfl) (by kernel_rfl) (by kernel_rfl) (fun _ _ _ h => h) (Or.inl ⟨by rfl, ?_⟩) hS ?_
      rotate_left
      · rintro W' ⟨z0, z1, z2, z3, z4, z5⟩; go_simp; try with_reducible rfl
      try simp only [Act.put, putA, putZ, putS]
      refine wpAnyH_take (i := 17) (oi := ⟨some 88, Op.indexAddr 22 (Operand.tmp 86) (Operand.tmp 87), _, _, _, _⟩) (v := ?_) rfl (by kernel_rfl) (by kernel_rfl) (by kernel_rfl) (fun _ _ _ h => h) (Or.inl ⟨by rfl, ?_⟩) hS ?_
      rotate_left
      · rintro W' ⟨z0, z1, z2, z3, z4, z5⟩; go_simp; try with_reducible rfl
      try simp only [Act.put, putA, putZ, putS]
      refine wpAnyH_take (i := 18) (oi := ⟨some 89, Op.load 23 (Operand.tmp 88), _, _, _, _⟩) (v := ?_) rfl (by kernel_rfl) (by kernel_rfl) (by kernel_rfl) (fun _ _ _ h => h) (Or.inl ⟨by rfl, ?_⟩) hS ?_
      rotate_left
      · rintro W' ⟨z0, z1, z2, z3, z4, z5⟩; go_simp; try with_reducible rfl
      try simp only [Act.put, putA, putZ, putS]
      refine wpAnyH_take (i := 19) (oi := ⟨some 90, Op.move (Operand.tmp 14), _, _, _, _⟩) (v := ?_) rfl (by kernel_rfl) (by kernel_rfl) (by kernel_rfl) (fun _ _ _ h => h) (Or.inl ⟨by rfl, ?_⟩) hS ?_
      rotate_left
      · rintro W' ⟨z0, z1, z2, z3, z4, z5⟩; go_simp; try with_reducible rfl
      try simp only [Act.put, putA, putZ, putS]
      refine wpAnyH_take (i := 20) (oi := ⟨some 91, Op.indexAddr 23 (Operand.tmp 89) (Operand.tmp 90), _, _, _, _⟩) (v := ?_) rfl (by kernel_rfl) (by kernel_rfl) (by kernel_rfl) (fun _ _ _ h => h) (Or.inl ⟨by rfl, ?_⟩) hS ?_
      rotate_left
      · rintro W' ⟨z0, z1, z2, z3, z4, z5⟩; go_simp; try with_reducible rfl
      try simp only [Act.put, putA, putZ, putS]
      refine wpAnyH_take (i := 21) (oi := ⟨some 92, Op.fieldAddr 43 (Operand.tmp 91) 1, _, _, _, _⟩) (v := ?_) rfl (by kernel_rfl) (by kernel_rfl) (by kernel_rfl) (fun _ _ _ h => h) (Or.inl ⟨by rfl, ?_⟩) hS ?_
      rotate_left
      · rintro W' ⟨z0, z1, z2, z3, z4, z5⟩; go_simp; try with_reducible rfl
      try simp only [Act.put, putA, putZ, putS]
      refine wpAnyH_take (i := 22) (oi := ⟨some 93, Op.load 3 (Operand.tmp 92), _, _, _, _⟩) (v := ?_) rfl (by kernel_rfl) (by kernel_rfl) (by kernel_rfl) (fun _ _ _ h => h) (Or.inl ⟨by rfl, ?_⟩) hS ?_
      rotate_left
      · rintro W' ⟨z0, z1, z2, z3, z4, z5⟩; go_simp; try with_reducible rfl
      try simp only [Act.put, putA, putZ, putS]
      refine wpAnyH_take (i := 23) (oi := ⟨some 94, Op.call { callee := Callee.builtin Builtin.min, args := #[Operand.tmp 84, Operand.tmp 93], argTypes := #[3, 3] }, _, _, _, _⟩) (v := .int .i64 hi) rfl (by kernel_rfl) (by kernel_rfl) (by kernel_rfl) (fun _ _ _ h => h) (Or.inl ⟨by rfl, ?_⟩) hS ?_
      · rintro W' ⟨z0, z1, z2, z3, z4, z5⟩; go_simp; (try (split <;> omega))
      try simp only [Act.put, putA, putZ, putS]
      refine wpAnyH_take (i := 24) (oi := ⟨some 19, Op.assign (Operand.tmp 82), _, _, _, _⟩) (v := ?_) rfl (by kernel_rfl) (by kernel_rfl) (by kernel_rfl) (fun _ _ _ h => h) (Or.inl ⟨by rfl, ?_⟩) hS ?_
      rotate_left
      · rintro W' ⟨z0, z1, z2, z3, z4, z5⟩; go_simp; try with_reducible rfl
      try simp only [Act.put, putA, putZ, putS]
      refine wpAnyH_take (i := 25) (oi := ⟨some 20, Op.assign (Operand.tmp 94), _, _, _, _⟩) (v := ?_) rfl (by kernel_rfl) (by kernel_rfl) (by kernel_rfl) (fun _ _ _ h => h) (Or.inl ⟨by rfl, ?_⟩) hS ?_
      rotate_left
      · rintro W' ⟨z0, z1, z2, z3, z4, z5⟩; go_simp; try with_reducible rfl
      try simp only [Act.put, putA, putZ, putS]
      refine wpAnyH_done (by kernel_rfl) ?_ _
      go_wp2_with fail
      go_meet
      exact ⟨rfl, rfl, HAX.out⟩
    rename World => wz
    obtain ⟨rfl, rfl, hbz⟩ := hcut
    have HA11 := Lib.hid (HA11.out.below hbz)
    have HBZ := Lib.hid (below_step HBB.out hbz)
    clear hbz HC9 HBX
    go_wp2_with fail
    obtain ⟨bb, bo, rb2, rc2, rfl, hbb, hx2, hr2⟩ := HRW.out.at (k := c) hc
    obtain ⟨rb3, ro3, rfl, hrb3, x3, x4⟩ := hr2.toIn.at (k := g) hg
    rw [hBN] at x3 x4
    simp only at x3 x4
    have hbtw : ∀ X, Calls Try.prog 41 #[.int .i64 lo, .int .i64 hi] X fun e w' => e = .returned (.agg #[.int .i64 lo, .int .i64 hi]) ∧ Below X.heap.size X w' := fun X => between_any lo hi X
    have hnq : ∀ W, (binOp .eql 29 (.agg #[.int .i64 lo, .int .i64 hi]) (.agg #[.int .i64 lo, .int .i64 hi])).run Try.prog W = .ok (.bool true) W := eq_range_ok lo hi
    have HC12 : Hid (∀ X, Below wz.heap.size wz X → X.cell? ⟨w5.heap.size, 0, none⟩ = some (.slice v.ca y.nc v.cc) ∧ X.cell? ⟨w5.heap.size, 1, none⟩ = some (.slice v.ba y.nb v.bc) ∧ X.cell? ⟨w5.heap.size, 2, none⟩ = some (.slice v.ra y.nr v.rc) ∧ X.cell? ⟨w5.heap.size, 3, none⟩ = some (.slice v.na y.nn v.nc) ∧ X.cell? ⟨bb, bo + c, none⟩ = some (.slice (some ⟨rb3, ro3, none⟩) y.ng rc2) ∧ X.cell? ⟨rb3, ro3 + g * 2, none⟩ = some (.int .i64 lo) ∧ X.cell? ⟨rb3, ro3 + g * 2 + 1, none⟩ = some (.int .i64 hi)) := fun X hX => by
      have h9 := below_step HBZ.out hX
      have hA := HA11.out.below hX
      exact ⟨hA.cell (.tail _ (.head _)) 0, hA.cell (.tail _ (.head _)) 1, hA.cell (.tail _ (.head _)) 2, hA.cell (.tail _ (.head _)) 3, kept h9 hbb hx2, kept h9 hrb3 x3, kept h9 hrb3 x4⟩
    have HBW := Lib.hid (below_step (below_step HB7.out HB9.out) HBZ.out)
    clear hbb hrb3 hx2 x3 x4 hr2
    have HAX : Hid (Below wz.heap.size wz wz.drew) := (Below.refl _ _).drew
    refine wp_region_held_drew (S := fun X => X.cell? ⟨w5.heap.size, 0, none⟩ = some (.slice v.ca y.nc v.cc) ∧ X.cell? ⟨w5.heap.size, 1, none⟩ = some (.slice v.ba y.nb v.bc) ∧ X.cell? ⟨w5.heap.size, 2, none⟩ = some (.slice v.ra y.nr v.rc) ∧ X.cell? ⟨w5.heap.size, 3, none⟩ = some (.slice v.na y.nn v.nc) ∧ X.cell? ⟨bb, bo + c, none⟩ = some (.slice (some ⟨rb3, ro3, none⟩) y.ng rc2) ∧ X.cell? ⟨rb3, ro3 + g * 2, none⟩ = some (.int .i64 lo) ∧ X.cell? ⟨rb3, ro3 + g * 2 + 1, none⟩ = some (.int .i64 hi)) (by kernel_rfl) (HC12.out _ HAX.out) (fun hS => ?_)
    generalize wz.drew = X at *
    refine wpAnyH_take (i := 0) (oi := ⟨some 103, Op.move (Operand.tmp 16), _, _, _, _⟩) (v := ?_) rfl (by kernel_rfl) (by kernel_rfl) (by kernel_rfl) (fun _ _ _ h => h) (Or.inl ⟨by rfl, ?_⟩) hS ?_
    rotate_left
    · rintro W' ⟨z0, z1, z2, z3, z4, z5, z6⟩; go_simp; try with_reducible rfl
    try simp only [Act.put, putA, putZ, putS]
    refine wpAnyH_take (i := 1) (oi := ⟨some 104, Op.binOp BinOp.eql 30 (Operand.tmp 103) (Operand.const (Value.int IntKind.i64 0)) 30, _, _, _, _⟩) (v := .bool true) rfl (by kernel_rfl) (by kernel_rfl) (by kernel_rfl) (fun _ _ _ h => h) (Or.inl ⟨by rfl, ?_⟩) hS ?_
    · rintro W' ⟨z0, z1, z2, z3, z4, z5, z6⟩; go_simp; try omega
    try simp only [Act.put, putA, putZ, putS]
    refine wpAnyH_take (i := 2) (oi := ⟨some 105, Op.move (Operand.tmp 104), _, _, _, _⟩) (v := .bool true) rfl (by kernel_rfl) (by kernel_rfl) (by kernel_rfl) (fun _ _ _ h => h) (Or.inl ⟨by rfl, ?_⟩) hS ?_
    · rintro W' ⟨z0, z1, z2, z3, z4, z5, z6⟩; go_simp; try omega
    try simp only [Act.put, putA, putZ, putS]
    refine wpAnyH_take (i := 3) (oi := ⟨some 106, Op.move (Operand.tmp 15), _, _, _, _⟩) (v := ?_) rfl (by kernel_rfl) (by kernel_rfl) (by kernel_rfl) (fun _ _ _ h => h) (Or.inl ⟨by rfl, ?_⟩) hS ?_
    rotate_left
    · rintro W' ⟨z0, z1, z2, z3, z4, z5, z6⟩; go_simp; try with_reducible rfl
    try simp only [Act.put, putA, putZ, putS]
    refine wpAnyH_take (i := 4) (oi := ⟨some 107, Op.call { callee := Callee.builtin Builtin.len, args := #[Operand.tmp 106], argTypes := #[33] }, _, _, _, _⟩) (v := ?_) rfl (by kernel_rfl) (by kernel_rfl) (by kernel_rfl) (fun _ _ _ h => h) (Or.inl ⟨by rfl, ?_⟩) hS ?_
    rotate_left
    · rintro W' ⟨z0, z1, z2, z3, z4, z5, z6⟩; go_simp; try with_reducible rfl
    try simp only [Act.put, putA, putZ, putS]
    refine wpAnyH_take (i := 5) (oi := ⟨some 108, Op.fieldAddr 25 (Operand.tmp 9) 0, _, _, _, _⟩) (v := ?_) rfl (by kernel_rfl) (by kernel_rfl) (by kernel_rfl) (fun _ _ _ h => h) (Or.inl ⟨by rfl, ?_⟩) hS ?_
    rotate_left
    · rintro W' ⟨z0, z1, z2, z3, z4, z5, z6⟩; go_simp; try with_reducible rfl
    try simp only [Act.put, putA, putZ, putS]
    refine wpAnyH_take (i := 6) (oi := ⟨some 109, Op.load 22 (Operand.tmp 108), _, _, _, _⟩) (v := ?_) rfl (by kernel_rfl) (by kernel_rfl) (by kernel_rfl) (fun _ _ _ h => h) (Or.inl ⟨by rfl, ?_⟩) hS ?_
    rotate_left
    · rintro W' ⟨z0, z1, z2, z3, z4, z5, z6⟩; go_simp; try with_reducible rfl
    try simp only [Act.put, putA, putZ, putS]
    refine wpAnyH_take (i := 7) (oi := ⟨some 110, Op.call { callee := Callee.builtin Builtin.len, args := #[Operand.tmp 109], argTypes := #[22] }, _, _, _, _⟩) (v := ?_) rfl (by kernel_rfl) (by kernel_rfl) (by kernel_rfl) (fun _ _ _ h => h) (Or.inl ⟨by rfl, ?_⟩) hS ?_
    rotate_left
    · rintro W' ⟨z0, z1, z2, z3, z4, z5, z6⟩; go_simp; try with_reducible rfl
    try simp only [Act.put, putA, putZ, putS]
    refine wpAnyH_take (i := 8) (oi := ⟨some 111, Op.binOp BinOp.eql 3 (Operand.tmp 107) (Operand.tmp 110) 3, _, _, _, _⟩) (v := .bool true) rfl (by kernel_rfl) (by kernel_rfl) (by kernel_rfl) (fun _ _ _ h => h) (Or.inl ⟨by rfl, ?_⟩) hS ?_
    · rintro W' ⟨z0, z1, z2, z3, z4, z5, z6⟩; go_simp; try omega
    try simp only [Act.put, putA, putZ, putS]
    refine wpAnyH_take (i := 9) (oi := ⟨some 112, Op.pick (Operand.tmp 105) (Operand.tmp 111) (Operand.const (Value.bool false)), _, _, _, _⟩) (v := .bool true) rfl (by kernel_rfl) (by kernel_rfl) (by kernel_rfl) (fun _ _ _ h => h) (Or.inl ⟨by rfl, ?_⟩) hS ?_
    · rintro W' ⟨z0, z1, z2, z3, z4, z5, z6⟩; go_simp; try omega
    try simp only [Act.put, putA, putZ, putS]
    refine wpAnyH_take (i := 10) (oi := ⟨some 113, Op.move (Operand.tmp 112), _, _, _, _⟩) (v := .bool true) rfl (by kernel_rfl) (by kernel_rfl) (by kernel_rfl) (fun _ _ _ h => h) (Or.inl ⟨by rfl, ?_⟩) hS ?_
    · rintro W' ⟨z0, z1, z2, z3, z4, z5, z6⟩; go_simp; try omega
    try simp only [Act.put, putA, putZ, putS]
    refine wpAnyH_take (i := 11) (oi := ⟨some 114, Op.move (Operand.tmp 15), _, _, _, _⟩) (v := ?_) rfl (by kernel_rfl) (by kernel_rfl) (by kernel_rfl) (fun _ _ _ h => h) (Or.inl ⟨by rfl, ?_⟩) hS ?_
    rotate_left
    · rintro W' ⟨z0, z1, z2, z3, z4, z5, z6⟩; go_simp; try with_reducible rfl
    try simp only [Act.put, putA, putZ, putS]
    refine wpAnyH_take (i := 12) (oi := ⟨some 115, Op.move (Operand.tmp 13), _, _, _, _⟩) (v := ?_) rfl (by kernel_rfl) (by kernel_rfl) (by kernel_rfl) (fun _ _ _ h => h) (Or.inl ⟨by rfl, ?_⟩) hS ?_
    rotate_left
    · rintro W' ⟨z0, z1, z2, z3, z4, z5, z6⟩; go_simp; try with_reducible rfl
    try simp only [Act.put, putA, putZ, putS]
    refine wpAnyH_take (i := 13) (oi := ⟨some 116, Op.indexAddr 33 (Operand.tmp 114) (Operand.tmp 115), _, _, _, _⟩) (v := ?_) rfl (by kernel_rfl) (by kernel_rfl) (by kernel_rfl) (fun _ _ _ h => h) (Or.inl ⟨by rfl, ?_⟩) hS ?_
    rotate_left
    · rintro W' ⟨z0, z1, z2, z3, z4, z5, z6⟩; go_simp; try with_reducible rfl
    try simp only [Act.put, putA, putZ, putS]
    refine wpAnyH_take (i := 14) (oi := ⟨some 117, Op.load 34 (Operand.tmp 116), _, _, _, _⟩) (v := ?_) rfl (by kernel_rfl) (by kernel_rfl) (by kernel_rfl) (fun _ _ _ h => h) (Or.inl ⟨by rfl, ?_⟩) hS ?_
    rotate_left
    · rintro W' ⟨z0, z1, z2, z3, z4, z5, z6⟩; go_simp; try with_reducible rfl
    try simp only [Act.put, putA, putZ, putS]
    refine wpAnyH_take (i := 15) (oi := ⟨some 118, Op.call { callee := Callee.builtin Builtin.len, args := #[Operand.tmp 117], argTypes := #[34] }, _, _, _, _⟩) (v := ?_) rfl (by kernel_rfl) (by kernel_rfl) (by kernel_rfl) (fun _ _ _ h => h) (Or.inl ⟨by rfl, ?_⟩) hS ?_
    rotate_left
    · rintro W' ⟨z0, z1, z2, z3, z4, z5, z6⟩; go_simp; try with_reducible rfl
    try simp only [Act.put, putA, putZ, putS]
    refine wpAnyH_take (i := 16) (oi := ⟨some 119, Op.load 25 (Operand.tmp 9), _, _, _, _⟩) (v := ?_) rfl (by kernel_rfl) (by kernel_rfl) (by kernel_rfl) (fun _ _ _ h => h) (Or.inl ⟨by rfl, ?_⟩) hS ?_
    rotate_left
    · rintro W' ⟨z0, z1, z2, z3, z4, z5, z6⟩; go_simp; try with_reducible rfl
    try simp only [Act.put, putA, putZ, putS]
    refine wpAnyH_ready (rs := [17]) (by kernel_rfl) (by simp) ?_
    refine AllReadyH.cons (o := ⟨some 120, Op.call { callee := Callee.value (Operand.func 23), args := #[Operand.tmp 119], argTypes := #[25] }, _, _, _, _⟩) rfl (fun K hK => ?_) ?_
    ·
      go_simp
      refine (HGR.out _ (below_step HBW.out HAX.out)).mono ?_
      rintro _ X0 ⟨rfl, hb0⟩
      (try go_wp2_with fail)
      have HA0 := Lib.hid (below_step HAX.out hb0)
      refine hK.out _ _ (HC12.out X0 HA0.out) (fun hS => ?_)
      clear hK K
      try simp only [Act.put, putA, putZ, putS]
      clear hb0
      refine wpAnyH_take (i := 18) (oi := ⟨some 121, Op.binOp BinOp.eql 3 (Operand.tmp 118) (Operand.tmp 120) 3, _, _, _, _⟩) (v := .bool true) rfl (by kernel_rfl) (by kernel_rfl) (by kernel_rfl) (fun _ _ _ h => h) (Or.inl ⟨by rfl, ?_⟩) hS ?_
      · rintro W' ⟨z0, z1, z2, z3, z4, z5, z6⟩; go_simp; try omega
      try simp only [Act.put, putA, putZ, putS]
      refine wpAnyH_take (i := 19) (oi := ⟨some 122, Op.pick (Operand.tmp 113) (Operand.tmp 121) (Operand.const (Value.bool false)), _, _, _, _⟩) (v := .bool true) rfl (by kernel_rfl) (by kernel_rfl) (by kernel_rfl) (fun _ _ _ h => h) (Or.inl ⟨by rfl, ?_⟩) hS ?_
      · rintro W' ⟨z0, z1, z2, z3, z4, z5, z6⟩; go_simp; try omega
      try simp only [Act.put, putA, putZ, putS]
      refine wpAnyH_take (i := 20) (oi := ⟨some 123, Op.move (Operand.tmp 122), _, _, _, _⟩) (v := .bool true) rfl (by kernel_rfl) (by kernel_rfl) (by kernel_rfl) (fun _ _ _ h => h) (Or.inl ⟨by rfl, ?_⟩) hS ?_
      · rintro W' ⟨z0, z1, z2, z3, z4, z5, z6⟩; go_simp; try omega
      try simp only [Act.put, putA, putZ, putS]
      refine wpAnyH_take (i := 21) (oi := ⟨some 124, Op.move (Operand.tmp 15), _, _, _, _⟩) (v := ?_) rfl (by kernel_rfl) (by kernel_rfl) (by kernel_rfl) (fun _ _ _ h => h) (Or.inl ⟨by rfl, ?_⟩) hS ?_
      rotate_left
      · rintro W' ⟨z0, z1, z2, z3, z4, z5, z6⟩; go_simp; try with_reducible rfl
      try simp only [Act.put, putA, putZ, putS]
      refine wpAnyH_take (i := 22) (oi := ⟨some 125, Op.move (Operand.tmp 13), _, _, _, _⟩) (v := ?_) rfl (by kernel_rfl) (by kernel_rfl) (by kernel_rfl) (fun _ _ _ h => h) (Or.inl ⟨by rfl, ?_⟩) hS ?_
      rotate_left
      · rintro W' ⟨z0, z1, z2, z3, z4, z5, z6⟩; go_simp; try with_reducible rfl
      try simp only [Act.put, putA, putZ, putS]
      refine wpAnyH_take (i := 23) (oi := ⟨some 126, Op.indexAddr 33 (Operand.tmp 124) (Operand.tmp 125), _, _, _, _⟩) (v := ?_) rfl (by kernel_rfl) (by kernel_rfl) (by kernel_rfl) (fun _ _ _ h => h) (Or.inl ⟨by rfl, ?_⟩) hS ?_
      rotate_left
      · rintro W' ⟨z0, z1, z2, z3, z4, z5, z6⟩; go_simp; try with_reducible rfl
      try simp only [Act.put, putA, putZ, putS]
      refine wpAnyH_take (i := 24) (oi := ⟨some 127, Op.load 34 (Operand.tmp 126), _, _, _, _⟩) (v := ?_) rfl (by kernel_rfl) (by kernel_rfl) (by kernel_rfl) (fun _ _ _ h => h) (Or.inl ⟨by rfl, ?_⟩) hS ?_
      rotate_left
      · rintro W' ⟨z0, z1, z2, z3, z4, z5, z6⟩; go_simp; try with_reducible rfl
      try simp only [Act.put, putA, putZ, putS]
      refine wpAnyH_take (i := 25) (oi := ⟨some 128, Op.move (Operand.tmp 14), _, _, _, _⟩) (v := ?_) rfl (by kernel_rfl) (by kernel_rfl) (by kernel_rfl) (fun _ _ _ h => h) (Or.inl ⟨by rfl, ?_⟩) hS ?_
      rotate_left
      · rintro W' ⟨z0, z1, z2, z3, z4, z5, z6⟩; go_simp; try with_reducible rfl
      try simp only [Act.put, putA, putZ, putS]
      refine wpAnyH_take (i := 26) (oi := ⟨some 129, Op.indexAddr 34 (Operand.tmp 127) (Operand.tmp 128), _, _, _, _⟩) (v := ?_) rfl (by kernel_rfl) (by kernel_rfl) (by kernel_rfl) (fun _ _ _ h => h) (Or.inl ⟨by rfl, ?_⟩) hS ?_
      rotate_left
      · rintro W' ⟨z0, z1, z2, z3, z4, z5, z6⟩; go_simp; try with_reducible rfl
      try simp only [Act.put, putA, putZ, putS]
      refine wpAnyH_take (i := 27) (oi := ⟨some 130, Op.load 29 (Operand.tmp 129), _, _, _, _⟩) (v := ?_) rfl (by kernel_rfl) (by kernel_rfl) (by kernel_rfl) (fun _ _ _ h => h) (Or.inl ⟨by rfl, ?_⟩) hS ?_
      rotate_left
      · rintro W' ⟨z0, z1, z2, z3, z4, z5, z6⟩; go_simp; try with_reducible rfl
      try simp only [Act.put, putA, putZ, putS]
      refine wpAnyH_take (i := 28) (oi := ⟨some 131, Op.move (Operand.tmp 19), _, _, _, _⟩) (v := ?_) rfl (by kernel_rfl) (by kernel_rfl) (by kernel_rfl) (fun _ _ _ h => h) (Or.inl ⟨by rfl, ?_⟩) hS ?_
      rotate_left
      · rintro W' ⟨z0, z1, z2, z3, z4, z5, z6⟩; go_simp; try with_reducible rfl
      try simp only [Act.put, putA, putZ, putS]
      refine wpAnyH_take (i := 29) (oi := ⟨some 132, Op.move (Operand.tmp 20), _, _, _, _⟩) (v := ?_) rfl (by kernel_rfl) (by kernel_rfl) (by kernel_rfl) (fun _ _ _ h => h) (Or.inl ⟨by rfl, ?_⟩) hS ?_
      rotate_left
      · rintro W' ⟨z0, z1, z2, z3, z4, z5, z6⟩; go_simp; try with_reducible rfl
      try simp only [Act.put, putA, putZ, putS]
      refine wpAnyH_ready (rs := [30]) (by kernel_rfl) (by simp) ?_
      refine AllReadyH.cons (o := ⟨some 133, Op.call { callee := Callee.value (Operand.func 41), args := #[Operand.tmp 131, Operand.tmp 132], argTypes := #[3, 3] }, _, _, _, _⟩) rfl (fun K hK => ?_) ?_
      ·
        go_simp
        refine (hbtw X0).mono ?_
        rintro _ X1 ⟨rfl, hb1⟩
        (try go_wp2_with fail)
        have HA1 := Lib.hid (below_step HA0.out hb1)
        refine hK.out _ _ (HC12.out X1 HA1.out) (fun hS => ?_)
        clear hK K
        try simp only [Act.put, putA, putZ, putS]
        clear hb1
        refine wpAnyH_take (i := 31) (oi := ⟨some 134, Op.binOp BinOp.eql 29 (Operand.tmp 130) (Operand.tmp 133) 29, _, _, _, _⟩) (v := .bool true) rfl (by kernel_rfl) (by kernel_rfl) (by kernel_rfl) (fun _ _ _ h => h) (Or.inl ⟨by rfl, ?_⟩) hS ?_
        · rintro W' ⟨z0, z1, z2, z3, z4, z5, z6⟩; go_simp; (try simp [hnq])
        try simp only [Act.put, putA, putZ, putS]
        refine wpAnyH_take (i := 32) (oi := ⟨some 135, Op.pick (Operand.tmp 123) (Operand.tmp 134) (Operand.const (Value.bool false)), _, _, _, _⟩) (v := .bool true) rfl (by kernel_rfl) (by kernel_rfl) (by kernel_rfl) (fun _ _ _ h => h) (Or.inl ⟨by rfl, ?_⟩) hS ?_
        · rintro W' ⟨z0, z1, z2, z3, z4, z5, z6⟩; go_simp; try omega
        try simp only [Act.put, putA, putZ, putS]
        refine wpAnyH_take (i := 33) (oi := ⟨some 136, Op.move (Operand.tmp 135), _, _, _, _⟩) (v := .bool true) rfl (by kernel_rfl) (by kernel_rfl) (by kernel_rfl) (fun _ _ _ h => h) (Or.inl ⟨by rfl, ?_⟩) hS ?_
        · rintro W' ⟨z0, z1, z2, z3, z4, z5, z6⟩; go_simp; try omega
        try simp only [Act.put, putA, putZ, putS]
        refine wpAnyH_ready (rs := [34]) (by kernel_rfl) (by simp) ?_
        refine AllReadyH.cons (o := ⟨some 137, Op.call { callee := Callee.value (Operand.func 18), args := #[], argTypes := #[] }, _, _, _, _⟩) rfl (fun K hK => ?_) ?_
        ·
          go_simp
          refine (HAW.out X1).mono ?_
          rintro _ X2 ⟨rfl, hb2⟩
          (try go_wp2_with fail)
          have HA2 := Lib.hid (below_step HA1.out hb2)
          refine hK.out _ _ (HC12.out X2 HA2.out) (fun hS => ?_)
          clear hK K
          try simp only [Act.put, putA, putZ, putS]
          clear hb2
          refine wpAnyH_take (i := 35) (oi := ⟨some 138, Op.pick (Operand.tmp 136) (Operand.tmp 137) (Operand.const (Value.bool false)), _, _, _, _⟩) (v := .bool true) rfl (by kernel_rfl) (by kernel_rfl) (by kernel_rfl) (fun _ _ _ h => h) (Or.inl ⟨by rfl, ?_⟩) hS ?_
          · rintro W' ⟨z0, z1, z2, z3, z4, z5, z6⟩; go_simp; try omega
          try simp only [Act.put, putA, putZ, putS]
          refine wpAnyH_take (i := 36) (oi := ⟨some 8, Op.assign (Operand.tmp 138), _, _, _, _⟩) (v := ?_) rfl (by kernel_rfl) (by kernel_rfl) (by kernel_rfl) (fun _ _ _ h => h) (Or.inl ⟨by rfl, ?_⟩) hS ?_
          rotate_left
          · rintro W' ⟨z0, z1, z2, z3, z4, z5, z6⟩; go_simp; try with_reducible rfl
          try simp only [Act.put, putA, putZ, putS]
          refine wpAnyH_done (by kernel_rfl) ?_ _
          go_wp2_with fail
          go_ret
          exact ⟨rfl, (HA11.out.below HA2.out).fr⟩
        exact AllReadyH.nil
      exact AllReadyH.nil
    exact AllReadyH.nil
  · have hA := hoff (by omega)
    have HBD := Lib.hid (HBN.out hA)
    have k0 := HA7.out.cell (.head _) 0
    have k1 := HA7.out.cell (.head _) 1
    have k2 := HA7.out.cell (.head _) 2
    have k3 := HA7.out.cell (.head _) 3
    go_wp2_with fail
    refine (HTB.out _ HB7.out).mono ?_
    rintro _ w8 ⟨v8, rfl, hl8, hb8⟩
    go_wp2_with fail
    refine (HBD.out _ _ hl8).mono ?_
    rintro _ w9 ⟨rfl, hb9⟩
    have HB9 := Lib.hid (below_step hb8 hb9)
    clear k0 k1 k2 k3 hl8 hb8 hb9
    have HA9 := Lib.hid (HA7.out.below HB9.out)
    have k0 := HA9.out.cell (.head _) 0
    have k1 := HA9.out.cell (.head _) 1
    have k2 := HA9.out.cell (.head _) 2
    have k3 := HA9.out.cell (.head _) 3
    go_wp2_with fail
    refine (HTB.out _ (below_step HB7.out HB9.out)).mono ?_
    rintro _ w10 ⟨v10, rfl, hl10, hb10⟩
    have HA10 := Lib.hid (HA9.out.below hb10)
    have HB10 := Lib.hid (below_step HB9.out hb10)
    clear k0 k1 k2 k3 hb10
    go_wp2_with fail
    refine (HWO.out _ _ c g hl10).mono ?_
    rintro e11 w11 hP
    unfold WouldP at hP
    rw [hE, hR] at hP
    obtain ⟨rfl, hb11⟩ := hP
    have HA11 := Lib.hid ((HA10.out.below hb11).alloc #[.int .i64 W1, .int .i64 W2] 29)
    have HBX : Hid (Below wr.heap.size wr (w11.alloc (.cells #[.int .i64 W1, .int .i64 W2] 29))) := below_step (below_step HB10.out hb11) (below_alloc _ _)
    clear hb11 hl10 hoff hon
    go_wp2_with fail
    have HC9 : Hid (∀ X, Below (w11.alloc (.cells #[.int .i64 W1, .int .i64 W2] 29)).heap.size (w11.alloc (.cells #[.int .i64 W1, .int .i64 W2] 29)) X → X.cell? ⟨w11.heap.size, 0, none⟩ = some (.int .i64 W1) ∧ X.cell? ⟨w11.heap.size, 1, none⟩ = some (.int .i64 W2) ∧ X.cell? ⟨w5.heap.size, 0, none⟩ = some (.slice (some ⟨ca', co, none⟩) y.nc v.cc) ∧ X.cell? ⟨ca', co + c, none⟩ = some (.slice (some ⟨rb, ro, none⟩) (y.rl c) rc1) ∧ X.cell? ⟨rb, ro + g * 2, none⟩ = some (.int .i64 o1) ∧ X.cell? ⟨rb, ro + g * 2 + 1, none⟩ = some (.int .i64 o2)) := fun X hX => by
      have hA := HA11.out.below hX
      have h5 := below_step (below_step HB7.out HBX.out) hX
      exact ⟨hA.cell (.head _) 0, hA.cell (.head _) 1, by rw [← HCA.out]; exact hA.cell (.tail _ (.head _)) 0, kept h5 hcb HX.out.1, kept h5 hrb HX.out.2.1, kept h5 hrb HX.out.2.2⟩
    go_cut [19, 20] (fun s19 s20 wx => s19 = .int .i64 lo ∧ s20 = .int .i64 hi ∧ Below (w11.alloc (.cells #[.int .i64 W1, .int .i64 W2] 29)).heap.size (w11.alloc (.cells #[.int .i64 W1, .int .i64 W2] 29)) wx)
    case first =>
      have HAX : Hid (Below (w11.alloc (.cells #[.int .i64 W1, .int .i64 W2] 29)).heap.size (w11.alloc (.cells #[.int .i64 W1, .int .i64 W2] 29)) (w11.alloc (.cells #[.int .i64 W1, .int .i64 W2] 29)).drew) := (Below.refl _ _).drew
      refine wp_region_held_drew (S := fun X => X.cell? ⟨w11.heap.size, 0, none⟩ = some (.int .i64 W1) ∧ X.cell? ⟨w11.heap.size, 1, none⟩ = some (.int .i64 W2) ∧ X.cell? ⟨w5.heap.size, 0, none⟩ = some (.slice (some ⟨ca', co, none⟩) y.nc v.cc) ∧ X.cell? ⟨ca', co + c, none⟩ = some (.slice (some ⟨rb, ro, none⟩) (y.rl c) rc1) ∧ X.cell? ⟨rb, ro + g * 2, none⟩ = some (.int .i64 o1) ∧ X.cell? ⟨rb, ro + g * 2 + 1, none⟩ = some (.int .i64 o2)) (by kernel_rfl) (HC9.out _ HAX.out) (fun hS => ?_)
      generalize (w11.alloc (.cells #[.int .i64 W1, .int .i64 W2] 29)).drew = X at *
      refine wpAnyH_take (i := 0) (oi := ⟨some 71, Op.fieldAddr 29 (Operand.tmp 17) 0, _, _, _, _⟩) (v := ?_) rfl (by kernel_rfl) (by kernel_rfl) (by kernel_rfl) (fun _ _ _ h => h) (Or.inl ⟨by rfl, ?_⟩) hS ?_
      rotate_left
      · rintro W' ⟨z0, z1, z2, z3, z4, z5⟩; go_simp; try with_reducible rfl
      try simp only [Act.put, putA, putZ, putS]
      refine wpAnyH_take (i := 1) (oi := ⟨some 72, Op.load 3 (Operand.tmp 71), _, _, _, _⟩) (v := ?_) rfl (by kernel_rfl) (by kernel_rfl) (by kernel_rfl) (fun _ _ _ h => h) (Or.inl ⟨by rfl, ?_⟩) hS ?_
      rotate_left
      · rintro W' ⟨z0, z1, z2, z3, z4, z5⟩; go_simp; try with_reducible rfl
      try simp only [Act.put, putA, putZ, putS]
      refine wpAnyH_take (i := 2) (oi := ⟨some 73, Op.fieldAddr 25 (Operand.tmp 9) 0, _, _, _, _⟩) (v := ?_) rfl (by kernel_rfl) (by kernel_rfl) (by kernel_rfl) (fun _ _ _ h => h) (Or.inl ⟨by rfl, ?_⟩) hS ?_
      rotate_left
      · rintro W' ⟨z0, z1, z2, z3, z4, z5⟩; go_simp; try with_reducible rfl
      try simp only [Act.put, putA, putZ, putS]
      refine wpAnyH_take (i := 3) (oi := ⟨some 74, Op.load 22 (Operand.tmp 73), _, _, _, _⟩) (v := ?_) rfl (by kernel_rfl) (by kernel_rfl) (by kernel_rfl) (fun _ _ _ h => h) (Or.inl ⟨by rfl, ?_⟩) hS ?_
      rotate_left
      · rintro W' ⟨z0, z1, z2, z3, z4, z5⟩; go_simp; try with_reducible rfl
      try simp only [Act.put, putA, putZ, putS]
      refine wpAnyH_take (i := 4) (oi := ⟨some 75, Op.move (Operand.tmp 13), _, _, _, _⟩) (v := ?_) rfl (by kernel_rfl) (by kernel_rfl) (by kernel_rfl) (fun _ _ _ h => h) (Or.inl ⟨by rfl, ?_⟩) hS ?_
      rotate_left
      · rintro W' ⟨z0, z1, z2, z3, z4, z5⟩; go_simp; try with_reducible rfl
      try simp only [Act.put, putA, putZ, putS]
      refine wpAnyH_take (i := 5) (oi := ⟨some 76, Op.indexAddr 22 (Operand.tmp 74) (Operand.tmp 75), _, _, _, _⟩) (v := ?_) rfl (by kernel_rfl) (by kernel_rfl) (by kernel_rfl) (fun _ _ _ h => h) (Or.inl ⟨by rfl, ?_⟩) hS ?_
      rotate_left
      · rintro W' ⟨z0, z1, z2, z3, z4, z5⟩; go_simp; try with_reducible rfl
      try simp only [Act.put, putA, putZ, putS]
      refine wpAnyH_take (i := 6) (oi := ⟨some 77, Op.load 23 (Operand.tmp 76), _, _, _, _⟩) (v := ?_) rfl (by kernel_rfl) (by kernel_rfl) (by kernel_rfl) (fun _ _ _ h => h) (Or.inl ⟨by rfl, ?_⟩) hS ?_
      rotate_left
      · rintro W' ⟨z0, z1, z2, z3, z4, z5⟩; go_simp; try with_reducible rfl
      try simp only [Act.put, putA, putZ, putS]
      refine wpAnyH_take (i := 7) (oi := ⟨some 78, Op.move (Operand.tmp 14), _, _, _, _⟩) (v := ?_) rfl (by kernel_rfl) (by kernel_rfl) (by kernel_rfl) (fun _ _ _ h => h) (Or.inl ⟨by rfl, ?_⟩) hS ?_
      rotate_left
      · rintro W' ⟨z0, z1, z2, z3, z4, z5⟩; go_simp; try with_reducible rfl
      try simp only [Act.put, putA, putZ, putS]
      refine wpAnyH_take (i := 8) (oi := ⟨some 79, Op.indexAddr 23 (Operand.tmp 77) (Operand.tmp 78), _, _, _, _⟩) (v := ?_) rfl (by kernel_rfl) (by kernel_rfl) (by kernel_rfl) (fun _ _ _ h => h) (Or.inl ⟨by rfl, ?_⟩) hS ?_
      rotate_left
      · rintro W' ⟨z0, z1, z2, z3, z4, z5⟩; go_simp; try with_reducible rfl
      try simp only [Act.put, putA, putZ, putS]
      refine wpAnyH_take (i := 9) (oi := ⟨some 80, Op.fieldAddr 43 (Operand.tmp 79) 0, _, _, _, _⟩) (v := ?_) rfl (by kernel_rfl) (by kernel_rfl) (by kernel_rfl) (fun _ _ _ h => h) (Or.inl ⟨by rfl, ?_⟩) hS ?_
      rotate_left
      · rintro W' ⟨z0, z1, z2, z3, z4, z5⟩; go_simp; try with_reducible rfl
      try simp only [Act.put, putA, putZ, putS]
      refine wpAnyH_take (i := 10) (oi := ⟨some 81, Op.load 3 (Operand.tmp 80), _, _, _, _⟩) (v := ?_) rfl (by kernel_rfl) (by kernel_rfl) (by kernel_rfl) (fun _ _ _ h => h) (Or.inl ⟨by rfl, ?_⟩) hS ?_
      rotate_left
      · rintro W' ⟨z0, z1, z2, z3, z4, z5⟩; go_simp; try with_reducible rfl
      try simp only [Act.put, putA, putZ, putS]
      refine wpAnyH_take (i := 11) (oi := ⟨some 82, Op.call { callee := Callee.builtin Builtin.max, args := #[Operand.tmp 72, Operand.tmp 81], argTypes := #[3, 3] }, _, _, _, _⟩) (v := .int .i64 lo) rfl (by kernel_rfl) (by kernel_rfl) (by kernel_rfl) (fun _ _ _ h => h) (Or.inl ⟨by rfl, ?_⟩) hS ?_
      · rintro W' ⟨z0, z1, z2, z3, z4, z5⟩; go_simp; (try (split <;> omega))
      try simp only [Act.put, putA, putZ, putS]
      refine wpAnyH_take (i := 12) (oi := ⟨some 83, Op.fieldAddr 29 (Operand.tmp 17) 1, _, _, _, _⟩) (v := ?_) rfl (by kernel_rfl) (by kernel_rfl) (by kernel_rfl) (fun _ _ _ h => h) (Or.inl ⟨by rfl, ?_⟩) hS ?_
      rotate_left
      · rintro W' ⟨z0, z1, z2, z3, z4, z5⟩; go_simp; try with_reducible rfl
      try simp only [Act.put, putA, putZ, putS]
      refine wpAnyH_take (i := 13) (oi := ⟨some 84, Op.load 3 (Operand.tmp 83), _, _, _, _⟩) (v := ?_) rfl (by kernel_rfl) (by kernel_rfl) (by kernel_rfl) (fun _ _ _ h => h) (Or.inl ⟨by rfl, ?_⟩) hS ?_
      rotate_left
      · rintro W' ⟨z0, z1, z2, z3, z4, z5⟩; go_simp; try with_reducible rfl
      try simp only [Act.put, putA, putZ, putS]
      refine wpAnyH_take (i := 14) (oi := ⟨some 85, Op.fieldAddr 25 (Operand.tmp 9) 0, _, _, _, _⟩) (v := ?_) rfl (by kernel_rfl) (by kernel_rfl) (by kernel_rfl) (fun _ _ _ h => h) (Or.inl ⟨by rfl, ?_⟩) hS ?_
      rotate_left
      · rintro W' ⟨z0, z1, z2, z3, z4, z5⟩; go_simp; try with_reducible rfl
      try simp only [Act.put, putA, putZ, putS]
      refine wpAnyH_take (i := 15) (oi := ⟨some 86, Op.load 22 (Operand.tmp 85), _, _, _, _⟩) (v := ?_) rfl (by kernel_rfl) (by kernel_rfl) (by kernel_rfl) (fun _ _ _ h => h) (Or.inl ⟨by rfl, ?_⟩) hS ?_
      rotate_left
      · rintro W' ⟨z0, z1, z2, z3, z4, z5⟩; go_simp; try with_reducible rfl
      try simp only [Act.put, putA, putZ, putS]
      refine wpAnyH_take (i := 16) (oi := ⟨some 87, Op.move (Operand.tmp 13), _, _, _, _⟩) (v := ?_) rfl (by kernel_rfl) (by kernel_rfl) (by kernel_rfl) (fun _ _ _ h => h) (Or.inl ⟨by rfl, ?_⟩) hS ?_
      rotate_left
      · rintro W' ⟨z0, z1, z2, z3, z4, z5⟩; go_simp; try with_reducible rfl
      try simp only [Act.put, putA, putZ, putS]
      refine wpAnyH_take (i := 17) (oi := ⟨some 88, Op.indexAddr 22 (Operand.tmp 86) (Operand.tmp 87), _, _, _, _⟩) (v := ?_) rfl (by kernel_rfl) (by kernel_rfl) (by kernel_rfl) (fun _ _ _ h => h) (Or.inl ⟨by rfl, ?_⟩) hS ?_
      rotate_left
      · rintro W' ⟨z0, z1, z2, z3, z4, z5⟩; go_simp; try with_reducible rfl
      try simp only [Act.put, putA, putZ, putS]
      refine wpAnyH_take (i := 18) (oi := ⟨some 89, Op.load 23 (Operand.tmp 88), _, _, _, _⟩) (v := ?_) rfl (by kernel_rfl) (by kernel_rfl) (by kernel_rfl) (fun _ _ _ h => h) (Or.inl ⟨by rfl, ?_⟩) hS ?_
      rotate_left
      · rintro W' ⟨z0, z1, z2, z3, z4, z5⟩; go_simp; try with_reducible rfl
      try simp only [Act.put, putA, putZ, putS]
      refine wpAnyH_take (i := 19) (oi := ⟨some 90, Op.move (Operand.tmp 14), _, _, _, _⟩) (v := ?_) rfl (by kernel_rfl) (by kernel_rfl) (by kernel_rfl) (fun _ _ _ h => h) (Or.inl ⟨by rfl, ?_⟩) hS ?_
      rotate_left
      · rintro W' ⟨z0, z1, z2, z3, z4, z5⟩; go_simp; try with_reducible rfl
      try simp only [Act.put, putA, putZ, putS]
      refine wpAnyH_take (i := 20) (oi := ⟨some 91, Op.indexAddr 23 (Operand.tmp 89) (Operand.tmp 90), _, _, _, _⟩) (v := ?_) rfl (by kernel_rfl) (by kernel_rfl) (by kernel_rfl) (fun _ _ _ h => h) (Or.inl ⟨by rfl, ?_⟩) hS ?_
      rotate_left
      · rintro W' ⟨z0, z1, z2, z3, z4, z5⟩; go_simp; try with_reducible rfl
      try simp only [Act.put, putA, putZ, putS]
      refine wpAnyH_take (i := 21) (oi := ⟨some 92, Op.fieldAddr 43 (Operand.tmp 91) 1, _, _, _, _⟩) (v := ?_) rfl (by kernel_rfl) (by kernel_rfl) (by kernel_rfl) (fun _ _ _ h => h) (Or.inl ⟨by rfl, ?_⟩) hS ?_
      rotate_left
      · rintro W' ⟨z0, z1, z2, z3, z4, z5⟩; go_simp; try with_reducible rfl
      try simp only [Act.put, putA, putZ, putS]
      refine wpAnyH_take (i := 22) (oi := ⟨some 93, Op.load 3 (Operand.tmp 92), _, _, _, _⟩) (v := ?_) rfl (by kernel_rfl) (by kernel_rfl) (by kernel_rfl) (fun _ _ _ h => h) (Or.inl ⟨by rfl, ?_⟩) hS ?_
      rotate_left
      · rintro W' ⟨z0, z1, z2, z3, z4, z5⟩; go_simp; try with_reducible rfl
      try simp only [Act.put, putA, putZ, putS]
      refine wpAnyH_take (i := 23) (oi := ⟨some 94, Op.call { callee := Callee.builtin Builtin.min, args := #[Operand.tmp 84, Operand.tmp 93], argTypes := #[3, 3] }, _, _, _, _⟩) (v := .int .i64 hi) rfl (by kernel_rfl) (by kernel_rfl) (by kernel_rfl) (fun _ _ _ h => h) (Or.inl ⟨by rfl, ?_⟩) hS ?_
      · rintro W' ⟨z0, z1, z2, z3, z4, z5⟩; go_simp; (try (split <;> omega))
      try simp only [Act.put, putA, putZ, putS]
      refine wpAnyH_take (i := 24) (oi := ⟨some 19, Op.assign (Operand.tmp 82), _, _, _, _⟩) (v := ?_) rfl (by kernel_rfl) (by kernel_rfl) (by kernel_rfl) (fun _ _ _ h => h) (Or.inl ⟨by rfl, ?_⟩) hS ?_
      rotate_left
      · rintro W' ⟨z0, z1, z2, z3, z4, z5⟩; go_simp; try with_reducible rfl
      try simp only [Act.put, putA, putZ, putS]
      refine wpAnyH_take (i := 25) (oi := ⟨some 20, Op.assign (Operand.tmp 94), _, _, _, _⟩) (v := ?_) rfl (by kernel_rfl) (by kernel_rfl) (by kernel_rfl) (fun _ _ _ h => h) (Or.inl ⟨by rfl, ?_⟩) hS ?_
      rotate_left
      · rintro W' ⟨z0, z1, z2, z3, z4, z5⟩; go_simp; try with_reducible rfl
      try simp only [Act.put, putA, putZ, putS]
      refine wpAnyH_done (by kernel_rfl) ?_ _
      go_wp2_with fail
      go_meet
      exact ⟨rfl, rfl, HAX.out⟩
    rename World => wz
    obtain ⟨rfl, rfl, hbz⟩ := hcut
    have HA11 := Lib.hid (HA11.out.below hbz)
    clear hbz HC9 HBX
    go_wp2_with (go_at_call 18; refine (HAW.out _).mono ?_; rintro _ w12 ⟨rfl, hb12⟩; have HB12 := Lib.hid (HA11.out.below hb12).fr; clear hb12)
    go_ret
    exact ⟨rfl, HB12.out⟩
end Go.Proofs.Ytjaoflfophcibaa
