/- FlowFails: the walk. -/
import Derived.Test.YtjaoflfophcibaaPL
import Derived.Test.YtjaoflfophcibaaPM
import Derived.Test.YtjaoflfophcibaaGO
namespace Go.Proofs.Ytjaoflfophcibaa
open Go.RowKit Go.Shelf

def agE (t : Tb) : Int := if t.agree off0 = true then 0 else 9
theorem bounds_err (x : WV) (t : Tb) (hs : t.small) (w : World) (hl : WL w x t) (hf : t.fault = 0) :
    Calls Try.prog 39 #[.agg #[x.cv t, x.bv t, x.rv t, x.nv t]] w fun e w' => ∃ v, e = .returned (.tuple #[v, .int .i64 (agE t)]) ∧ Below w.heap.size w w' := by
  have hng := (Okt.of_fault hf).ng2
  cases ha : t.agree off0
  · refine (Bounds_fail x t hs w hl hf ha).mono ?_
    rintro _ w' ⟨rfl, hb⟩
    exact ⟨_, by unfold agE; rw [ha]; rfl, hb⟩
  · refine (Bounds_ok x t hs w hl hf ha (fun c g hc hg => agree_ne ha (by omega) c g hc hg)).mono ?_
    rintro _ w' ⟨v, rfl, _, hb⟩
    exact ⟨v, by unfold agE; rw [ha]; rfl, hb⟩
theorem IRows.one {W : World} {b n : Nat} {v : Value} {z : Nat → Int} (h : W.heap[b]? = some (.cells #[v] 72 (0, 0))) (hv : IntsAt W v n z) : IRows W (.slice (some ⟨b, 0, none⟩) 1 1) 1 (fun _ => n) (fun _ => z) :=
  .inr ⟨b, 0, 1, rfl, (Array.getElem?_eq_some_iff.1 h).1, fun j hj => ⟨v, by obtain rfl : j = 0 := by omega
                                                                             exact cell_of_row _ _ 0 _ _ _ h, hv⟩⟩
theorem IntsAt.ofV {W : World} {base : Nat} {v : Value} {l : List Int} (h : W.ownsRow base 3 1 v l.length (intsV l)) : IntsAt W v l.length (fun j => l.getD j 0) := by
  rw [intsV_iL] at h; exact IntsAt.own h
theorem u16_in {n : Int} (h0 : 0 ≤ n) (h1 : n ≤ 65535) : IntKind.u16.wrap n = n := by
  simp only [IntKind.wrap, IntKind.signed, IntKind.bits]
  simp
  omega
theorem u16_div {bits : Int} (h0 : 0 ≤ bits) (h1 : bits ≤ 65535) : IntKind.u16.wrap (bits.tdiv 3) = bits / 3 := by
  rw [Int.tdiv_eq_ediv_of_nonneg h0]; exact u16_in (by omega) (by omega)
theorem LvR.tb {W : World} {t : Tb} {nw : Nat} {z : Nat → Int} {bits : Int} {T1 T2 T3 : Value} (h : LvR W t nw z bits T1 T2 T3) : ∃ y : Tb, y.small ∧ y.fault = 0 ∧ ∀ X, Below W.heap.size W X → Calls Try.prog 20 #[T1] X fun e w' => ∃ v, e = .returned (.agg #[v.cv y, v.bv y, v.rv y, v.nv y]) ∧ WL w' v y ∧ Below X.heap.size X w' := by
  obtain ⟨u, y, x, sa, sc, rfl, _, _, hw, _, _, hf, _⟩ := h.ex
  have hs := cnted_small (Okt.of_fault h.ft) x nw z bits
  exact ⟨_, hs, hf, fun X hX => table_any u _ hs X (hw.below hX)⟩
def dueL (A B : Bool) : List Int := (if A = true then [] else [0]) ++ (if B = true then [] else [1]) ++ (if A = true then [] else [2])
theorem dueL_eq (A B : Bool) : failL (fun j => if j = 1 then B else A) 3 = dueL A B := by cases A <;> cases B <;> rfl
theorem fail3 (X : World) (J : Nat) (va vb vc : WV) (ya yb : Tb) (hJ : X.heap[J]? = some (.cells #[va.cv ya, va.bv ya, va.rv ya, va.nv ya, vb.cv yb, vb.bv yb, vb.rv yb, vb.nv yb, vc.cv ya, vc.bv ya, vc.rv ya, vc.nv ya] 36 (0, 0)))
    (ha : WL X va ya) (hb : WL X vb yb) (hc : WL X vc ya) (sa : ya.small) (sb : yb.small) (fa : ya.fault = 0) (fb : yb.fault = 0) :
    Calls Try.prog 43 #[.slice (some ⟨J, 0, none⟩) 3 3] X fun e w' => ∃ v, e = .returned (.tuple #[v, .int .i64 0]) ∧ w'.ownsRow X.heap.size 3 1 v (dueL (ya.agree off0) (yb.agree off0)).length (intsV (dueL (ya.agree off0) (yb.agree off0))) ∧ Below X.heap.size X w' := by
  have h := Fail_any J 0 3 3 (fun j => if j = 1 then vb else if j = 0 then va else vc) (fun j => if j = 1 then yb else ya) X (by omega) (Array.getElem?_eq_some_iff.1 hJ).1
    (fun j hj => by
      have e : j = 0 ∨ j = 1 ∨ j = 2 := by omega
      rcases e with rfl | rfl | rfl
      · exact ⟨cell_of_row _ _ 0 _ _ _ hJ, cell_of_row _ _ 1 _ _ _ hJ, cell_of_row _ _ 2 _ _ _ hJ, cell_of_row _ _ 3 _ _ _ hJ⟩
      · exact ⟨cell_of_row _ _ 4 _ _ _ hJ, cell_of_row _ _ 5 _ _ _ hJ, cell_of_row _ _ 6 _ _ _ hJ, cell_of_row _ _ 7 _ _ _ hJ⟩
      · exact ⟨cell_of_row _ _ 8 _ _ _ hJ, cell_of_row _ _ 9 _ _ _ hJ, cell_of_row _ _ 10 _ _ _ hJ, cell_of_row _ _ 11 _ _ _ hJ⟩)
    (fun j hj => by
      have e : j = 0 ∨ j = 1 ∨ j = 2 := by omega
      rcases e with rfl | rfl | rfl
      · exact ⟨ha, sa, fa⟩
      · exact ⟨hb, sb, fb⟩
      · exact ⟨hc, sa, fa⟩)
  have e : (fun j => ((fun j => if j = 1 then yb else ya) j : Tb).agree off0) = fun j => if j = 1 then yb.agree off0 else ya.agree off0 := by
    funext j
    by_cases h : j = 1
    · simp only [if_pos h]
    · simp only [if_neg h]
  rw [e, dueL_eq] at h
  exact h
set_option maxRecDepth 100000 in
set_option maxHeartbeats 8000000 in
theorem flowFails_walk (u0 u1 : WV) (t0 t1 : Tb) (wv : Value) (nw : Nat) (z : Nat → Int) (bits : Int) (w : World) (h0 : TbLaw w u0 t0) (h1 : TbLaw w u1 t1) (hw : WordsIn w wv nw z) (hn : nw ≤ maxLen) (hb0 : 0 ≤ bits) (hbb1 : bits ≤ 65535) :
    Calls Try.prog 13 #[.agg #[u0.cv t0, u0.bv t0, u0.rv t0, u0.nv t0], .agg #[u1.cv t1, u1.bv t1, u1.rv t1, u1.nv t1], wv, .int .u16 bits] w fun e w' => e = .returned (.bool true) ∧ Below w.heap.size w w' := by
  have hk0 : 0 ≤ bits / 3 := by omega
  have hk1 : bits / 3 ≤ 65535 := by omega
  have LV0 := Lib.hid (fun (X : World) (hX : Below w.heap.size w X) => lives_any u0 t0 wv nw z bits h0.big h0.z X (h0.l.below hX) h0.cc h0.cb (hw.below hX) hn hb0 hbb1)
  have LV1 := Lib.hid (fun (X : World) (hX : Below w.heap.size w X) => lives_any u1 t1 wv nw z (bits / 3) h1.big h1.z X (h1.l.below hX) h1.cc h1.cb (hw.below hX) hn hk0 hk1)
  have HAW := Lib.hid awake_any
  obtain ⟨i1, hi1, hy0, hy1, hy2⟩ := info_parts Try.infoInt
  obtain ⟨wa, wc, rfl⟩ := hw.len
  clear h0 h1 hw hn
  simp only [WV.cv, WV.bv, WV.rv, WV.nv] at LV0 LV1 ⊢
  have HA0 := Lib.hid (BF.made2 w #[.slice u0.ca t0.nc u0.cc, .slice u0.ba t0.nb u0.bc, .slice u0.ra t0.nr u0.rc, .slice u0.na t0.nn u0.nc] #[.slice u1.ca t1.nc u1.cc, .slice u1.ba t1.nb u1.bc, .slice u1.ra t1.nr u1.rc, .slice u1.na t1.nn u1.nc] 25 25)
  go_enter Try.func13, Try.ntmps13
  go_wp2_with fail
  refine (LV0.out _ HA0.out.fr).mono ?_
  rintro _ w1 ⟨V1, U1, T3, b, rfl, hb1, hr1⟩
  have HA1 := Lib.hid (((HA0.out.below hb1).alloc #[.slice V1.p0 V1.l0 V1.c0, .slice V1.p1 V1.l1 V1.c1, .slice V1.p2 V1.l2 V1.c2, .slice V1.p3 V1.l3 V1.c3] 25).alloc #[.slice U1.p0 U1.l0 U1.c0, .slice U1.p1 U1.l1 U1.c1, .slice U1.p2 U1.l2 U1.c2, .slice U1.p3 U1.l3 U1.c3] 75)
  rw [World.size_alloc] at HA1
  have HBB1 : Hid (Below w1.heap.size w1 ((w1.alloc (.cells #[.slice V1.p0 V1.l0 V1.c0, .slice V1.p1 V1.l1 V1.c1, .slice V1.p2 V1.l2 V1.c2, .slice V1.p3 V1.l3 V1.c3] 25)).alloc (.cells #[.slice U1.p0 U1.l0 U1.c0, .slice U1.p1 U1.l1 U1.c1, .slice U1.p2 U1.l2 U1.c2, .slice U1.p3 U1.l3 U1.c3] 75))) := (below_alloc _ _).trans ((below_alloc _ _).mono (by simp))
  have hzz1 : w1.heap.size + 2 = ((w1.alloc (.cells #[.slice V1.p0 V1.l0 V1.c0, .slice V1.p1 V1.l1 V1.c1, .slice V1.p2 V1.l2 V1.c2, .slice V1.p3 V1.l3 V1.c3] 25)).alloc (.cells #[.slice U1.p0 U1.l0 U1.c0, .slice U1.p1 U1.l1 U1.c1, .slice U1.p2 U1.l2 U1.c2, .slice U1.p3 U1.l3 U1.c3] 75)).heap.size := by simp
  have HBY1 := Lib.hid hb1
  have HR1 := Lib.hid hr1
  clear hb1 hr1
  have d0 := HA1.out.cell (.tail _ (.tail _ (.tail _ (.head _)))) 0
  have d1 := HA1.out.cell (.tail _ (.tail _ (.tail _ (.head _)))) 1
  have d2 := HA1.out.cell (.tail _ (.tail _ (.tail _ (.head _)))) 2
  have d3 := HA1.out.cell (.tail _ (.tail _ (.tail _ (.head _)))) 3
  go_wp2_with fail
  clear d0 d1 d2 d3
  clear HA0
  generalize ((w1.alloc (.cells #[.slice V1.p0 V1.l0 V1.c0, .slice V1.p1 V1.l1 V1.c1, .slice V1.p2 V1.l2 V1.c2, .slice V1.p3 V1.l3 V1.c3] 25)).alloc (.cells #[.slice U1.p0 U1.l0 U1.c0, .slice U1.p1 U1.l1 U1.c1, .slice U1.p2 U1.l2 U1.c2, .slice U1.p3 U1.l3 U1.c3] 75)) = v1 at *
  rw [u16_div hb0 hbb1]
  refine (LV1.out _ HA1.out.fr).mono ?_
  rintro _ w2 ⟨V2, U2, T3', b', rfl, hb2, hr2⟩
  have HA2 := Lib.hid (((HA1.out.below hb2).alloc #[.slice V2.p0 V2.l0 V2.c0, .slice V2.p1 V2.l1 V2.c1, .slice V2.p2 V2.l2 V2.c2, .slice V2.p3 V2.l3 V2.c3] 25).alloc #[.slice U2.p0 U2.l0 U2.c0, .slice U2.p1 U2.l1 U2.c1, .slice U2.p2 U2.l2 U2.c2, .slice U2.p3 U2.l3 U2.c3] 75)
  rw [World.size_alloc] at HA2
  have HBB2 : Hid (Below w2.heap.size w2 ((w2.alloc (.cells #[.slice V2.p0 V2.l0 V2.c0, .slice V2.p1 V2.l1 V2.c1, .slice V2.p2 V2.l2 V2.c2, .slice V2.p3 V2.l3 V2.c3] 25)).alloc (.cells #[.slice U2.p0 U2.l0 U2.c0, .slice U2.p1 U2.l1 U2.c1, .slice U2.p2 U2.l2 U2.c2, .slice U2.p3 U2.l3 U2.c3] 75))) := (below_alloc _ _).trans ((below_alloc _ _).mono (by simp))
  have hzz2 : w2.heap.size + 2 = ((w2.alloc (.cells #[.slice V2.p0 V2.l0 V2.c0, .slice V2.p1 V2.l1 V2.c1, .slice V2.p2 V2.l2 V2.c2, .slice V2.p3 V2.l3 V2.c3] 25)).alloc (.cells #[.slice U2.p0 U2.l0 U2.c0, .slice U2.p1 U2.l1 U2.c1, .slice U2.p2 U2.l2 U2.c2, .slice U2.p3 U2.l3 U2.c3] 75)).heap.size := by simp
  have HBY2 := Lib.hid hb2
  have HR2 := Lib.hid hr2
  clear hb2 hr2
  clear LV0 LV1
  cases b
  · go_wp2_with (go_at_call 18; refine (HAW.out _).mono ?_; rintro _ w9 ⟨rfl, hb9⟩; have HB9 := Lib.hid (HA2.out.below hb9).fr; clear hb9)
    go_ret
    exact ⟨rfl, HB9.out⟩
  cases b'
  · go_wp2_with (go_at_call 18; refine (HAW.out _).mono ?_; rintro _ w9 ⟨rfl, hb9⟩; have HB9 := Lib.hid (HA2.out.below hb9).fr; clear hb9)
    go_ret
    exact ⟨rfl, HB9.out⟩
  obtain ⟨y1, hs1, hf1, htb1⟩ := (HR1.out rfl).tb
  obtain ⟨y2, hs2, hf2, htb2⟩ := (HR2.out rfl).tb
  obtain ⟨n1, HN1⟩ : ∃ n, Hid (agE y1 = n) := ⟨_, rfl⟩
  obtain ⟨n2, HN2⟩ : ∃ n, Hid (agE y2 = n) := ⟨_, rfl⟩
  have HV1 : Hid (Below w1.heap.size w1 ((w2.alloc (.cells #[.slice V2.p0 V2.l0 V2.c0, .slice V2.p1 V2.l1 V2.c1, .slice V2.p2 V2.l2 V2.c2, .slice V2.p3 V2.l3 V2.c3] 25)).alloc (.cells #[.slice U2.p0 U2.l0 U2.c0, .slice U2.p1 U2.l1 U2.c1, .slice U2.p2 U2.l2 U2.c2, .slice U2.p3 U2.l3 U2.c3] 75))) := below_step (below_step HBB1.out HBY2.out) HBB2.out
  have k0 := HA2.out.cell (.tail _ (.tail _ (.tail _ (.head _)))) 0
  have k1 := HA2.out.cell (.tail _ (.tail _ (.tail _ (.head _)))) 1
  have k2 := HA2.out.cell (.tail _ (.tail _ (.tail _ (.head _)))) 2
  have k3 := HA2.out.cell (.tail _ (.tail _ (.tail _ (.head _)))) 3
  go_wp2_with fail
  clear k0 k1 k2 k3
  generalize ((w2.alloc (.cells #[.slice V2.p0 V2.l0 V2.c0, .slice V2.p1 V2.l1 V2.c1, .slice V2.p2 V2.l2 V2.c2, .slice V2.p3 V2.l3 V2.c3] 25)).alloc (.cells #[.slice U2.p0 U2.l0 U2.c0, .slice U2.p1 U2.l1 U2.c1, .slice U2.p2 U2.l2 U2.c2, .slice U2.p3 U2.l3 U2.c3] 75)) = v2 at *
  have HTB1 : Hid (∀ X, Below v2.heap.size v2 X → Calls Try.prog 20 #[.agg #[.slice V1.p0 V1.l0 V1.c0, .slice V1.p1 V1.l1 V1.c1, .slice V1.p2 V1.l2 V1.c2, .slice V1.p3 V1.l3 V1.c3]] X fun e w' => ∃ v : WV, e = .returned (.agg #[v.cv y1, v.bv y1, v.rv y1, v.nv y1]) ∧ WL w' v y1 ∧ Below X.heap.size X w') := fun X hX => htb1 X (below_step HV1.out hX)
  have HTB2 : Hid (∀ X, Below v2.heap.size v2 X → Calls Try.prog 20 #[.agg #[.slice V2.p0 V2.l0 V2.c0, .slice V2.p1 V2.l1 V2.c1, .slice V2.p2 V2.l2 V2.c2, .slice V2.p3 V2.l3 V2.c3]] X fun e w' => ∃ v : WV, e = .returned (.agg #[v.cv y2, v.bv y2, v.rv y2, v.nv y2]) ∧ WL w' v y2 ∧ Below X.heap.size X w') := fun X hX => htb2 X (below_step HBB2.out hX)
  have HBD1 : Hid (∀ (X : World) (v : WV), WL X v y1 → Calls Try.prog 39 #[.agg #[v.cv y1, v.bv y1, v.rv y1, v.nv y1]] X fun e w' => ∃ b, e = .returned (.tuple #[b, .int .i64 n1]) ∧ Below X.heap.size X w') := fun X v h => by rw [← HN1.out]; exact bounds_err v y1 hs1 X h hf1
  have HBD2 : Hid (∀ (X : World) (v : WV), WL X v y2 → Calls Try.prog 39 #[.agg #[v.cv y2, v.bv y2, v.rv y2, v.nv y2]] X fun e w' => ∃ b, e = .returned (.tuple #[b, .int .i64 n2]) ∧ Below X.heap.size X w') := fun X v h => by rw [← HN2.out]; exact bounds_err v y2 hs2 X h hf2
  clear htb1 htb2 HBB1 HBB2 HBY1 HBY2 HV1 HA1 HR1 HR2
  simp only [WV.cv, WV.bv, WV.rv, WV.nv] at HTB1 HTB2 HBD1 HBD2
  refine (HTB1.out _ (Below.refl _ _)).mono ?_
  rintro _ w3 ⟨x3, rfl, hl3, hb3⟩
  have HW3 := Lib.hid hl3; have HB3 := Lib.hid hb3
  clear hl3 hb3
  go_wp2_with fail
  refine (HBD1.out _ _ HW3.out).mono ?_
  rintro _ w4 ⟨q4, rfl, hb4⟩
  have HA4 := Lib.hid ((HA2.out.below HB3.out).below hb4)
  have HB4 := Lib.hid (below_step HB3.out hb4)
  clear hb4 HB3 HW3
  have k0 := HA4.out.cell (.tail _ (.head _)) 0
  have k1 := HA4.out.cell (.tail _ (.head _)) 1
  have k2 := HA4.out.cell (.tail _ (.head _)) 2
  have k3 := HA4.out.cell (.tail _ (.head _)) 3
  go_wp2_with fail
  refine (HTB2.out _ HB4.out).mono ?_
  rintro _ w5 ⟨x5, rfl, hl5, hb5⟩
  have HW5 := Lib.hid hl5; have HB5 := Lib.hid (below_step HB4.out hb5)
  clear hl5 hb5 k0 k1 k2 k3 HB4 HA4
  go_wp2_with fail
  refine (HBD2.out _ _ HW5.out).mono ?_
  rintro _ wr ⟨q6, rfl, hb6⟩
  have HBV := Lib.hid (below_step HB5.out hb6)
  clear hb6 HB5 HW5 HBD1 HBD2
  go_wp2_with fail
  have HCK : Hid (∀ X, Below wr.heap.size wr X → X.cell? ⟨w1.heap.size, 0, none⟩ = some (.slice V1.p0 V1.l0 V1.c0) ∧ X.cell? ⟨w1.heap.size, 1, none⟩ = some (.slice V1.p1 V1.l1 V1.c1) ∧ X.cell? ⟨w1.heap.size, 2, none⟩ = some (.slice V1.p2 V1.l2 V1.c2) ∧ X.cell? ⟨w1.heap.size, 3, none⟩ = some (.slice V1.p3 V1.l3 V1.c3) ∧ X.cell? ⟨w2.heap.size, 0, none⟩ = some (.slice V2.p0 V2.l0 V2.c0) ∧ X.cell? ⟨w2.heap.size, 1, none⟩ = some (.slice V2.p1 V2.l1 V2.c1) ∧ X.cell? ⟨w2.heap.size, 2, none⟩ = some (.slice V2.p2 V2.l2 V2.c2) ∧ X.cell? ⟨w2.heap.size, 3, none⟩ = some (.slice V2.p3 V2.l3 V2.c3)) := fun X hX => by
    have h := (HA2.out.below HBV.out).below hX
    exact ⟨h.cell (.tail _ (.tail _ (.tail _ (.head _)))) 0, h.cell (.tail _ (.tail _ (.tail _ (.head _)))) 1, h.cell (.tail _ (.tail _ (.tail _ (.head _)))) 2, h.cell (.tail _ (.tail _ (.tail _ (.head _)))) 3, h.cell (.tail _ (.head _)) 0, h.cell (.tail _ (.head _)) 1, h.cell (.tail _ (.head _)) 2, h.cell (.tail _ (.head _)) 3⟩
  have HBW0 := Lib.hid (HA2.out.below HBV.out).fr
  go_cut [21, 22] (fun s21 s22 wx => ∃ la lc, s21 = .slice la (dueL (y1.agree off0) (y2.agree off0)).length lc ∧ s22 = .int .i64 0 ∧ Below wr.heap.size wr wx ∧ wx.ownsRow wr.heap.size 3 1 (.slice la (dueL (y1.agree off0) (y2.agree off0)).length lc) (dueL (y1.agree off0) (y2.agree off0)).length (intsV (dueL (y1.agree off0) (y2.agree off0))))
  case first =>
    have HAX : Hid (Below wr.heap.size wr wr.drew) := (Below.refl _ _).drew
    refine wp_region_held_drew (S := fun X => X.cell? ⟨w1.heap.size, 0, none⟩ = some (.slice V1.p0 V1.l0 V1.c0) ∧ X.cell? ⟨w1.heap.size, 1, none⟩ = some (.slice V1.p1 V1.l1 V1.c1) ∧ X.cell? ⟨w1.heap.size, 2, none⟩ = some (.slice V1.p2 V1.l2 V1.c2) ∧ X.cell? ⟨w1.heap.size, 3, none⟩ = some (.slice V1.p3 V1.l3 V1.c3) ∧ X.cell? ⟨w2.heap.size, 0, none⟩ = some (.slice V2.p0 V2.l0 V2.c0) ∧ X.cell? ⟨w2.heap.size, 1, none⟩ = some (.slice V2.p1 V2.l1 V2.c1) ∧ X.cell? ⟨w2.heap.size, 2, none⟩ = some (.slice V2.p2 V2.l2 V2.c2) ∧ X.cell? ⟨w2.heap.size, 3, none⟩ = some (.slice V2.p3 V2.l3 V2.c3)) (by kernel_rfl) (HCK.out _ HAX.out) (fun hS => ?_)
    generalize wr.drew = X at *
    refine wpAnyH_take (i := 0) (oi := ⟨some 63, Op.load 25 (Operand.tmp 9), _, _, _, _⟩) (v := ?_) rfl (by kernel_rfl) (by kernel_rfl) (by kernel_rfl) (fun _ _ _ h => h) (Or.inl ⟨by rfl, ?_⟩) hS ?_
    rotate_left
    · rintro W' ⟨z0, z1, z2, z3, z4, z5, z6, z7⟩; go_simp; try with_reducible rfl
    try simp only [Act.put, putA, putZ, putS]
    refine wpAnyH_take (i := 2) (oi := ⟨some 65, Op.load 25 (Operand.tmp 13), _, _, _, _⟩) (v := ?_) rfl (by kernel_rfl) (by kernel_rfl) (by kernel_rfl) (fun _ _ _ h => h) (Or.inl ⟨by rfl, ?_⟩) hS ?_
    rotate_left
    · rintro W' ⟨z0, z1, z2, z3, z4, z5, z6, z7⟩; go_simp; try with_reducible rfl
    try simp only [Act.put, putA, putZ, putS]
    refine wpAnyH_take (i := 4) (oi := ⟨some 67, Op.load 25 (Operand.tmp 9), _, _, _, _⟩) (v := ?_) rfl (by kernel_rfl) (by kernel_rfl) (by kernel_rfl) (fun _ _ _ h => h) (Or.inl ⟨by rfl, ?_⟩) hS ?_
    rotate_left
    · rintro W' ⟨z0, z1, z2, z3, z4, z5, z6, z7⟩; go_simp; try with_reducible rfl
    try simp only [Act.put, putA, putZ, putS]
    refine wpAnyH_ready (rs := [1]) (by kernel_rfl) (by simp) ?_
    refine AllReadyH.cons (o := ⟨some 64, Op.call { callee := Callee.value (Operand.func 20), args := #[Operand.tmp 63], argTypes := #[25] }, _, _, _, _⟩) rfl (fun K hK => ?_) ?_
    ·
      go_simp
      refine (HTB1.out _ (below_step HBV.out HAX.out)).mono ?_
      rintro _ X0 ⟨va, rfl, hl0, hb0⟩
      (try go_wp2_with fail)
      have HA0 := Lib.hid (below_step HAX.out hb0)
      have HWva0 := Lib.hid hl0
      refine hK.out _ _ (HCK.out X0 HA0.out) (fun hS => ?_)
      clear hK K
      try simp only [Act.put, putA, putZ, putS]
      clear hb0 hl0
      refine wpAnyH_ready (rs := [3]) (by kernel_rfl) (by simp) ?_
      refine AllReadyH.cons (o := ⟨some 66, Op.call { callee := Callee.value (Operand.func 20), args := #[Operand.tmp 65], argTypes := #[25] }, _, _, _, _⟩) rfl (fun K hK => ?_) ?_
      ·
        go_simp
        refine (HTB2.out _ (below_step HBV.out HA0.out)).mono ?_
        rintro _ X1 ⟨vb, rfl, hl1, hb1⟩
        (try go_wp2_with fail)
        have HA1 := Lib.hid (below_step HA0.out hb1)
        have HWva1 := Lib.hid (HWva0.out.below hb1)
        have HWvb1 := Lib.hid hl1
        refine hK.out _ _ (HCK.out X1 HA1.out) (fun hS => ?_)
        clear hK K
        try simp only [Act.put, putA, putZ, putS]
        clear hb1 hl1
        refine wpAnyH_ready (rs := [5]) (by kernel_rfl) (by simp) ?_
        refine AllReadyH.cons (o := ⟨some 68, Op.call { callee := Callee.value (Operand.func 20), args := #[Operand.tmp 67], argTypes := #[25] }, _, _, _, _⟩) rfl (fun K hK => ?_) ?_
        ·
          go_simp
          refine (HTB1.out _ (below_step HBV.out HA1.out)).mono ?_
          rintro _ X2 ⟨vc, rfl, hl2, hb2⟩
          (try go_wp2_with fail)
          have HA2 := Lib.hid (below_step HA1.out hb2)
          have HWva2 := Lib.hid (HWva1.out.below hb2)
          have HWvb2 := Lib.hid (HWvb1.out.below hb2)
          have HWvc2 := Lib.hid hl2
          refine hK.out _ _ (HCK.out X2 HA2.out) (fun hS => ?_)
          clear hK K
          try simp only [Act.put, putA, putZ, putS]
          clear hb2 hl2
          refine wpAnyH_ready (rs := [6]) (by kernel_rfl) (by simp) ?_
          refine AllReadyH.cons (o := ⟨some 69, Op.buildSlice 93 3 #[(0, Operand.tmp 64), (1, Operand.tmp 66), (2, Operand.tmp 68)], _, _, _, _⟩) rfl (fun K hK => ?_) ?_
          ·
            go_simp
            have HJ : Hid ((X2.alloc (.cells #[.slice va.ca y1.nc va.cc, .slice va.ba y1.nb va.bc, .slice va.ra y1.nr va.rc, .slice va.na y1.nn va.nc, .slice vb.ca y2.nc vb.cc, .slice vb.ba y2.nb vb.bc, .slice vb.ra y2.nr vb.rc, .slice vb.na y2.nn vb.nc, .slice vc.ca y1.nc vc.cc, .slice vc.ba y1.nb vc.bc, .slice vc.ra y1.nr vc.rc, .slice vc.na y1.nn vc.nc] 36)).heap[X2.heap.size]? = some (.cells #[.slice va.ca y1.nc va.cc, .slice va.ba y1.nb va.bc, .slice va.ra y1.nr va.rc, .slice va.na y1.nn va.nc, .slice vb.ca y2.nc vb.cc, .slice vb.ba y2.nb vb.bc, .slice vb.ra y2.nr vb.rc, .slice vb.na y2.nn vb.nc, .slice vc.ca y1.nc vc.cc, .slice vc.ba y1.nb vc.bc, .slice vc.ra y1.nr vc.rc, .slice vc.na y1.nn vc.nc] 36 (0, 0))) := heap_alloc_new _ _
            have HB1 := Lib.hid (below_step HA2.out (below_alloc X2 (.cells #[.slice va.ca y1.nc va.cc, .slice va.ba y1.nb va.bc, .slice va.ra y1.nr va.rc, .slice va.na y1.nn va.nc, .slice vb.ca y2.nc vb.cc, .slice vb.ba y2.nb vb.bc, .slice vb.ra y2.nr vb.rc, .slice vb.na y2.nn vb.nc, .slice vc.ca y1.nc vc.cc, .slice vc.ba y1.nb vc.bc, .slice vc.ra y1.nr vc.rc, .slice vc.na y1.nn vc.nc] 36)))
            have HLva := Lib.hid (HWva2.out.below (below_alloc X2 (.cells #[.slice va.ca y1.nc va.cc, .slice va.ba y1.nb va.bc, .slice va.ra y1.nr va.rc, .slice va.na y1.nn va.nc, .slice vb.ca y2.nc vb.cc, .slice vb.ba y2.nb vb.bc, .slice vb.ra y2.nr vb.rc, .slice vb.na y2.nn vb.nc, .slice vc.ca y1.nc vc.cc, .slice vc.ba y1.nb vc.bc, .slice vc.ra y1.nr vc.rc, .slice vc.na y1.nn vc.nc] 36)))
            have HLvb := Lib.hid (HWvb2.out.below (below_alloc X2 (.cells #[.slice va.ca y1.nc va.cc, .slice va.ba y1.nb va.bc, .slice va.ra y1.nr va.rc, .slice va.na y1.nn va.nc, .slice vb.ca y2.nc vb.cc, .slice vb.ba y2.nb vb.bc, .slice vb.ra y2.nr vb.rc, .slice vb.na y2.nn vb.nc, .slice vc.ca y1.nc vc.cc, .slice vc.ba y1.nb vc.bc, .slice vc.ra y1.nr vc.rc, .slice vc.na y1.nn vc.nc] 36)))
            have HLvc := Lib.hid (HWvc2.out.below (below_alloc X2 (.cells #[.slice va.ca y1.nc va.cc, .slice va.ba y1.nb va.bc, .slice va.ra y1.nr va.rc, .slice va.na y1.nn va.nc, .slice vb.ca y2.nc vb.cc, .slice vb.ba y2.nb vb.bc, .slice vb.ra y2.nr vb.rc, .slice vb.na y2.nn vb.nc, .slice vc.ca y1.nc vc.cc, .slice vc.ba y1.nb vc.bc, .slice vc.ra y1.nr vc.rc, .slice vc.na y1.nn vc.nc] 36)))
            refine hK.out _ _ (HCK.out (X2.alloc (.cells #[.slice va.ca y1.nc va.cc, .slice va.ba y1.nb va.bc, .slice va.ra y1.nr va.rc, .slice va.na y1.nn va.nc, .slice vb.ca y2.nc vb.cc, .slice vb.ba y2.nb vb.bc, .slice vb.ra y2.nr vb.rc, .slice vb.na y2.nn vb.nc, .slice vc.ca y1.nc vc.cc, .slice vc.ba y1.nb vc.bc, .slice vc.ra y1.nr vc.rc, .slice vc.na y1.nn vc.nc] 36)) HB1.out) (fun hS => ?_)
            clear hK K
            try simp only [Act.put, putA, putZ, putS]
            generalize X2.heap.size = J at *
            generalize (X2.alloc (.cells #[.slice va.ca y1.nc va.cc, .slice va.ba y1.nb va.bc, .slice va.ra y1.nr va.rc, .slice va.na y1.nn va.nc, .slice vb.ca y2.nc vb.cc, .slice vb.ba y2.nb vb.bc, .slice vb.ra y2.nr vb.rc, .slice vb.na y2.nn vb.nc, .slice vc.ca y1.nc vc.cc, .slice vc.ba y1.nb vc.bc, .slice vc.ra y1.nr vc.rc, .slice vc.na y1.nn vc.nc] 36)) = X1 at *
            refine wpAnyH_ready (rs := [7]) (by kernel_rfl) (by simp) ?_
            refine AllReadyH.cons (o := ⟨some 70, Op.call { callee := Callee.value (Operand.func 43), args := #[Operand.tmp 69], argTypes := #[93] }, _, _, _, _⟩) rfl (fun K hK => ?_) ?_
            ·
              go_simp
              refine (fail3 X1 J va vb vc y1 y2 HJ.out HLva.out HLvb.out HLvc.out hs1 hs2 hf1 hf2).mono ?_
              rintro _ X4 ⟨lv, rfl, hown, hb4⟩
              (try go_wp2_with fail)
              have HO4 := Lib.hid (own_mono hown HB1.out.size)
              have HA4 := Lib.hid (below_step HB1.out hb4)
              refine hK.out _ _ (HCK.out X4 HA4.out) (fun hS => ?_)
              clear hK K
              try simp only [Act.put, putA, putZ, putS]
              clear hb4 hown
              refine wpAnyH_take (i := 8) (oi := ⟨some 62, Op.move (Operand.tmp 70), _, _, _, _⟩) (v := ?_) rfl (by kernel_rfl) (by kernel_rfl) (by kernel_rfl) (fun _ _ _ h => h) (Or.inl ⟨by rfl, ?_⟩) hS ?_
              rotate_left
              · rintro W' ⟨z0, z1, z2, z3, z4, z5, z6, z7⟩; go_simp; try with_reducible rfl
              try simp only [Act.put, putA, putZ, putS]
              refine wpAnyH_take (i := 9) (oi := ⟨some 71, Op.extract (Operand.tmp 62) 0, _, _, _, _⟩) (v := ?_) rfl (by kernel_rfl) (by kernel_rfl) (by kernel_rfl) (fun _ _ _ h => h) (Or.inl ⟨by rfl, ?_⟩) hS ?_
              rotate_left
              · rintro W' ⟨z0, z1, z2, z3, z4, z5, z6, z7⟩; go_simp; try with_reducible rfl
              try simp only [Act.put, putA, putZ, putS]
              refine wpAnyH_take (i := 10) (oi := ⟨some 72, Op.extract (Operand.tmp 62) 1, _, _, _, _⟩) (v := ?_) rfl (by kernel_rfl) (by kernel_rfl) (by kernel_rfl) (fun _ _ _ h => h) (Or.inl ⟨by rfl, ?_⟩) hS ?_
              rotate_left
              · rintro W' ⟨z0, z1, z2, z3, z4, z5, z6, z7⟩; go_simp; try with_reducible rfl
              try simp only [Act.put, putA, putZ, putS]
              refine wpAnyH_take (i := 11) (oi := ⟨some 21, Op.assign (Operand.tmp 71), _, _, _, _⟩) (v := ?_) rfl (by kernel_rfl) (by kernel_rfl) (by kernel_rfl) (fun _ _ _ h => h) (Or.inl ⟨by rfl, ?_⟩) hS ?_
              rotate_left
              · rintro W' ⟨z0, z1, z2, z3, z4, z5, z6, z7⟩; go_simp; try with_reducible rfl
              try simp only [Act.put, putA, putZ, putS]
              refine wpAnyH_take (i := 12) (oi := ⟨some 22, Op.assign (Operand.tmp 72), _, _, _, _⟩) (v := ?_) rfl (by kernel_rfl) (by kernel_rfl) (by kernel_rfl) (fun _ _ _ h => h) (Or.inl ⟨by rfl, ?_⟩) hS ?_
              rotate_left
              · rintro W' ⟨z0, z1, z2, z3, z4, z5, z6, z7⟩; go_simp; try with_reducible rfl
              try simp only [Act.put, putA, putZ, putS]
              refine wpAnyH_done (by kernel_rfl) ?_ _
              go_wp2_with fail
              go_meet
              obtain ⟨la, lc, hlv⟩ := own_slice' HO4.out
              exact ⟨la, lc, hlv, rfl, HA4.out, by rw [← hlv]; exact HO4.out⟩
            exact AllReadyH.nil
          exact AllReadyH.nil
        exact AllReadyH.nil
      exact AllReadyH.nil
    exact AllReadyH.nil
  rename World => wx
  obtain ⟨la, lc, rfl, rfl, hbx, hox⟩ := hcut
  have HBW := Lib.hid (below_step HBW0.out hbx); have HO := Lib.hid hox
  clear hbx hox HBW0 HCK HTB1 HTB2 HA2 HBV
  cases hA : y1.agree off0 <;> cases hB : y2.agree off0
  ·
    have hD : dueL false false = [0, 1, 2] := rfl
    obtain rfl : n1 = 9 := HN1.out.symm.trans (by unfold agE; rw [hA]; rfl)
    obtain rfl : n2 = 9 := HN2.out.symm.trans (by unfold agE; rw [hB]; rfl)
    rw [hA, hB, hD] at HO
    rw [hD]
    simp only [List.length_cons, List.length_nil] at HO ⊢
    clear hA hB hD HN1 HN2
    have HB0 : Hid (Below wx.heap.size wx wx) := Below.refl _ _
    have HQ0 : Hid (wx.ownsRow wx.heap.size 3 1 (.slice none 0 0) 0 (intsV [])) := World.ownsRow_nil _ _ _ _
    go_wp2_with (at_builtin; refine wpList_append_src _ rfl (.tmp 75) (.tmp 76) 72 rfl wx.heap.size 3 i1 (.int .i64 0) 1 8 Try.underlying72 hi1 hy0 hy1 hy2 rfl (by decide) (.slice none 0 0) 0 (intsV []) rfl (HQ0.out.alloc (.cells #[.int .i64 0] 3)) (some ⟨wx.heap.size, 0, none⟩) 1 1 [.int .i64 0] rfl ⟨rfl, fun j u hu => ⟨_, rfl, World.news_of_block (heap_alloc_new wx _) j u hu⟩⟩ (by simp [Value.oneCell']) (by unfold maxLen; omega) (by omega) (by have := HB0.out.size; simp only [World.size_alloc]; omega) ?_)
    intro x1 W1 hown hgr hlt1
    have HB1 : Hid (Below wx.heap.size wx W1) := (HB0.out.trans ((below_alloc wx (.cells #[.int .i64 0] 3)).mono HB0.out.size)).trans ((Fr.grown hgr).low (by have := HB0.out.size; simp only [World.size_alloc]; omega) (fun q hq e => by have := (HQ0.out.lt q e).1; omega))
    obtain ⟨xa1, xc1, rfl⟩ := own_slice' hown
    have HQ1 : Hid (W1.ownsRow wx.heap.size 3 1 (.slice xa1 1 xc1) 1 (intsV [0])) := hown
    clear hown hgr hlt1
    go_wp2_with (at_builtin; refine wpList_append_src _ rfl (.tmp 80) (.tmp 81) 72 rfl wx.heap.size 3 i1 (.int .i64 0) 1 8 Try.underlying72 hi1 hy0 hy1 hy2 rfl (by decide) (.slice xa1 1 xc1) 1 (intsV [0]) rfl (HQ1.out.alloc (.cells #[.int .i64 1] 3)) (some ⟨W1.heap.size, 0, none⟩) 1 1 [.int .i64 1] rfl ⟨rfl, fun j u hu => ⟨_, rfl, World.news_of_block (heap_alloc_new W1 _) j u hu⟩⟩ (by simp [Value.oneCell']) (by unfold maxLen; omega) (by omega) (by have := HB1.out.size; simp only [World.size_alloc]; omega) ?_)
    intro x2 W2 hown hgr hlt1
    have HB2 : Hid (Below wx.heap.size wx W2) := (HB1.out.trans ((below_alloc W1 (.cells #[.int .i64 1] 3)).mono HB1.out.size)).trans ((Fr.grown hgr).low (by have := HB1.out.size; simp only [World.size_alloc]; omega) (fun q hq e => by have := (HQ1.out.lt q e).1; omega))
    obtain ⟨xa2, xc2, rfl⟩ := own_slice' hown
    have HQ2 : Hid (W2.ownsRow wx.heap.size 3 1 (.slice xa2 2 xc2) 2 (intsV [0, 1])) := hown
    clear hown hgr hlt1
    go_wp2_with (at_builtin; refine wpList_append_src _ rfl (.tmp 85) (.tmp 86) 72 rfl wx.heap.size 3 i1 (.int .i64 0) 1 8 Try.underlying72 hi1 hy0 hy1 hy2 rfl (by decide) (.slice xa2 2 xc2) 2 (intsV [0, 1]) rfl (HQ2.out.alloc (.cells #[.int .i64 2] 3)) (some ⟨W2.heap.size, 0, none⟩) 1 1 [.int .i64 2] rfl ⟨rfl, fun j u hu => ⟨_, rfl, World.news_of_block (heap_alloc_new W2 _) j u hu⟩⟩ (by simp [Value.oneCell']) (by unfold maxLen; omega) (by omega) (by have := HB2.out.size; simp only [World.size_alloc]; omega) ?_)
    intro x3 W3 hown hgr hlt1
    have HB3 : Hid (Below wx.heap.size wx W3) := (HB2.out.trans ((below_alloc W2 (.cells #[.int .i64 2] 3)).mono HB2.out.size)).trans ((Fr.grown hgr).low (by have := HB2.out.size; simp only [World.size_alloc]; omega) (fun q hq e => by have := (HQ2.out.lt q e).1; omega))
    obtain ⟨xa3, xc3, rfl⟩ := own_slice' hown
    have HQ3 : Hid (W3.ownsRow wx.heap.size 3 1 (.slice xa3 3 xc3) 3 (intsV [0, 1, 2])) := hown
    clear hown hgr hlt1
    have hl1 : IntsAt ((W3.alloc (.cells #[.slice la 3 lc] 72)).alloc (.cells #[.slice xa3 3 xc3] 72)) (.slice la 3 lc) 3 (fun j => ([0, 1, 2] : List Int).getD j 0) := (IntsAt.ofV (l := [0, 1, 2]) (own_below HO.out HB3.out)).below (below_step (below_alloc _ _) (below_alloc _ _))
    have hl2 : IntsAt ((W3.alloc (.cells #[.slice la 3 lc] 72)).alloc (.cells #[.slice xa3 3 xc3] 72)) (.slice xa3 3 xc3) 3 (fun j => ([0, 1, 2] : List Int).getD j 0) := (IntsAt.ofV (l := [0, 1, 2]) HQ3.out).below (below_step (below_alloc _ _) (below_alloc _ _))
    have hr1 := IRows.one (b := W3.heap.size) (((below_alloc (W3.alloc (.cells #[.slice la 3 lc] 72)) (.cells #[.slice xa3 3 xc3] 72)).block _ (by simp)).trans (heap_alloc_new W3 _)) hl1
    have hr2 := IRows.one (heap_alloc_new (W3.alloc (.cells #[.slice la 3 lc] 72)) (.cells #[.slice xa3 3 xc3] 72)) hl2
    rw [World.size_alloc] at hr2
    have HSM := Lib.hid (same_any _ _ _ _ _ _ _ _ _ hr1 hr2 (by omega) (by omega) (fun _ _ => by omega) (fun _ _ => by omega))
    rw [sameB_of (fun _ _ => ⟨rfl, fun _ _ => rfl⟩)] at HSM
    clear hl1 hl2 hr1 hr2
    go_wp2_with (first | (go_at_call 45; refine HSM.out.mono ?_; rintro _ w8 ⟨rfl, hb8⟩; have HB8 := Lib.hid hb8; clear hb8) | (go_at_call 18; refine (HAW.out _).mono ?_; rintro _ w9 ⟨rfl, hb9⟩; have HB9 := Lib.hid hb9; clear hb9))
    go_ret
    exact ⟨rfl, below_step HBW.out (below_step (below_step (HB3.out.trans ((below_step (below_alloc _ _) (below_alloc _ _)).mono HB3.out.size)) HB8.out) HB9.out)⟩
  ·
    have hD : dueL false true = [0, 2] := rfl
    obtain rfl : n1 = 9 := HN1.out.symm.trans (by unfold agE; rw [hA]; rfl)
    obtain rfl : n2 = 0 := HN2.out.symm.trans (by unfold agE; rw [hB]; rfl)
    rw [hA, hB, hD] at HO
    rw [hD]
    simp only [List.length_cons, List.length_nil] at HO ⊢
    clear hA hB hD HN1 HN2
    have HB0 : Hid (Below wx.heap.size wx wx) := Below.refl _ _
    have HQ0 : Hid (wx.ownsRow wx.heap.size 3 1 (.slice none 0 0) 0 (intsV [])) := World.ownsRow_nil _ _ _ _
    go_wp2_with (at_builtin; refine wpList_append_src _ rfl (.tmp 75) (.tmp 76) 72 rfl wx.heap.size 3 i1 (.int .i64 0) 1 8 Try.underlying72 hi1 hy0 hy1 hy2 rfl (by decide) (.slice none 0 0) 0 (intsV []) rfl (HQ0.out.alloc (.cells #[.int .i64 0] 3)) (some ⟨wx.heap.size, 0, none⟩) 1 1 [.int .i64 0] rfl ⟨rfl, fun j u hu => ⟨_, rfl, World.news_of_block (heap_alloc_new wx _) j u hu⟩⟩ (by simp [Value.oneCell']) (by unfold maxLen; omega) (by omega) (by have := HB0.out.size; simp only [World.size_alloc]; omega) ?_)
    intro x1 W1 hown hgr hlt1
    have HB1 : Hid (Below wx.heap.size wx W1) := (HB0.out.trans ((below_alloc wx (.cells #[.int .i64 0] 3)).mono HB0.out.size)).trans ((Fr.grown hgr).low (by have := HB0.out.size; simp only [World.size_alloc]; omega) (fun q hq e => by have := (HQ0.out.lt q e).1; omega))
    obtain ⟨xa1, xc1, rfl⟩ := own_slice' hown
    have HQ1 : Hid (W1.ownsRow wx.heap.size 3 1 (.slice xa1 1 xc1) 1 (intsV [0])) := hown
    clear hown hgr hlt1
    go_wp2_with (at_builtin; refine wpList_append_src _ rfl (.tmp 85) (.tmp 86) 72 rfl wx.heap.size 3 i1 (.int .i64 0) 1 8 Try.underlying72 hi1 hy0 hy1 hy2 rfl (by decide) (.slice xa1 1 xc1) 1 (intsV [0]) rfl (HQ1.out.alloc (.cells #[.int .i64 2] 3)) (some ⟨W1.heap.size, 0, none⟩) 1 1 [.int .i64 2] rfl ⟨rfl, fun j u hu => ⟨_, rfl, World.news_of_block (heap_alloc_new W1 _) j u hu⟩⟩ (by simp [Value.oneCell']) (by unfold maxLen; omega) (by omega) (by have := HB1.out.size; simp only [World.size_alloc]; omega) ?_)
    intro x2 W2 hown hgr hlt1
    have HB2 : Hid (Below wx.heap.size wx W2) := (HB1.out.trans ((below_alloc W1 (.cells #[.int .i64 2] 3)).mono HB1.out.size)).trans ((Fr.grown hgr).low (by have := HB1.out.size; simp only [World.size_alloc]; omega) (fun q hq e => by have := (HQ1.out.lt q e).1; omega))
    obtain ⟨xa2, xc2, rfl⟩ := own_slice' hown
    have HQ2 : Hid (W2.ownsRow wx.heap.size 3 1 (.slice xa2 2 xc2) 2 (intsV [0, 2])) := hown
    clear hown hgr hlt1
    have hl1 : IntsAt ((W2.alloc (.cells #[.slice la 2 lc] 72)).alloc (.cells #[.slice xa2 2 xc2] 72)) (.slice la 2 lc) 2 (fun j => ([0, 2] : List Int).getD j 0) := (IntsAt.ofV (l := [0, 2]) (own_below HO.out HB2.out)).below (below_step (below_alloc _ _) (below_alloc _ _))
    have hl2 : IntsAt ((W2.alloc (.cells #[.slice la 2 lc] 72)).alloc (.cells #[.slice xa2 2 xc2] 72)) (.slice xa2 2 xc2) 2 (fun j => ([0, 2] : List Int).getD j 0) := (IntsAt.ofV (l := [0, 2]) HQ2.out).below (below_step (below_alloc _ _) (below_alloc _ _))
    have hr1 := IRows.one (b := W2.heap.size) (((below_alloc (W2.alloc (.cells #[.slice la 2 lc] 72)) (.cells #[.slice xa2 2 xc2] 72)).block _ (by simp)).trans (heap_alloc_new W2 _)) hl1
    have hr2 := IRows.one (heap_alloc_new (W2.alloc (.cells #[.slice la 2 lc] 72)) (.cells #[.slice xa2 2 xc2] 72)) hl2
    rw [World.size_alloc] at hr2
    have HSM := Lib.hid (same_any _ _ _ _ _ _ _ _ _ hr1 hr2 (by omega) (by omega) (fun _ _ => by omega) (fun _ _ => by omega))
    rw [sameB_of (fun _ _ => ⟨rfl, fun _ _ => rfl⟩)] at HSM
    clear hl1 hl2 hr1 hr2
    go_wp2_with (first | (go_at_call 45; refine HSM.out.mono ?_; rintro _ w8 ⟨rfl, hb8⟩; have HB8 := Lib.hid hb8; clear hb8) | (go_at_call 18; refine (HAW.out _).mono ?_; rintro _ w9 ⟨rfl, hb9⟩; have HB9 := Lib.hid hb9; clear hb9))
    go_ret
    exact ⟨rfl, below_step HBW.out (below_step (below_step (HB2.out.trans ((below_step (below_alloc _ _) (below_alloc _ _)).mono HB2.out.size)) HB8.out) HB9.out)⟩
  ·
    have hD : dueL true false = [1] := rfl
    obtain rfl : n1 = 0 := HN1.out.symm.trans (by unfold agE; rw [hA]; rfl)
    obtain rfl : n2 = 9 := HN2.out.symm.trans (by unfold agE; rw [hB]; rfl)
    rw [hA, hB, hD] at HO
    rw [hD]
    simp only [List.length_cons, List.length_nil] at HO ⊢
    clear hA hB hD HN1 HN2
    have HB0 : Hid (Below wx.heap.size wx wx) := Below.refl _ _
    have HQ0 : Hid (wx.ownsRow wx.heap.size 3 1 (.slice none 0 0) 0 (intsV [])) := World.ownsRow_nil _ _ _ _
    go_wp2_with (at_builtin; refine wpList_append_src _ rfl (.tmp 80) (.tmp 81) 72 rfl wx.heap.size 3 i1 (.int .i64 0) 1 8 Try.underlying72 hi1 hy0 hy1 hy2 rfl (by decide) (.slice none 0 0) 0 (intsV []) rfl (HQ0.out.alloc (.cells #[.int .i64 1] 3)) (some ⟨wx.heap.size, 0, none⟩) 1 1 [.int .i64 1] rfl ⟨rfl, fun j u hu => ⟨_, rfl, World.news_of_block (heap_alloc_new wx _) j u hu⟩⟩ (by simp [Value.oneCell']) (by unfold maxLen; omega) (by omega) (by have := HB0.out.size; simp only [World.size_alloc]; omega) ?_)
    intro x1 W1 hown hgr hlt1
    have HB1 : Hid (Below wx.heap.size wx W1) := (HB0.out.trans ((below_alloc wx (.cells #[.int .i64 1] 3)).mono HB0.out.size)).trans ((Fr.grown hgr).low (by have := HB0.out.size; simp only [World.size_alloc]; omega) (fun q hq e => by have := (HQ0.out.lt q e).1; omega))
    obtain ⟨xa1, xc1, rfl⟩ := own_slice' hown
    have HQ1 : Hid (W1.ownsRow wx.heap.size 3 1 (.slice xa1 1 xc1) 1 (intsV [1])) := hown
    clear hown hgr hlt1
    have hl1 : IntsAt ((W1.alloc (.cells #[.slice la 1 lc] 72)).alloc (.cells #[.slice xa1 1 xc1] 72)) (.slice la 1 lc) 1 (fun j => ([1] : List Int).getD j 0) := (IntsAt.ofV (l := [1]) (own_below HO.out HB1.out)).below (below_step (below_alloc _ _) (below_alloc _ _))
    have hl2 : IntsAt ((W1.alloc (.cells #[.slice la 1 lc] 72)).alloc (.cells #[.slice xa1 1 xc1] 72)) (.slice xa1 1 xc1) 1 (fun j => ([1] : List Int).getD j 0) := (IntsAt.ofV (l := [1]) HQ1.out).below (below_step (below_alloc _ _) (below_alloc _ _))
    have hr1 := IRows.one (b := W1.heap.size) (((below_alloc (W1.alloc (.cells #[.slice la 1 lc] 72)) (.cells #[.slice xa1 1 xc1] 72)).block _ (by simp)).trans (heap_alloc_new W1 _)) hl1
    have hr2 := IRows.one (heap_alloc_new (W1.alloc (.cells #[.slice la 1 lc] 72)) (.cells #[.slice xa1 1 xc1] 72)) hl2
    rw [World.size_alloc] at hr2
    have HSM := Lib.hid (same_any _ _ _ _ _ _ _ _ _ hr1 hr2 (by omega) (by omega) (fun _ _ => by omega) (fun _ _ => by omega))
    rw [sameB_of (fun _ _ => ⟨rfl, fun _ _ => rfl⟩)] at HSM
    clear hl1 hl2 hr1 hr2
    go_wp2_with (first | (go_at_call 45; refine HSM.out.mono ?_; rintro _ w8 ⟨rfl, hb8⟩; have HB8 := Lib.hid hb8; clear hb8) | (go_at_call 18; refine (HAW.out _).mono ?_; rintro _ w9 ⟨rfl, hb9⟩; have HB9 := Lib.hid hb9; clear hb9))
    go_ret
    exact ⟨rfl, below_step HBW.out (below_step (below_step (HB1.out.trans ((below_step (below_alloc _ _) (below_alloc _ _)).mono HB1.out.size)) HB8.out) HB9.out)⟩
  ·
    have hD : dueL true true = [] := rfl
    obtain rfl : n1 = 0 := HN1.out.symm.trans (by unfold agE; rw [hA]; rfl)
    obtain rfl : n2 = 0 := HN2.out.symm.trans (by unfold agE; rw [hB]; rfl)
    rw [hA, hB, hD] at HO
    rw [hD]
    simp only [List.length_nil] at HO ⊢
    clear hA hB hD HN1 HN2
    have HB0 : Hid (Below wx.heap.size wx wx) := Below.refl _ _
    have HQ0 : Hid (wx.ownsRow wx.heap.size 3 1 (.slice none 0 0) 0 (intsV [])) := World.ownsRow_nil _ _ _ _
    have hl1 : IntsAt ((wx.alloc (.cells #[.slice la 0 lc] 72)).alloc (.cells #[.slice none 0 0] 72)) (.slice la 0 lc) 0 (fun j => ([] : List Int).getD j 0) := (IntsAt.ofV (l := []) (own_below HO.out HB0.out)).below (below_step (below_alloc _ _) (below_alloc _ _))
    have hl2 : IntsAt ((wx.alloc (.cells #[.slice la 0 lc] 72)).alloc (.cells #[.slice none 0 0] 72)) (.slice none 0 0) 0 (fun j => ([] : List Int).getD j 0) := (IntsAt.ofV (l := []) HQ0.out).below (below_step (below_alloc _ _) (below_alloc _ _))
    have hr1 := IRows.one (b := wx.heap.size) (((below_alloc (wx.alloc (.cells #[.slice la 0 lc] 72)) (.cells #[.slice none 0 0] 72)).block _ (by simp)).trans (heap_alloc_new wx _)) hl1
    have hr2 := IRows.one (heap_alloc_new (wx.alloc (.cells #[.slice la 0 lc] 72)) (.cells #[.slice none 0 0] 72)) hl2
    rw [World.size_alloc] at hr2
    have HSM := Lib.hid (same_any _ _ _ _ _ _ _ _ _ hr1 hr2 (by omega) (by omega) (fun _ _ => by omega) (fun _ _ => by omega))
    rw [sameB_of (fun _ _ => ⟨rfl, fun _ _ => rfl⟩)] at HSM
    clear hl1 hl2 hr1 hr2
    go_wp2_with (first | (go_at_call 45; refine HSM.out.mono ?_; rintro _ w8 ⟨rfl, hb8⟩; have HB8 := Lib.hid hb8; clear hb8) | (go_at_call 18; refine (HAW.out _).mono ?_; rintro _ w9 ⟨rfl, hb9⟩; have HB9 := Lib.hid hb9; clear hb9))
    go_ret
    exact ⟨rfl, below_step HBW.out (below_step (below_step (HB0.out.trans ((below_step (below_alloc _ _) (below_alloc _ _)).mono HB0.out.size)) HB8.out) HB9.out)⟩
end Go.Proofs.Ytjaoflfophcibaa
