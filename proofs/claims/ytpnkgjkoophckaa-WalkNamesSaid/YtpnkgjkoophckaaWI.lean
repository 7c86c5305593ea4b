/- Walk: slow, Bounds. Printed by gen_wi.py. -/
import Derived.Test.YtpnkgjkoophckaaWH
namespace Go.Proofs.Ytpnkgjkoophckaa
open Go.RowKit Go.Shelf

set_option maxHeartbeats 4000000 in
theorem slow_any (x : MV) (m : Mp) (w : World) (h : MpIn w x m) (hnw : m.nw ≤ 100000) (hnr : m.nr ≤ 100000) :
    Calls Try.prog 91 #[.agg #[.slice x.wa m.nw x.wc, .slice x.ra m.nr x.rc]] w fun e w' => ∃ z : TV, e = .returned (.agg #[.slice z.wa m.nw z.wc, .slice z.ra m.nr z.rc]) ∧ TrOwn w.heap.size w' z m (fun i => (m.wk i).2) (fun i => (m.rt i).2) ∧ Below w.heap.size w w' := by
  have HEX := Lib.hid (fun W (hW : Below w.heap.size w W) => extreme_high x m W (h.below hW) hnw hnr)
  clear h
  have HA0 : Hid (BF w ((w.alloc (.cells #[.slice x.wa m.nw x.wc, .slice x.ra m.nr x.rc] 37)).alloc (.cells #[.slice none 0 0, .slice none 0 0] 98)) [(w.heap.size, #[.slice x.wa m.nw x.wc, .slice x.ra m.nr x.rc], 37), (w.heap.size + 1, #[.slice none 0 0, .slice none 0 0], 98)]) := BF.made2 _ _ _ _ _
  go_enter Try.func91, Try.ntmps91
  go_wp2_with fail
  generalize ((w.alloc (.cells #[.slice x.wa m.nw x.wc, .slice x.ra m.nr x.rc] 37)).alloc (.cells #[.slice none 0 0, .slice none 0 0] 98)) = w0 at *
  refine (HEX.out _ HA0.out.fr).mono ?_
  rintro _ w1 ⟨z, rfl, ht, hb⟩
  have HA1 := Lib.hid (HA0.out.below hb)
  have HT1 := Lib.hid (ht.mono HA0.out.fr.size)
  clear ht hb HA0 HEX
  have e0 := HA1.out.cell (.tail _ (.head _)) 0
  have e1 := HA1.out.cell (.tail _ (.head _)) 1
  have f0 := HA1.out.thaw (.tail _ (.head _)) 0
  have f1 := HA1.out.thaw (.tail _ (.head _)) 1
  have HA2 := Lib.hid (HA1.out.set2 (.tail _ (.head _)) (.slice z.wa m.nw z.wc) (.slice z.ra m.nr z.rc) (L' := []) (List.forall_mem_nil _))
  have HT2 := Lib.hid (HT1.out.tab (HA1.out.bk _ _ _ (.tail _ (.head _))).2 ((Fr.set w1 (w.heap.size + 1) 0 (.slice z.wa m.nw z.wc)).trans (Fr.set _ (w.heap.size + 1) 1 (.slice z.ra m.nr z.rc))))
  go_wp2_with fail
  have g0 := HA2.out.cell (.head _) 0
  have g1 := HA2.out.cell (.head _) 1
  exact bodyPost_ret (v := .agg #[.slice z.wa m.nw z.wc, .slice z.ra m.nr z.rc]) (by simp [results, Try.results91, go_sem, g0, g1]) rfl ⟨z, rfl, HT2.out, HA2.out.fr⟩
/-- Bounds: the error, the smallest and the greatest time. -/
def boundsE (m : Mp) (y : Wl) : Int := if m.fault ≠ 0 then m.fault else walkE m y
def boundsR (m : Mp) (y : Wl) : R2 := if boundsE m y = 0 then (timeZ m y (fun i => (m.wk i).1) (fun i => (m.rt i).1), timeZ m y (fun i => (m.wk i).2) (fun i => (m.rt i).2)) else (0, 0)
theorem trBd_low {m : Mp} (ok : OkM m) : TrBd m (fun i => (m.wk i).1) (fun i => (m.rt i).1) := ⟨fun i hi => by have := ok.wk i hi; omega, fun i hi => by have := ok.rt i hi; omega⟩
theorem trBd_high {m : Mp} (ok : OkM m) : TrBd m (fun i => (m.wk i).2) (fun i => (m.rt i).2) := ⟨fun i hi => by have := ok.wk i hi; omega, fun i hi => by have := ok.rt i hi; omega⟩
set_option maxRecDepth 100000 in
set_option maxHeartbeats 8000000 in
theorem bounds_any (x : MV) (m : Mp) (u : LV) (y : Wl) (w : World) (h : MpIn w x m) (hu : WlIn w u y) (hnw : m.nw ≤ 100000) (hnr : m.nr ≤ 100000) (h1 : y.nl ≤ 100000) (h2 : y.nc ≤ 100000) :
    Calls Try.prog 55 #[.agg #[.slice x.wa m.nw x.wc, .slice x.ra m.nr x.rc], .agg #[.slice u.ra y.nl u.rc, .slice u.ca y.nc u.cc]] w fun e w' => e = .returned (.tuple #[.agg #[.int .i64 (boundsR m y).1, .int .i64 (boundsR m y).2], .int .i64 (boundsE m y)]) ∧ Below w.heap.size w w' := by
  have HCK := Lib.hid (fun W (hW : Below w.heap.size w W) => check_any x m W (h.below hW) hnw hnr)
  have HWK := Lib.hid (fun W (hW : Below w.heap.size w W) => walk_any x m u y W (h.below hW) (hu.below hW) hnr h1 h2)
  have HLO := Lib.hid (fun W (hW : Below w.heap.size w W) => extreme_low x m W (h.below hW) hnw hnr)
  have HHI := Lib.hid (fun W (hW : Below w.heap.size w W) => slow_any x m W (h.below hW) hnw hnr)
  have HTM := Lib.hid (fun (ok : OkM m) (hy : WlOk m y) (z : TV) tw tr (hbd : TrBd m tw tr) W (hW : Below w.heap.size w W) (hz : TrIn W z m tw tr) => time_any x m u y z tw tr W (h.below hW) (hu.below hW) hz ok hy h2 hbd)
  clear h hu
  have HBE : Hid (boundsE m y = if m.fault ≠ 0 then m.fault else walkE m y) := rfl
  have HBR : Hid (boundsR m y = if boundsE m y = 0 then (timeZ m y (fun i => (m.wk i).1) (fun i => (m.rt i).1), timeZ m y (fun i => (m.wk i).2) (fun i => (m.rt i).2)) else (0, 0)) := rfl
  generalize boundsR m y = br at *
  generalize boundsE m y = be at *
  obtain ⟨b1, b2⟩ := br
  have HA0 : Hid (BF w (((w.alloc (.cells #[.slice x.wa m.nw x.wc, .slice x.ra m.nr x.rc] 37)).alloc (.cells #[.slice u.ra y.nl u.rc, .slice u.ca y.nc u.cc] 30)).alloc (.cells #[.int .i64 0, .int .i64 0] 100)) [(w.heap.size, #[.slice x.wa m.nw x.wc, .slice x.ra m.nr x.rc], 37), (w.heap.size + 1, #[.slice u.ra y.nl u.rc, .slice u.ca y.nc u.cc], 30), (w.heap.size + 2, #[.int .i64 0, .int .i64 0], 100)]) := BF.made3 _ _ _ _ _ _ _
  have HOKM := Lib.hid (okM_of (m := m))
  have HOKY := Lib.hid (fun ok : OkM m => wlOk_of ok (y := y))
  generalize m.fault = ft at *
  generalize walkE m y = we at *
  generalize hT1 : timeZ m y (fun i => (m.wk i).1) (fun i => (m.rt i).1) = t1 at *
  generalize hT2 : timeZ m y (fun i => (m.wk i).2) (fun i => (m.rt i).2) = t2 at *
  have HT1 := Lib.hid hT1; have HT2 := Lib.hid hT2
  clear hT1 hT2
  generalize y.nl = nl at *
  generalize y.nc = nc at *
  obtain ⟨xa, xb, xc, xd⟩ := x
  obtain ⟨ua, ub, uc, ud⟩ := u
  simp only at *
  go_enter Try.func55, Try.ntmps55
  go_wp2_with fail
  generalize (((w.alloc (.cells #[.slice xa m.nw xb, .slice xc m.nr xd] 37)).alloc (.cells #[.slice ua nl ub, .slice uc nc ud] 30)).alloc (.cells #[.int .i64 0, .int .i64 0] 100)) = w0 at *
  refine (HCK.out _ HA0.out.fr).mono ?_
  rintro _ w1 ⟨rfl, hb⟩
  have HA1 := Lib.hid (HA0.out.below hb)
  clear hb HA0 HCK
  by_cases k1 : ft = 0
  case neg =>
    have e0 := HA1.out.cell (.tail _ (.tail _ (.head _))) 0
    have e1 := HA1.out.cell (.tail _ (.tail _ (.head _))) 1
    have f0 := HA1.out.thaw (.tail _ (.tail _ (.head _))) 0
    have f1 := HA1.out.thaw (.tail _ (.tail _ (.head _))) 1
    have HA2 := Lib.hid (HA1.out.set2 (.tail _ (.tail _ (.head _))) (.int .i64 0) (.int .i64 0) (L' := []) (List.forall_mem_nil _))
    have kb : (ft != 0) = true := by simp [k1]
    go_wp2_with fail
    have g0 := HA2.out.cell (.head _) 0
    have g1 := HA2.out.cell (.head _) 1
    have hbe := HBE.out
    rw [if_pos k1] at hbe
    have hbr := HBR.out
    rw [hbe, if_neg k1] at hbr
    cases hbr
    exact bodyPost_ret (v := .tuple #[.agg #[.int .i64 0, .int .i64 0], .int .i64 ft]) (by simp [results, Try.results55, go_sem, g0, g1]) rfl ⟨by rw [hbe], HA2.out.fr⟩
  subst k1
  have hok := HOKM.out rfl
  have HBE2 : Hid (be = we) := HBE.out
  have c0 := HA1.out.cell (.head _) 0; have c1 := HA1.out.cell (.head _) 1
  have c2 := HA1.out.cell (.tail _ (.head _)) 0; have c3 := HA1.out.cell (.tail _ (.head _)) 1
  by_cases k2 : we = 0
  case neg =>
    have kb : (we != 0) = true := by simp [k2]
    go_wp2_with (go_at_call 86; refine (HWK.out _ HA1.out.fr).mono ?_; rintro _ w2 ⟨rfl, hb⟩; have HA2 := Lib.hid (HA1.out.below hb); have e0 := HA2.out.cell (.tail _ (.tail _ (.head _))) 0; have e1 := HA2.out.cell (.tail _ (.tail _ (.head _))) 1; have f0 := HA2.out.thaw (.tail _ (.tail _ (.head _))) 0; have f1 := HA2.out.thaw (.tail _ (.tail _ (.head _))) 1; have HA3 := Lib.hid (HA2.out.set2 (.tail _ (.tail _ (.head _))) (.int .i64 0) (.int .i64 0) (L' := []) (List.forall_mem_nil _)); clear hb c0 c1 c2 c3)
    have g0 := HA3.out.cell (.head _) 0
    have g1 := HA3.out.cell (.head _) 1
    have hbr := HBR.out
    rw [HBE2.out, if_neg k2] at hbr
    cases hbr
    exact bodyPost_ret (v := .tuple #[.agg #[.int .i64 0, .int .i64 0], .int .i64 we]) (by simp [results, Try.results55, go_sem, g0, g1]) rfl ⟨by rw [HBE2.out], HA3.out.fr⟩
  subst k2
  have hyk := HOKY.out hok rfl
  have HT1 : Hid (∀ (z : TV) W, Below w.heap.size w W → TrIn W z m (fun i => (m.wk i).1) (fun i => (m.rt i).1) → Calls Try.prog 88 #[.agg #[.slice xa m.nw xb, .slice xc m.nr xd], .agg #[.slice ua nl ub, .slice uc nc ud], .agg #[.slice z.wa m.nw z.wc, .slice z.ra m.nr z.rc]] W fun e w' => e = .returned (.int .i64 t1) ∧ Below W.heap.size W w') := fun z W hW hz => by rw [← HT1.out]; exact HTM.out hok hyk z _ _ (trBd_low hok) W hW hz
  have HT2 : Hid (∀ (z : TV) W, Below w.heap.size w W → TrIn W z m (fun i => (m.wk i).2) (fun i => (m.rt i).2) → Calls Try.prog 88 #[.agg #[.slice xa m.nw xb, .slice xc m.nr xd], .agg #[.slice ua nl ub, .slice uc nc ud], .agg #[.slice z.wa m.nw z.wc, .slice z.ra m.nr z.rc]] W fun e w' => e = .returned (.int .i64 t2) ∧ Below W.heap.size W w') := fun z W hW hz => by rw [← HT2.out]; exact HTM.out hok hyk z _ _ (trBd_high hok) W hW hz
  have HC7 : Hid (∀ X, BF w X [(w.heap.size, #[.slice xa m.nw xb, .slice xc m.nr xd], 37), (w.heap.size + 1, #[.slice ua nl ub, .slice uc nc ud], 30), (w.heap.size + 2, #[.int .i64 0, .int .i64 0], 100)] → X.cell? ⟨w.heap.size, 0, none⟩ = some (.slice xa m.nw xb) ∧ X.cell? ⟨w.heap.size, 1, none⟩ = some (.slice xc m.nr xd) ∧ X.cell? ⟨w.heap.size + 1, 0, none⟩ = some (.slice ua nl ub) ∧ X.cell? ⟨w.heap.size + 1, 1, none⟩ = some (.slice uc nc ud)) := fun X hX => ⟨hX.cell (.head _) 0, hX.cell (.head _) 1, hX.cell (.tail _ (.head _)) 0, hX.cell (.tail _ (.head _)) 1⟩
  have hbr := HBR.out
  rw [HBE2.out, if_pos rfl] at hbr
  have HB1 : Hid (b1 = t1) := (Prod.mk.inj hbr).1
  have HB2 : Hid (b2 = t2) := (Prod.mk.inj hbr).2
  clear HTM HOKM HOKY hok hyk hbr HBR HBE
  go_upto_region 7 with (go_at_call 86; refine (HWK.out _ HA1.out.fr).mono ?_; rintro _ w2 ⟨rfl, hb⟩; have HA2 := Lib.hid (HA1.out.below hb); clear hb c0 c1 c2 c3)
  have HAX : Hid (BF w w2.drew [(w.heap.size, #[.slice xa m.nw xb, .slice xc m.nr xd], 37), (w.heap.size + 1, #[.slice ua nl ub, .slice uc nc ud], 30), (w.heap.size + 2, #[.int .i64 0, .int .i64 0], 100)]) := HA2.out.below (Below.refl _ _).drew
  refine wp_region_Z (S := fun X => X.cell? ⟨w.heap.size, 0, none⟩ = some (.slice xa m.nw xb) ∧ X.cell? ⟨w.heap.size, 1, none⟩ = some (.slice xc m.nr xd) ∧ X.cell? ⟨w.heap.size + 1, 0, none⟩ = some (.slice ua nl ub) ∧ X.cell? ⟨w.heap.size + 1, 1, none⟩ = some (.slice uc nc ud)) (by kernel_rfl) (HC7.out _ HAX.out) (fun hS => ?_)
  generalize w2.drew = X at *
  clear HA2
  refine tk [0, 1, 2, 3, 6, 7, 8] ?_
  repeat (refine tkZ (oi := ⟨_, _, _, _, _, _⟩) (v := ?_) rfl (by kernel_rfl) (by rfl) (fun _ _ _ h => h) hS ?_ ?_; rotate_left; (· rintro W' ⟨z0, z1, z2, z3⟩; go_simp; try with_reducible rfl); try simp only [Act.put, putA, putZ, putS])
  refine tk0 ?_
  refine wpAnyZ_next (rs := [4]) (by kernel_rfl) (by simp) ?_
  refine NextZ.cons (o := ⟨some 25, _, _, _, _, _⟩) rfl (fun K hK => ?_) NextZ.nil
  go_simp
  refine (HLO.out _ HAX.out.fr).mono ?_
  rintro _ X0 ⟨zlo, rfl, ht0, hb0⟩
  (try go_wp2_with fail)
  have HA0 := Lib.hid (HAX.out.below hb0)
  have HTRlo0 := Lib.hid ht0
  clear ht0
  refine hK.out _ _ (⟨HA0.out.cell (.head _) 0, HA0.out.cell (.head _) 1, HA0.out.cell (.tail _ (.head _)) 0, HA0.out.cell (.tail _ (.head _)) 1⟩) (fun hS => ?_)
  clear hK K
  try simp only [Act.put, putA, putZ, putS]
  clear hb0
  refine wpAnyZ_next (rs := [5]) (by kernel_rfl) (by simp) ?_
  refine NextZ.cons (o := ⟨some 26, _, _, _, _, _⟩) rfl (fun K hK => ?_) NextZ.nil
  go_simp
  refine (HT1.out zlo _ HA0.out.fr HTRlo0.out.tr).mono ?_
  rintro _ X1 ⟨rfl, hb1⟩
  (try go_wp2_with fail)
  have HTRlo1 := Lib.hid (HTRlo0.out.below hb1)
  have HA1 := Lib.hid (HA0.out.below hb1)
  refine hK.out _ _ (⟨HA1.out.cell (.head _) 0, HA1.out.cell (.head _) 1, HA1.out.cell (.tail _ (.head _)) 0, HA1.out.cell (.tail _ (.head _)) 1⟩) (fun hS => ?_)
  clear hK K
  try simp only [Act.put, putA, putZ, putS]
  clear hb1
  refine wpAnyZ_next (rs := [9]) (by kernel_rfl) (by simp) ?_
  refine NextZ.cons (o := ⟨some 30, _, _, _, _, _⟩) rfl (fun K hK => ?_) NextZ.nil
  go_simp
  refine (HHI.out _ HA1.out.fr).mono ?_
  rintro _ X2 ⟨zhi, rfl, ht2, hb2⟩
  (try go_wp2_with fail)
  have HTRlo2 := Lib.hid (HTRlo1.out.below hb2)
  have HA2 := Lib.hid (HA1.out.below hb2)
  have HTRhi2 := Lib.hid ht2
  clear ht2
  refine hK.out _ _ (⟨HA2.out.cell (.head _) 0, HA2.out.cell (.head _) 1, HA2.out.cell (.tail _ (.head _)) 0, HA2.out.cell (.tail _ (.head _)) 1⟩) (fun hS => ?_)
  clear hK K
  try simp only [Act.put, putA, putZ, putS]
  clear hb2
  refine wpAnyZ_next (rs := [10]) (by kernel_rfl) (by simp) ?_
  refine NextZ.cons (o := ⟨some 31, _, _, _, _, _⟩) rfl (fun K hK => ?_) NextZ.nil
  go_simp
  refine (HT2.out zhi _ HA2.out.fr HTRhi2.out.tr).mono ?_
  rintro _ X3 ⟨rfl, hb3⟩
  (try go_wp2_with fail)
  have HTRlo3 := Lib.hid (HTRlo2.out.below hb3)
  have HTRhi3 := Lib.hid (HTRhi2.out.below hb3)
  have HA3 := Lib.hid (HA2.out.below hb3)
  refine hK.out _ _ (⟨HA3.out.cell (.head _) 0, HA3.out.cell (.head _) 1, HA3.out.cell (.tail _ (.head _)) 0, HA3.out.cell (.tail _ (.head _)) 1⟩) (fun hS => ?_)
  clear hK K
  try simp only [Act.put, putA, putZ, putS]
  clear hb3
  refine tZ 11 (oi := ⟨_, _, _, _, _, _⟩) (v := ?_) rfl (by kernel_rfl) (by rfl) (fun _ _ _ h => h) hS ?_ ?_
  rotate_left
  · rintro W' ⟨z0, z1, z2, z3⟩; go_simp; try with_reducible rfl
  try simp only [Act.put, putA, putZ, putS]
  refine wpAnyZ_next (rs := [12]) (by kernel_rfl) (by simp) ?_
  refine NextZ.cons (o := ⟨none, _, _, _, _, _⟩) rfl (fun K hK => ?_) NextZ.nil
  have e0 := HA3.out.cell (.tail _ (.tail _ (.head _))) 0
  have e1 := HA3.out.cell (.tail _ (.tail _ (.head _))) 1
  have f0 := HA3.out.thaw (.tail _ (.tail _ (.head _))) 0
  have f1 := HA3.out.thaw (.tail _ (.tail _ (.head _))) 1
  have HA4 := Lib.hid (BF.set2 HA3.out (.tail _ (.tail _ (.head _))) (.int .i64 t1) (.int .i64 t2) (L' := [(w.heap.size, #[.slice xa m.nw xb, .slice xc m.nr xd], 37), (w.heap.size + 1, #[.slice ua nl ub, .slice uc nc ud], 30)]) (List.forall_mem_cons.2 ⟨⟨show w.heap.size ≠ w.heap.size + 2 by omega, (.head _)⟩, List.forall_mem_cons.2 ⟨⟨show w.heap.size + 1 ≠ w.heap.size + 2 by omega, (.tail _ (.head _))⟩, List.forall_mem_nil _⟩⟩))
  go_simp
  refine hK.out _ _ (⟨HA4.out.cell (.tail _ (.head _)) 0, HA4.out.cell (.tail _ (.head _)) 1, HA4.out.cell (.tail _ (.tail _ (.head _))) 0, HA4.out.cell (.tail _ (.tail _ (.head _))) 1⟩) (fun hS => ?_)
  clear hK K
  (try simp only [Act.put])
  clear e0 e1 f0 f1
  refine tZ 13 (oi := ⟨_, _, _, _, _, _⟩) (v := ?_) rfl (by kernel_rfl) (by rfl) (fun _ _ _ h => h) hS ?_ ?_
  rotate_left
  · rintro W' ⟨z0, z1, z2, z3⟩; go_simp; try with_reducible rfl
  try simp only [Act.put, putA, putZ, putS]
  refine wpAnyZ_done (by kernel_rfl) ?_ _
  go_wp2_with fail
  have g0 := HA4.out.cell (.head _) 0
  have g1 := HA4.out.cell (.head _) 1
  exact bodyPost_ret (v := .tuple #[.agg #[.int .i64 t1, .int .i64 t2], .int .i64 0]) (by simp [results, Try.results55, go_sem, g0, g1]) rfl ⟨by rw [HB1.out, HB2.out, HBE2.out], HA4.out.fr⟩
end Go.Proofs.Ytpnkgjkoophckaa
