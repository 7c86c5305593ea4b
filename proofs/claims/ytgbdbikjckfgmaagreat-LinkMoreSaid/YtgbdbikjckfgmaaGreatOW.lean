/- Link: LinkMore's walk. Printed by gen_ow.py. -/
import Derived.Test.YtgbdbikjckfgmaaGreatOV
namespace Go.Proofs.YtgbdbikjckfgmaaGreat
open Go.RowKit Go.Shelf

theorem Tryz.infoRMv : (Tryz.prog.info? 63).map (fun i => (i.zero, i.size, i.bytes)) = some (some (.agg #[.int .i64 0, .int .i64 0]), 2, 16) := by kernel_rfl
set_option maxRecDepth 100000 in
set_option maxHeartbeats 64000000 in
theorem linkMore_old (x : FV) (f : Fl) (ee : En) (erv ecv env : Value) (ga gb : Int) (w : World) (h : FlQ QR w x f) (he : QR w erv ecv env ee) (hb1 : f.no * 104 ≤ reachBytes) (hb2 : f.nw * 104 ≤ reachBytes) (hb3 : f.nm * 16 ≤ reachBytes) :
    Calls Tryz.prog 11 #[.agg #[.slice x.oa f.no x.oc, .slice x.na f.nw x.nc, .slice x.ma f.nm x.mc], .agg #[.int .i64 ee.p.lo, .int .i64 ee.p.hi, erv, ecv, .int .i64 ee.sex, env, .int .i64 ee.pl], .agg #[.int .i64 ga, .int .i64 gb], .bool true] w fun e w' => e = .returned (.bool true) ∧ Below w.heap.size w w' := by
  obtain ⟨oa, oc, na, nc, ma, mc⟩ := x
  obtain ⟨i0, hi0, hz0, hz1, hz2⟩ := info_parts Tryz.infoREntry
  obtain ⟨j0, hj0, hj1, hj2, hj3⟩ := info_parts Tryz.infoRMv
  obtain ⟨VO, hO, sO⟩ := h.o.pick
  obtain ⟨VN, hN, sN⟩ := h.n.pick
  have HSO := Lib.hid (fun X (hb : Below w.heap.size w X) => sO.below (fun p v hv => below_cell hb p v hv))
  have HSN := Lib.hid (fun X (hb : Below w.heap.size w X) => sN.below (fun p v hv => below_cell hb p v hv))
  have sM := rs_src h.m
  have HSM := Lib.hid (fun X (hb : Below w.heap.size w X) => sM.below (fun p v hv => below_cell hb p v hv))
  have HUO := Lib.hid (eF_oneR hO)
  have HUN := Lib.hid (eF_oneR hN)
  have HUM := Lib.hid (mvL_oneC f.mf f.mt f.nm)
  have HBY : Hid (f.no * 104 ≤ 140737488351232 ∧ f.nw * 104 ≤ 140737488351232 ∧ f.nm * 16 ≤ 140737488351232) := ⟨hb1, hb2, hb3⟩
  have HU7 : Hid (∀ u ∈ [Value.int .i64 ee.p.lo, .int .i64 ee.p.hi, erv, ecv, .int .i64 ee.sex, env, .int .i64 ee.pl], u.oneCell' = true) := fun u hu => by
    obtain ⟨o1, o2, o3⟩ := he.one
    simp only [List.mem_cons, List.not_mem_nil, or_false] at hu
    rcases hu with rfl | rfl | rfl | rfl | rfl | rfl | rfl
    · rfl
    · rfl
    · exact o1
    · exact o2
    · rfl
    · exact o3
    · rfl
  have HQX : Hid (∀ W B1 va vc, Below w.heap.size w W → W.ownsRow B1 77 7 (.slice va (f.no + 1) vc) (f.no + 1) (eF f.O VO f.no ++ [.int .i64 ee.p.lo, .int .i64 ee.p.hi, erv, ecv, .int .i64 ee.sex, env, .int .i64 ee.pl]) → ((∀ X, Below W.heap.size W X → Calls Tryz.prog 34 #[.agg #[.slice va (f.no + 1) vc, .slice na f.nw nc, .slice ma f.nm mc]] X fun e w' => e = .returned (.bool (f.addO ee).rdy) ∧ Below X.heap.size X w') ∧ ((f.addO ee).rdy = true → ∀ X, Below W.heap.size W X → Calls Tryz.prog 21 #[.agg #[.slice va (f.no + 1) vc, .slice na f.nw nc, .slice ma f.nm mc]] X fun e w' => ∃ z : FV, e = .returned (.agg #[.slice z.oa (f.no + 1) z.oc, .slice z.na f.nw z.nc, .slice z.ma f.nm z.mc]) ∧ FlQ QP w' z (f.addO ee) ∧ Below X.heap.size X w'))) := fun W B1 va vc hW how => by
    have how2 : W.ownsRow B1 77 7 (.slice va (f.no + 1) vc) (f.no + 1) (eF (addE f.O f.no ee) (fun j => if j < f.no then VO j else (erv, ecv, env)) (f.no + 1)) := by rw [← eF_snoc]; exact how
    have hQ : ∀ j, j < f.no + 1 → QR W ((fun j => if j < f.no then VO j else (erv, ecv, env) : V3) j).1 ((fun j => if j < f.no then VO j else (erv, ecv, env) : V3) j).2.1 ((fun j => if j < f.no then VO j else (erv, ecv, env) : V3) j).2.2 (addE f.O f.no ee j) := fun j hj => by
      unfold addE
      by_cases c : j < f.no
      · simp only [if_pos c]; exact QR.k _ _ _ _ _ _ (hO j c) hW
      · simp only [if_neg c]; exact QR.k _ _ _ _ _ _ he hW
    have hq : FlQ QR W ⟨va, vc, na, nc, ma, mc⟩ (f.addO ee) := ⟨EsQ.own how2 hQ, (h.below QR.k hW).n, (h.below QR.k hW).m⟩
    exact ⟨readyW ⟨va, vc, na, nc, ma, mc⟩ (f.addO ee) W hq _ rfl, fun hr => fileW ⟨va, vc, na, nc, ma, mc⟩ (f.addO ee) W hq (Fl.rdy_yes hr).1⟩
  have HQY : Hid (∀ W B2 vb vd, Below w.heap.size w W → W.ownsRow B2 63 2 (.slice vb (f.nm + 1) vd) (f.nm + 1) (mvL f.mf f.mt f.nm ++ [.int .i64 ga, .int .i64 gb]) → ((∀ X, Below W.heap.size W X → Calls Tryz.prog 34 #[.agg #[.slice oa f.no oc, .slice na f.nw nc, .slice vb (f.nm + 1) vd]] X fun e w' => e = .returned (.bool (f.addM ga gb).rdy) ∧ Below X.heap.size X w') ∧ ((f.addM ga gb).rdy = true → ∀ X, Below W.heap.size W X → Calls Tryz.prog 21 #[.agg #[.slice oa f.no oc, .slice na f.nw nc, .slice vb (f.nm + 1) vd]] X fun e w' => ∃ z : FV, e = .returned (.agg #[.slice z.oa f.no z.oc, .slice z.na f.nw z.nc, .slice z.ma (f.nm + 1) z.mc]) ∧ FlQ QP w' z (f.addM ga gb) ∧ Below X.heap.size X w'))) := fun W B2 vb vd hW how => by
    rw [mvL_one] at how
    have hq : FlQ QR W ⟨oa, oc, na, nc, vb, vd⟩ (f.addM ga gb) := ⟨(h.below QR.k hW).o, (h.below QR.k hW).n, mvL_own how⟩
    exact ⟨readyW ⟨oa, oc, na, nc, vb, vd⟩ (f.addM ga gb) W hq _ rfl, fun hr => fileW ⟨oa, oc, na, nc, vb, vd⟩ (f.addM ga gb) W hq (Fl.rdy_yes hr).1⟩
  have HRF := Lib.hid (readyW ⟨oa, oc, na, nc, ma, mc⟩ f w h f.rdy rfl)
  have HFF : Hid (f.rdy = true → ∀ X, Below w.heap.size w X → Calls Tryz.prog 21 #[.agg #[.slice oa f.no oc, .slice na f.nw nc, .slice ma f.nm mc]] X fun e w' => ∃ z : FV, e = .returned (.agg #[.slice z.oa f.no z.oc, .slice z.na f.nw z.nc, .slice z.ma f.nm z.mc]) ∧ FlQ QP w' z f ∧ Below X.heap.size X w') := fun hr => fileW ⟨oa, oc, na, nc, ma, mc⟩ f w h (Fl.rdy_yes hr).1
  have HMF : Hid ((f).rdy = true → ∀ (z : FV) X, FlQ QP X z (f) → Calls Tryz.prog 42 #[.agg #[.slice z.oa f.no z.oc, .slice z.na f.nw z.nc, .slice z.ma f.nm z.mc]] X fun e w' => e = .returned (.tuple #[.int .i64 ((f).most : Int), .int .i64 0]) ∧ Below X.heap.size X w') := fun hr z X hq => mostF_ok z f X hq (Fl.rdy_yes hr).2
  have HMX : Hid ((f.addO ee).rdy = true → ∀ (z : FV) X, FlQ QP X z (f.addO ee) → Calls Tryz.prog 42 #[.agg #[.slice z.oa (f.no + 1) z.oc, .slice z.na f.nw z.nc, .slice z.ma f.nm z.mc]] X fun e w' => e = .returned (.tuple #[.int .i64 ((f.addO ee).most : Int), .int .i64 0]) ∧ Below X.heap.size X w') := fun hr z X hq => mostF_ok z (f.addO ee) X hq (Fl.rdy_yes hr).2
  have HMY : Hid ((f.addM ga gb).rdy = true → ∀ (z : FV) X, FlQ QP X z (f.addM ga gb) → Calls Tryz.prog 42 #[.agg #[.slice z.oa f.no z.oc, .slice z.na f.nw z.nc, .slice z.ma (f.nm + 1) z.mc]] X fun e w' => e = .returned (.tuple #[.int .i64 ((f.addM ga gb).most : Int), .int .i64 0]) ∧ Below X.heap.size X w') := fun hr z X hq => mostF_ok z (f.addM ga gb) X hq (Fl.rdy_yes hr).2
  have HLW : Hid (f.rdy = true → (f.addO ee).rdy = true → (f.addM ga gb).rdy = true → f.most ≤ (f.addO ee).most ∧ (f.addO ee).most ≤ f.most + 1 ∧ f.most ≤ (f.addM ga gb).most) := fun h1 h2 h3 => by
    have o1 := Fl.ok (Fl.rdy_yes h1).2
    have o2 := Fl.ok (Fl.rdy_yes h2).2
    have o3 := Fl.ok (Fl.rdy_yes h3).2
    exact ⟨(addO_law o1 o2).1, (addO_law o1 o2).2, addM_law o1 o3⟩
  have HM8 : Hid (f.rdy = true → f.most ≤ 8) := fun h1 => by
    exact (Fl.ok (Fl.rdy_yes h1).2).most8
  clear h he hO sO hN sN sM hb1 hb2 hb3
  dsimp only at HRF HSO HSN HSM ⊢
  generalize (f.addM ga gb).rdy = ry at *
  generalize (f.addM ga gb).most = my at *
  generalize f.addM ga gb = fy at *
  generalize (f.addO ee).rdy = rx at *
  generalize (f.addO ee).most = mx at *
  generalize f.addO ee = fx at *
  generalize f.rdy = rf at *
  generalize f.most = mf at *
  generalize ee.p.lo = elo at *
  generalize ee.p.hi = ehi at *
  generalize ee.sex = esx at *
  generalize ee.pl = epl at *
  obtain ⟨xo2, hes⟩ : ∃ l, eF f.O VO f.no ++ [.int .i64 elo, .int .i64 ehi, erv, ecv, .int .i64 esx, env, .int .i64 epl] = l := ⟨_, rfl⟩
  obtain ⟨xm2, hem⟩ : ∃ l, mvL f.mf f.mt f.nm ++ [.int .i64 ga, .int .i64 gb] = l := ⟨_, rfl⟩
  rw [hes] at HQX
  rw [hem] at HQY
  have HES := Lib.hid hes
  have HEM := Lib.hid hem
  clear hes hem
  generalize eF f.O VO f.no = xo at *
  generalize eF f.N VN f.nw = xn at *
  generalize mvL f.mf f.mt f.nm = xm at *
  generalize f.no = no at *
  generalize f.nw = nw at *
  generalize f.nm = nm at *
  have HA0 : Hid (BF w (((w.alloc (.cells #[.slice oa no oc, .slice na nw nc, .slice ma nm mc] 25)).alloc (.cells #[.int .i64 elo, .int .i64 ehi, erv, ecv, .int .i64 esx, env, .int .i64 epl] 77)).alloc (.cells #[.int .i64 ga, .int .i64 gb] 63)) [(w.heap.size, #[.slice oa no oc, .slice na nw nc, .slice ma nm mc], 25), (w.heap.size + 1, #[.int .i64 elo, .int .i64 ehi, erv, ecv, .int .i64 esx, env, .int .i64 epl], 77), (w.heap.size + 1 + 1, #[.int .i64 ga, .int .i64 gb], 63)]) := BF.made3 w _ _ _ _ _ _
  go_enter Tryz.func11, Tryz.ntmps11
  go_upto_region 1 with fail
  generalize (((w.alloc (.cells #[.slice oa no oc, .slice na nw nc, .slice ma nm mc] 25)).alloc (.cells #[.int .i64 elo, .int .i64 ehi, erv, ecv, .int .i64 esx, env, .int .i64 epl] 77)).alloc (.cells #[.int .i64 ga, .int .i64 gb] 63)) = w0 at *
  obtain ⟨MB, hMB⟩ : ∃ b, w.heap.size + 1 + 1 = b := ⟨_, rfl⟩
  rw [hMB] at HA0 ⊢
  obtain ⟨EB, hEB⟩ : ∃ b, w.heap.size + 1 = b := ⟨_, rfl⟩
  rw [hEB] at HA0 ⊢
  have HDI : Hid (w.heap.size ≠ EB ∧ w.heap.size ≠ MB ∧ EB ≠ MB) := ⟨by omega, by omega, by omega⟩
  clear hMB hEB
  have HAX := Lib.hid (HA0.out.below (Below.refl w0.heap.size _).drew)
  clear HA0
  go_cut [9, 10] (fun s9 s10 wc => ∃ XB YB, s9 = .pointer (some ⟨XB, 0, none⟩) ∧ s10 = .pointer (some ⟨YB, 0, none⟩) ∧ (XB ≠ YB ∧ w.heap.size ≠ XB ∧ w.heap.size ≠ YB ∧ EB ≠ XB ∧ EB ≠ YB ∧ MB ≠ XB ∧ MB ≠ YB) ∧ BF w wc [(XB, #[.slice oa no oc, .slice na nw nc, .slice ma nm mc], 25), (YB, #[.slice oa no oc, .slice na nw nc, .slice ma nm mc], 25), (w.heap.size, #[.slice oa no oc, .slice na nw nc, .slice ma nm mc], 25), (EB, #[.int .i64 elo, .int .i64 ehi, erv, ecv, .int .i64 esx, env, .int .i64 epl], 77), (MB, #[.int .i64 ga, .int .i64 gb], 63)])
  case first =>
    refine wp_region_Z (S := fun X => X.cell? ⟨w.heap.size, 0, none⟩ = some (.slice oa no oc) ∧ X.cell? ⟨w.heap.size, 1, none⟩ = some (.slice na nw nc) ∧ X.cell? ⟨w.heap.size, 2, none⟩ = some (.slice ma nm mc)) (by kernel_rfl) (⟨HAX.out.cell (.head _) 0, HAX.out.cell (.head _) 1, HAX.out.cell (.head _) 2⟩) (fun hS => ?_)
    generalize w0.drew = X at *
    refine tk [0, 1] ?_
    repeat (refine tkZ (oi := ⟨_, _, _, _, _, _⟩) (v := ?_) rfl (by kernel_rfl) (by rfl) (fun _ _ _ h => h) hS ?_ ?_; rotate_left; (· rintro W' ⟨z0, z1, z2⟩; go_simp; try with_reducible rfl); try simp only [Act.put, putA, putZ, putS])
    refine tk0 ?_
    refine wpAnyZ_next (rs := [2, 3]) (by kernel_rfl) (by simp) ?_
    refine NextZ.cons (o := ⟨some 9, _, _, _, _, _⟩) rfl (fun K hK => ?_) ?_
    ·
     go_simp
     have HA0 := Lib.hid (HAX.out.alloc #[.slice none 0 0, .slice none 0 0, .slice none 0 0] 25)
     have hn0F := (HAX.out.lt (.head _)).2
     have hn0E := (HAX.out.lt (.tail _ (.head _))).2
     have hn0M := (HAX.out.lt (.tail _ (.tail _ (.head _)))).2
     have hn0_ := HAX.out.fr.size
     refine hK.out _ _ (⟨HA0.out.cell (.tail _ (.head _)) 0, HA0.out.cell (.tail _ (.head _)) 1, HA0.out.cell (.tail _ (.head _)) 2⟩) (fun hS => ?_)
     clear hK K
     try simp only [Act.put, putA, putZ, putS]
     generalize X.heap.size = PX0 at *
     generalize (X.alloc (.cells #[.slice none 0 0, .slice none 0 0, .slice none 0 0] 25)) = X0 at *
     refine wpAnyZ_next (rs := [3]) (by kernel_rfl) (by simp) ?_
     refine NextZ.cons (o := ⟨some 10, _, _, _, _, _⟩) rfl (fun K hK => ?_) NextZ.nil
     go_simp
     have HA1 := Lib.hid (HA0.out.alloc #[.slice none 0 0, .slice none 0 0, .slice none 0 0] 25)
     have hn1PX := (HA0.out.lt (.head _)).2
     have hn1F := (HA0.out.lt (.tail _ (.head _))).2
     have hn1E := (HA0.out.lt (.tail _ (.tail _ (.head _)))).2
     have hn1M := (HA0.out.lt (.tail _ (.tail _ (.tail _ (.head _))))).2
     have hn1_ := HA0.out.fr.size
     refine hK.out _ _ (⟨HA1.out.cell (.tail _ (.tail _ (.head _))) 0, HA1.out.cell (.tail _ (.tail _ (.head _))) 1, HA1.out.cell (.tail _ (.tail _ (.head _))) 2⟩) (fun hS => ?_)
     clear hK K
     try simp only [Act.put, putA, putZ, putS]
     generalize X0.heap.size = PY1 at *
     generalize (X0.alloc (.cells #[.slice none 0 0, .slice none 0 0, .slice none 0 0] 25)) = X1 at *
     refine wpAnyZ_next (rs := [4]) (by kernel_rfl) (by simp) ?_
     refine NextZ.cons (o := ⟨none, _, _, _, _, _⟩) rfl (fun K hK => ?_) NextZ.nil
     refine step_store_row (by rfl) 25 (.tmp 9) (.tmp 17) (by rfl) PX0 #[.slice oa no oc, .slice na nw nc, .slice ma nm mc] (by rfl) (by rfl) 25 #[.slice none 0 0, .slice none 0 0, .slice none 0 0] (HA1.out.bk _ _ _ (.tail _ (.head _))).2 (by kernel_rfl) rfl (by simp [Value.oneCell']) ?_
     have HA2 := Lib.hid (HA1.out.setR (.tail _ (.head _)) #[.slice oa no oc, .slice na nw nc, .slice ma nm mc] (L' := [(PY1, #[.slice none 0 0, .slice none 0 0, .slice none 0 0], 25), (w.heap.size, #[.slice oa no oc, .slice na nw nc, .slice ma nm mc], 25), (EB, #[.int .i64 elo, .int .i64 ehi, erv, ecv, .int .i64 esx, env, .int .i64 epl], 77), (MB, #[.int .i64 ga, .int .i64 gb], 63)]) (List.forall_mem_cons.2 ⟨⟨show PY1 ≠ PX0 by omega, (.head _)⟩, List.forall_mem_cons.2 ⟨⟨show w.heap.size ≠ PX0 by omega, (.tail _ (.tail _ (.head _)))⟩, List.forall_mem_cons.2 ⟨⟨show EB ≠ PX0 by omega, (.tail _ (.tail _ (.tail _ (.head _))))⟩, List.forall_mem_cons.2 ⟨⟨show MB ≠ PX0 by omega, (.tail _ (.tail _ (.tail _ (.tail _ (.head _)))))⟩, List.forall_mem_nil _⟩⟩⟩⟩))
     refine hK.out _ _ (⟨HA2.out.cell (.tail _ (.tail _ (.head _))) 0, HA2.out.cell (.tail _ (.tail _ (.head _))) 1, HA2.out.cell (.tail _ (.tail _ (.head _))) 2⟩) (fun hS => ?_)
     clear hK K
     (try simp only [Act.put])
     refine wpAnyZ_next (rs := [5]) (by kernel_rfl) (by simp) ?_
     refine NextZ.last (o := ⟨none, _, _, _, _, _⟩) rfl (by kernel_rfl) (fun K hK => ?_)
     refine step_store_row (by rfl) 25 (.tmp 10) (.tmp 18) (by rfl) PY1 #[.slice oa no oc, .slice na nw nc, .slice ma nm mc] (by rfl) (by rfl) 25 #[.slice none 0 0, .slice none 0 0, .slice none 0 0] (HA2.out.bk _ _ _ (.tail _ (.head _))).2 (by kernel_rfl) rfl (by simp [Value.oneCell']) ?_
     have HA3 := Lib.hid (HA2.out.setR (.tail _ (.head _)) #[.slice oa no oc, .slice na nw nc, .slice ma nm mc] (L' := [(PX0, #[.slice oa no oc, .slice na nw nc, .slice ma nm mc], 25), (w.heap.size, #[.slice oa no oc, .slice na nw nc, .slice ma nm mc], 25), (EB, #[.int .i64 elo, .int .i64 ehi, erv, ecv, .int .i64 esx, env, .int .i64 epl], 77), (MB, #[.int .i64 ga, .int .i64 gb], 63)]) (List.forall_mem_cons.2 ⟨⟨show PX0 ≠ PY1 by omega, (.head _)⟩, List.forall_mem_cons.2 ⟨⟨show w.heap.size ≠ PY1 by omega, (.tail _ (.tail _ (.head _)))⟩, List.forall_mem_cons.2 ⟨⟨show EB ≠ PY1 by omega, (.tail _ (.tail _ (.tail _ (.head _))))⟩, List.forall_mem_cons.2 ⟨⟨show MB ≠ PY1 by omega, (.tail _ (.tail _ (.tail _ (.tail _ (.head _)))))⟩, List.forall_mem_nil _⟩⟩⟩⟩))
     refine hK.out _ _ ?_
     clear hK K
     (try simp only [Act.put])
     refine wpAnyZ_done (by kernel_rfl) ?_ _
     have HX2 := Lib.hid (HA3.out)
     go_wp2_with fail
     go_meet
     exact ⟨PX0, PY1, rfl, rfl, ⟨by omega, by omega, by omega, by omega, by omega, by omega, by omega⟩, HX2.out.sub (fun p hp => by
       simp only [List.mem_cons, List.not_mem_nil, or_false] at hp ⊢
       rcases hp with h | h | h | h | h <;> simp [h])⟩
    refine NextZ.cons (o := ⟨some 10, _, _, _, _, _⟩) rfl (fun K hK => ?_) NextZ.nil
    go_simp
    have HA4 := Lib.hid (HAX.out.alloc #[.slice none 0 0, .slice none 0 0, .slice none 0 0] 25)
    have hn4F := (HAX.out.lt (.head _)).2
    have hn4E := (HAX.out.lt (.tail _ (.head _))).2
    have hn4M := (HAX.out.lt (.tail _ (.tail _ (.head _)))).2
    have hn4_ := HAX.out.fr.size
    refine hK.out _ _ (⟨HA4.out.cell (.tail _ (.head _)) 0, HA4.out.cell (.tail _ (.head _)) 1, HA4.out.cell (.tail _ (.head _)) 2⟩) (fun hS => ?_)
    clear hK K
    try simp only [Act.put, putA, putZ, putS]
    generalize X.heap.size = PY4 at *
    generalize (X.alloc (.cells #[.slice none 0 0, .slice none 0 0, .slice none 0 0] 25)) = X4 at *
    refine wpAnyZ_next (rs := [2]) (by kernel_rfl) (by simp) ?_
    refine NextZ.cons (o := ⟨some 9, _, _, _, _, _⟩) rfl (fun K hK => ?_) NextZ.nil
    go_simp
    have HA5 := Lib.hid (HA4.out.alloc #[.slice none 0 0, .slice none 0 0, .slice none 0 0] 25)
    have hn5PY := (HA4.out.lt (.head _)).2
    have hn5F := (HA4.out.lt (.tail _ (.head _))).2
    have hn5E := (HA4.out.lt (.tail _ (.tail _ (.head _)))).2
    have hn5M := (HA4.out.lt (.tail _ (.tail _ (.tail _ (.head _))))).2
    have hn5_ := HA4.out.fr.size
    refine hK.out _ _ (⟨HA5.out.cell (.tail _ (.tail _ (.head _))) 0, HA5.out.cell (.tail _ (.tail _ (.head _))) 1, HA5.out.cell (.tail _ (.tail _ (.head _))) 2⟩) (fun hS => ?_)
    clear hK K
    try simp only [Act.put, putA, putZ, putS]
    generalize X4.heap.size = PX5 at *
    generalize (X4.alloc (.cells #[.slice none 0 0, .slice none 0 0, .slice none 0 0] 25)) = X5 at *
    refine wpAnyZ_next (rs := [4]) (by kernel_rfl) (by simp) ?_
    refine NextZ.cons (o := ⟨none, _, _, _, _, _⟩) rfl (fun K hK => ?_) NextZ.nil
    refine step_store_row (by rfl) 25 (.tmp 9) (.tmp 17) (by rfl) PX5 #[.slice oa no oc, .slice na nw nc, .slice ma nm mc] (by rfl) (by rfl) 25 #[.slice none 0 0, .slice none 0 0, .slice none 0 0] (HA5.out.bk _ _ _ (.head _)).2 (by kernel_rfl) rfl (by simp [Value.oneCell']) ?_
    have HA6 := Lib.hid (HA5.out.setR (.head _) #[.slice oa no oc, .slice na nw nc, .slice ma nm mc] (L' := [(PY4, #[.slice none 0 0, .slice none 0 0, .slice none 0 0], 25), (w.heap.size, #[.slice oa no oc, .slice na nw nc, .slice ma nm mc], 25), (EB, #[.int .i64 elo, .int .i64 ehi, erv, ecv, .int .i64 esx, env, .int .i64 epl], 77), (MB, #[.int .i64 ga, .int .i64 gb], 63)]) (List.forall_mem_cons.2 ⟨⟨show PY4 ≠ PX5 by omega, (.tail _ (.head _))⟩, List.forall_mem_cons.2 ⟨⟨show w.heap.size ≠ PX5 by omega, (.tail _ (.tail _ (.head _)))⟩, List.forall_mem_cons.2 ⟨⟨show EB ≠ PX5 by omega, (.tail _ (.tail _ (.tail _ (.head _))))⟩, List.forall_mem_cons.2 ⟨⟨show MB ≠ PX5 by omega, (.tail _ (.tail _ (.tail _ (.tail _ (.head _)))))⟩, List.forall_mem_nil _⟩⟩⟩⟩))
    refine hK.out _ _ (⟨HA6.out.cell (.tail _ (.tail _ (.head _))) 0, HA6.out.cell (.tail _ (.tail _ (.head _))) 1, HA6.out.cell (.tail _ (.tail _ (.head _))) 2⟩) (fun hS => ?_)
    clear hK K
    (try simp only [Act.put])
    refine wpAnyZ_next (rs := [5]) (by kernel_rfl) (by simp) ?_
    refine NextZ.last (o := ⟨none, _, _, _, _, _⟩) rfl (by kernel_rfl) (fun K hK => ?_)
    refine step_store_row (by rfl) 25 (.tmp 10) (.tmp 18) (by rfl) PY4 #[.slice oa no oc, .slice na nw nc, .slice ma nm mc] (by rfl) (by rfl) 25 #[.slice none 0 0, .slice none 0 0, .slice none 0 0] (HA6.out.bk _ _ _ (.tail _ (.head _))).2 (by kernel_rfl) rfl (by simp [Value.oneCell']) ?_
    have HA7 := Lib.hid (HA6.out.setR (.tail _ (.head _)) #[.slice oa no oc, .slice na nw nc, .slice ma nm mc] (L' := [(PX5, #[.slice oa no oc, .slice na nw nc, .slice ma nm mc], 25), (w.heap.size, #[.slice oa no oc, .slice na nw nc, .slice ma nm mc], 25), (EB, #[.int .i64 elo, .int .i64 ehi, erv, ecv, .int .i64 esx, env, .int .i64 epl], 77), (MB, #[.int .i64 ga, .int .i64 gb], 63)]) (List.forall_mem_cons.2 ⟨⟨show PX5 ≠ PY4 by omega, (.head _)⟩, List.forall_mem_cons.2 ⟨⟨show w.heap.size ≠ PY4 by omega, (.tail _ (.tail _ (.head _)))⟩, List.forall_mem_cons.2 ⟨⟨show EB ≠ PY4 by omega, (.tail _ (.tail _ (.tail _ (.head _))))⟩, List.forall_mem_cons.2 ⟨⟨show MB ≠ PY4 by omega, (.tail _ (.tail _ (.tail _ (.tail _ (.head _)))))⟩, List.forall_mem_nil _⟩⟩⟩⟩))
    refine hK.out _ _ ?_
    clear hK K
    (try simp only [Act.put])
    refine wpAnyZ_done (by kernel_rfl) ?_ _
    have HX2 := Lib.hid (HA7.out)
    go_wp2_with fail
    go_meet
    exact ⟨PX5, PY4, rfl, rfl, ⟨by omega, by omega, by omega, by omega, by omega, by omega, by omega⟩, HX2.out.sub (fun p hp => by
      simp only [List.mem_cons, List.not_mem_nil, or_false] at hp ⊢
      rcases hp with h | h | h | h | h <;> simp [h])⟩
  case rest =>
    rename World => wc
    obtain ⟨XB, YB, rfl, rfl, hxy, hbf⟩ := hcut
    have HA1 := Lib.hid hbf
    have HXY := Lib.hid hxy
    clear hbf hxy HAX
    go_upto_if 19 with fail
    go_cut [] (fun wd => ∃ va vc, BF w wd [(XB, #[.slice va (no + 1) vc, .slice na nw nc, .slice ma nm mc], 25), (YB, #[.slice oa no oc, .slice na nw nc, .slice ma nm mc], 25), (w.heap.size, #[.slice oa no oc, .slice na nw nc, .slice ma nm mc], 25), (EB, #[.int .i64 elo, .int .i64 ehi, erv, ecv, .int .i64 esx, env, .int .i64 epl], 77), (MB, #[.int .i64 ga, .int .i64 gb], 63)] ∧ wd.ownsRow wc.heap.size 77 7 (.slice va (no + 1) vc) (no + 1) xo2)
    case first =>
      go_upto_region 3 with fail
      have HAX := Lib.hid (HA1.out.below (Below.refl wc.heap.size _).drew)
      have HYX : Hid (Below wc.heap.size wc wc.drew) := (Below.refl _ _).drew
      have l1 := (HA1.out.lt (.head _)).2
      have l2 := (HA1.out.lt (.tail _ (.head _))).2
      have l3 := (HA1.out.lt (.tail _ (.tail _ (.head _)))).2
      have l4 := (HA1.out.lt (.tail _ (.tail _ (.tail _ (.head _))))).2
      have l5 := (HA1.out.lt (.tail _ (.tail _ (.tail _ (.tail _ (.head _)))))).2
      have HBL : Hid (XB < wc.heap.size ∧ YB < wc.heap.size ∧ w.heap.size < wc.heap.size ∧ EB < wc.heap.size ∧ MB < wc.heap.size ∧ XB ≠ YB ∧ w.heap.size ≠ XB ∧ w.heap.size ≠ YB ∧ EB ≠ XB ∧ EB ≠ YB ∧ MB ≠ XB ∧ MB ≠ YB) := by
        exact ⟨l1, l2, l3, l4, l5, HXY.out⟩
      clear l1 l2 l3 l4 l5 HA1
      refine wp_region_Z (S := fun X => X.cell? ⟨w.heap.size, 0, none⟩ = some (.slice oa no oc) ∧ X.cell? ⟨w.heap.size, 1, none⟩ = some (.slice na nw nc) ∧ X.cell? ⟨w.heap.size, 2, none⟩ = some (.slice ma nm mc) ∧ X.cell? ⟨EB, 0, none⟩ = some (.int .i64 elo) ∧ X.cell? ⟨EB, 1, none⟩ = some (.int .i64 ehi) ∧ X.cell? ⟨EB, 2, none⟩ = some (erv) ∧ X.cell? ⟨EB, 3, none⟩ = some (ecv) ∧ X.cell? ⟨EB, 4, none⟩ = some (.int .i64 esx) ∧ X.cell? ⟨EB, 5, none⟩ = some (env) ∧ X.cell? ⟨EB, 6, none⟩ = some (.int .i64 epl)) (by kernel_rfl) (⟨HAX.out.cell (.tail _ (.tail _ (.head _))) 0, HAX.out.cell (.tail _ (.tail _ (.head _))) 1, HAX.out.cell (.tail _ (.tail _ (.head _))) 2, HAX.out.cell (.tail _ (.tail _ (.tail _ (.head _)))) 0, HAX.out.cell (.tail _ (.tail _ (.tail _ (.head _)))) 1, HAX.out.cell (.tail _ (.tail _ (.tail _ (.head _)))) 2, HAX.out.cell (.tail _ (.tail _ (.tail _ (.head _)))) 3, HAX.out.cell (.tail _ (.tail _ (.tail _ (.head _)))) 4, HAX.out.cell (.tail _ (.tail _ (.tail _ (.head _)))) 5, HAX.out.cell (.tail _ (.tail _ (.tail _ (.head _)))) 6⟩) (fun hS => ?_)
      generalize wc.drew = X at *
      refine tk [1, 2, 4] ?_
      repeat (refine tkZ (oi := ⟨_, _, _, _, _, _⟩) (v := ?_) rfl (by kernel_rfl) (by rfl) (fun _ _ _ h => h) hS ?_ ?_; rotate_left; (· rintro W' ⟨z0, z1, z2, z3, z4, z5, z6, z7, z8, z9⟩; go_simp; try with_reducible rfl); try simp only [Act.put, putA, putZ, putS])
      refine tk0 ?_
      refine wpAnyZ_next (rs := [0, 5]) (by kernel_rfl) (by simp) ?_
      refine NextZ.cons (o := ⟨some 20, _, _, _, _, _⟩) rfl (fun K hK => ?_) ?_
      ·
       go_simp
       have hzz0 := HYX.out.size
       have HOE0 := Lib.hid (own_empty X 77 7 wc.heap.size hzz0)
       have HAQ0 := Lib.hid (HAX.out.alloc #[] 77)
       have HY0 := Lib.hid (below_step HYX.out (below_alloc X (.cells #[] 77)))
       have HA0 : Hid (BF w (X.alloc (.cells #[] 77)) [(XB, #[.slice oa no oc, .slice na nw nc, .slice ma nm mc], 25), (YB, #[.slice oa no oc, .slice na nw nc, .slice ma nm mc], 25), (w.heap.size, #[.slice oa no oc, .slice na nw nc, .slice ma nm mc], 25), (EB, #[.int .i64 elo, .int .i64 ehi, erv, ecv, .int .i64 esx, env, .int .i64 epl], 77), (MB, #[.int .i64 ga, .int .i64 gb], 63)]) := HAQ0.out.sub (fun p hp => .tail _ hp)
       clear HAQ0
       refine hK.out _ _ (⟨HA0.out.cell (.tail _ (.tail _ (.head _))) 0, HA0.out.cell (.tail _ (.tail _ (.head _))) 1, HA0.out.cell (.tail _ (.tail _ (.head _))) 2, HA0.out.cell (.tail _ (.tail _ (.tail _ (.head _)))) 0, HA0.out.cell (.tail _ (.tail _ (.tail _ (.head _)))) 1, HA0.out.cell (.tail _ (.tail _ (.tail _ (.head _)))) 2, HA0.out.cell (.tail _ (.tail _ (.tail _ (.head _)))) 3, HA0.out.cell (.tail _ (.tail _ (.tail _ (.head _)))) 4, HA0.out.cell (.tail _ (.tail _ (.tail _ (.head _)))) 5, HA0.out.cell (.tail _ (.tail _ (.tail _ (.head _)))) 6⟩) (fun hS => ?_)
       clear hK K
       try simp only [Act.put, putA, putZ, putS]
       generalize X.heap.size = BE at *
       generalize X.alloc (.cells #[] 77) = X0 at *
       have HO0 := HOE0
       clear HOE0
       refine wpAnyZ_next (rs := [3, 5]) (by kernel_rfl) (by simp) ?_
       refine NextZ.cons (o := ⟨some 23, _, _, _, _, _⟩) rfl (fun K hK => ?_) ?_
       ·
        refine step_append_src X0 (by rfl) (.tmp 20) (.tmp 22) 22 (by rfl) wc.heap.size 77 i0 (.agg #[.int .i64 0, .int .i64 0, .slice none 0 0, .slice none 0 0, .int .i64 0, .slice none 0 0, .int .i64 0]) 7 104 Tryz.underlying22 hi0 hz0 hz1 hz2 rfl (by decide) (.slice (some ⟨BE, 0, none⟩) 0 0) 0 [] (by rfl) HO0.out oa no oc xo (by rfl) (HSO.out _ HA0.out.fr) HUO.out ?c1 ?c2 ?c3 ?_
        case c1 => have := HBY.out; unfold maxLen; omega
        case c2 => have := HBY.out; omega
        case c3 => exact HY0.out.size
        intro v1 X1 hown hgr hat
        have HO1 := Lib.hid (own_cast hown (Nat.zero_add _) (List.nil_append _))
        have HA1 := Lib.hid (HA0.out.fro (Fr.grown hgr) (fun q hq e => by have h1 := own_low HO0.out e; have := HBL.out; omega) (fun p hp e => by
          simp only [List.mem_cons, List.not_mem_nil, or_false] at hp
          rcases hp with rfl | rfl | rfl | rfl | rfl
          · have h1 : wc.heap.size ≤ XB := own_low HO0.out e
            have := HBL.out
            omega
          · have h1 : wc.heap.size ≤ YB := own_low HO0.out e
            have := HBL.out
            omega
          · have h1 : wc.heap.size ≤ w.heap.size := own_low HO0.out e
            have := HBL.out
            omega
          · have h1 : wc.heap.size ≤ EB := own_low HO0.out e
            have := HBL.out
            omega
          · have h1 : wc.heap.size ≤ MB := own_low HO0.out e
            have := HBL.out
            omega))
        have HY1 : Hid (Below wc.heap.size wc X1) := HY0.out.trans ((Fr.grown hgr).low HY0.out.size (fun q hq e => by have h1 := own_low HO0.out e; omega))
        clear hown hgr hat
        refine hK.out _ _ (⟨HA1.out.cell (.tail _ (.tail _ (.head _))) 0, HA1.out.cell (.tail _ (.tail _ (.head _))) 1, HA1.out.cell (.tail _ (.tail _ (.head _))) 2, HA1.out.cell (.tail _ (.tail _ (.tail _ (.head _)))) 0, HA1.out.cell (.tail _ (.tail _ (.tail _ (.head _)))) 1, HA1.out.cell (.tail _ (.tail _ (.tail _ (.head _)))) 2, HA1.out.cell (.tail _ (.tail _ (.tail _ (.head _)))) 3, HA1.out.cell (.tail _ (.tail _ (.tail _ (.head _)))) 4, HA1.out.cell (.tail _ (.tail _ (.tail _ (.head _)))) 5, HA1.out.cell (.tail _ (.tail _ (.tail _ (.head _)))) 6⟩) (fun hS => ?_)
        clear hK K
        try simp only [Act.put, putA, putZ, putS]
        obtain ⟨v1a, v1c, rfl⟩ := own_slice' HO1.out
        refine wpAnyZ_next (rs := [5]) (by kernel_rfl) (by simp) ?_
        refine NextZ.cons (o := ⟨some 25, _, _, _, _, _⟩) rfl (fun K hK => ?_) NextZ.nil
        go_simp
        have HA2 := Lib.hid (HA1.out.alloc #[.int .i64 elo, .int .i64 ehi, erv, ecv, .int .i64 esx, env, .int .i64 epl] 77)
        have hnX := (HA1.out.lt (.head _)).2
        have hnY := (HA1.out.lt (.tail _ (.head _))).2
        have hnF := (HA1.out.lt (.tail _ (.tail _ (.head _)))).2
        have hnE := (HA1.out.lt (.tail _ (.tail _ (.tail _ (.head _))))).2
        have hnM := (HA1.out.lt (.tail _ (.tail _ (.tail _ (.tail _ (.head _)))))).2
        have HO2 := Lib.hid (own_below HO1.out (below_alloc X1 (.cells #[.int .i64 elo, .int .i64 ehi, erv, ecv, .int .i64 esx, env, .int .i64 epl] 77)))
        have HY2 := Lib.hid (below_step HY1.out (below_alloc X1 (.cells #[.int .i64 elo, .int .i64 ehi, erv, ecv, .int .i64 esx, env, .int .i64 epl] 77)))
        refine hK.out _ _ (⟨HA2.out.cell (.tail _ (.tail _ (.tail _ (.head _)))) 0, HA2.out.cell (.tail _ (.tail _ (.tail _ (.head _)))) 1, HA2.out.cell (.tail _ (.tail _ (.tail _ (.head _)))) 2, HA2.out.cell (.tail _ (.tail _ (.tail _ (.tail _ (.head _))))) 0, HA2.out.cell (.tail _ (.tail _ (.tail _ (.tail _ (.head _))))) 1, HA2.out.cell (.tail _ (.tail _ (.tail _ (.tail _ (.head _))))) 2, HA2.out.cell (.tail _ (.tail _ (.tail _ (.tail _ (.head _))))) 3, HA2.out.cell (.tail _ (.tail _ (.tail _ (.tail _ (.head _))))) 4, HA2.out.cell (.tail _ (.tail _ (.tail _ (.tail _ (.head _))))) 5, HA2.out.cell (.tail _ (.tail _ (.tail _ (.tail _ (.head _))))) 6⟩) (fun hS => ?_)
        clear hK K
        try simp only [Act.put, putA, putZ, putS]
        generalize X1.heap.size = NB at *
        generalize X1.alloc (.cells #[.int .i64 elo, .int .i64 ehi, erv, ecv, .int .i64 esx, env, .int .i64 epl] 77) = X2 at *
        refine wpAnyZ_next (rs := [6]) (by kernel_rfl) (by simp) ?_
        refine NextZ.cons (o := ⟨some 26, _, _, _, _, _⟩) rfl (fun K hK => ?_) NextZ.nil
        refine step_append_src X2 (by rfl) (.tmp 23) (.tmp 25) 22 (by rfl) wc.heap.size 77 i0 (.agg #[.int .i64 0, .int .i64 0, .slice none 0 0, .slice none 0 0, .int .i64 0, .slice none 0 0, .int .i64 0]) 7 104 Tryz.underlying22 hi0 hz0 hz1 hz2 rfl (by decide) (.slice v1a no v1c) no xo (by rfl) HO2.out (some ⟨NB, 0, none⟩) 1 1 [.int .i64 elo, .int .i64 ehi, erv, ecv, .int .i64 esx, env, .int .i64 epl] (by rfl) ⟨rfl, fun q u hu => ⟨_, rfl, World.news_of_block ((HA2.out.bk _ _ _ (.head _)).2) q u hu⟩⟩ HU7.out ?c1 ?c2 ?c3 ?_
        case c1 => have := HBY.out; unfold maxLen; omega
        case c2 => have := HBY.out; omega
        case c3 => exact HY2.out.size
        intro v3 X3 hown hgr hat
        have HO3 : Hid (X3.ownsRow wc.heap.size 77 7 v3 (no + 1) xo2) := by rw [← HES.out]; exact hown
        have HA3 := Lib.hid ((HA2.out.sub (L' := [(XB, #[.slice oa no oc, .slice na nw nc, .slice ma nm mc], 25), (YB, #[.slice oa no oc, .slice na nw nc, .slice ma nm mc], 25), (w.heap.size, #[.slice oa no oc, .slice na nw nc, .slice ma nm mc], 25), (EB, #[.int .i64 elo, .int .i64 ehi, erv, ecv, .int .i64 esx, env, .int .i64 epl], 77), (MB, #[.int .i64 ga, .int .i64 gb], 63)]) (fun p hp => by simp only [List.mem_cons, List.not_mem_nil, or_false] at hp ⊢; rcases hp with h | h | h | h | h <;> simp [h])).fro (Fr.grown hgr) (fun q hq e => by have h1 := own_low HO2.out e; have := HBL.out; omega) (fun p hp e => by
          simp only [List.mem_cons, List.not_mem_nil, or_false] at hp
          rcases hp with rfl | rfl | rfl | rfl | rfl
          · have h1 : wc.heap.size ≤ XB := own_low HO2.out e
            have := HBL.out
            omega
          · have h1 : wc.heap.size ≤ YB := own_low HO2.out e
            have := HBL.out
            omega
          · have h1 : wc.heap.size ≤ w.heap.size := own_low HO2.out e
            have := HBL.out
            omega
          · have h1 : wc.heap.size ≤ EB := own_low HO2.out e
            have := HBL.out
            omega
          · have h1 : wc.heap.size ≤ MB := own_low HO2.out e
            have := HBL.out
            omega))
        have HY3 : Hid (Below wc.heap.size wc X3) := HY2.out.trans ((Fr.grown hgr).low HY2.out.size (fun q hq e => by have h1 := own_low HO2.out e; omega))
        clear hown hgr hat
        refine hK.out _ _ (⟨HA3.out.cell (.tail _ (.tail _ (.head _))) 0, HA3.out.cell (.tail _ (.tail _ (.head _))) 1, HA3.out.cell (.tail _ (.tail _ (.head _))) 2, HA3.out.cell (.tail _ (.tail _ (.tail _ (.head _)))) 0, HA3.out.cell (.tail _ (.tail _ (.tail _ (.head _)))) 1, HA3.out.cell (.tail _ (.tail _ (.tail _ (.head _)))) 2, HA3.out.cell (.tail _ (.tail _ (.tail _ (.head _)))) 3, HA3.out.cell (.tail _ (.tail _ (.tail _ (.head _)))) 4, HA3.out.cell (.tail _ (.tail _ (.tail _ (.head _)))) 5, HA3.out.cell (.tail _ (.tail _ (.tail _ (.head _)))) 6⟩) (fun hS => ?_)
        clear hK K
        try simp only [Act.put, putA, putZ, putS]
        obtain ⟨v3a, v3c, rfl⟩ := own_slice' HO3.out
        refine tZ 7 (oi := ⟨_, _, _, _, _, _⟩) (v := ?_) rfl (by kernel_rfl) (by rfl) (fun _ _ _ h => h) hS ?_ ?_
        rotate_left
        · rintro W' ⟨z0, z1, z2, z3, z4, z5, z6, z7, z8, z9⟩; go_simp; try with_reducible rfl
        try simp only [Act.put, putA, putZ, putS]
        refine wpAnyZ_next (rs := [8]) (by kernel_rfl) (by simp) ?_
        refine NextZ.last (o := ⟨none, _, _, _, _, _⟩) rfl (by kernel_rfl) (fun K hK => ?_)
        have e0 := HA3.out.cell (.head _) 0
        have f0 := HA3.out.thaw (.head _) 0
        have hbl := HBL.out
        have HA4 := Lib.hid (BF.set1 (i := 0) (cs' := #[.slice v3a (no + 1) v3c, .slice na nw nc, .slice ma nm mc]) HA3.out (.head _) (.slice v3a (no + 1) v3c) (by simp) rfl (L' := [(YB, #[.slice oa no oc, .slice na nw nc, .slice ma nm mc], 25), (w.heap.size, #[.slice oa no oc, .slice na nw nc, .slice ma nm mc], 25), (EB, #[.int .i64 elo, .int .i64 ehi, erv, ecv, .int .i64 esx, env, .int .i64 epl], 77), (MB, #[.int .i64 ga, .int .i64 gb], 63)]) (List.forall_mem_cons.2 ⟨⟨show YB ≠ XB by omega, (.tail _ (.head _))⟩, List.forall_mem_cons.2 ⟨⟨show w.heap.size ≠ XB by omega, (.tail _ (.tail _ (.head _)))⟩, List.forall_mem_cons.2 ⟨⟨show EB ≠ XB by omega, (.tail _ (.tail _ (.tail _ (.head _))))⟩, List.forall_mem_cons.2 ⟨⟨show MB ≠ XB by omega, (.tail _ (.tail _ (.tail _ (.tail _ (.head _)))))⟩, List.forall_mem_nil _⟩⟩⟩⟩))
        have HO4 := Lib.hid (own_fr HO3.out (Fr.set X3 XB 0 (.slice v3a (no + 1) v3c)) (fun g cur e1 e2 _ e3 => by omega))
        go_simp
        refine hK.out _ _ ?_
        clear hK K
        (try simp only [Act.put])
        clear e0 f0
        refine wpAnyZ_done (by kernel_rfl) ?_ _
        have HX2 := Lib.hid (HA4.out)
        go_wp2_with fail
        go_meet
        exact ⟨v3a, v3c, HX2.out.sub (fun p hp => by
          simp only [List.mem_cons, List.not_mem_nil, or_false] at hp ⊢
          rcases hp with h | h | h | h | h <;> simp [h]), HO4.out⟩
       refine NextZ.cons (o := ⟨some 25, _, _, _, _, _⟩) rfl (fun K hK => ?_) NextZ.nil
       go_simp
       have HA5 := Lib.hid (HA0.out.alloc #[.int .i64 elo, .int .i64 ehi, erv, ecv, .int .i64 esx, env, .int .i64 epl] 77)
       have hnX := (HA0.out.lt (.head _)).2
       have hnY := (HA0.out.lt (.tail _ (.head _))).2
       have hnF := (HA0.out.lt (.tail _ (.tail _ (.head _)))).2
       have hnE := (HA0.out.lt (.tail _ (.tail _ (.tail _ (.head _))))).2
       have hnM := (HA0.out.lt (.tail _ (.tail _ (.tail _ (.tail _ (.head _)))))).2
       have hne5 : BE < X0.heap.size := own_lt HO0.out rfl
       have HO5 := Lib.hid (own_below HO0.out (below_alloc X0 (.cells #[.int .i64 elo, .int .i64 ehi, erv, ecv, .int .i64 esx, env, .int .i64 epl] 77)))
       have HY5 := Lib.hid (below_step HY0.out (below_alloc X0 (.cells #[.int .i64 elo, .int .i64 ehi, erv, ecv, .int .i64 esx, env, .int .i64 epl] 77)))
       refine hK.out _ _ (⟨HA5.out.cell (.tail _ (.tail _ (.tail _ (.head _)))) 0, HA5.out.cell (.tail _ (.tail _ (.tail _ (.head _)))) 1, HA5.out.cell (.tail _ (.tail _ (.tail _ (.head _)))) 2, HA5.out.cell (.tail _ (.tail _ (.tail _ (.tail _ (.head _))))) 0, HA5.out.cell (.tail _ (.tail _ (.tail _ (.tail _ (.head _))))) 1, HA5.out.cell (.tail _ (.tail _ (.tail _ (.tail _ (.head _))))) 2, HA5.out.cell (.tail _ (.tail _ (.tail _ (.tail _ (.head _))))) 3, HA5.out.cell (.tail _ (.tail _ (.tail _ (.tail _ (.head _))))) 4, HA5.out.cell (.tail _ (.tail _ (.tail _ (.tail _ (.head _))))) 5, HA5.out.cell (.tail _ (.tail _ (.tail _ (.tail _ (.head _))))) 6⟩) (fun hS => ?_)
       clear hK K
       try simp only [Act.put, putA, putZ, putS]
       generalize X0.heap.size = NB at *
       generalize X0.alloc (.cells #[.int .i64 elo, .int .i64 ehi, erv, ecv, .int .i64 esx, env, .int .i64 epl] 77) = X5 at *
       refine wpAnyZ_next (rs := [3]) (by kernel_rfl) (by simp) ?_
       refine NextZ.cons (o := ⟨some 23, _, _, _, _, _⟩) rfl (fun K hK => ?_) NextZ.nil
       refine step_append_src X5 (by rfl) (.tmp 20) (.tmp 22) 22 (by rfl) wc.heap.size 77 i0 (.agg #[.int .i64 0, .int .i64 0, .slice none 0 0, .slice none 0 0, .int .i64 0, .slice none 0 0, .int .i64 0]) 7 104 Tryz.underlying22 hi0 hz0 hz1 hz2 rfl (by decide) (.slice (some ⟨BE, 0, none⟩) 0 0) 0 [] (by rfl) HO5.out oa no oc xo (by rfl) (HSO.out _ HA5.out.fr) HUO.out ?c1 ?c2 ?c3 ?_
       case c1 => have := HBY.out; unfold maxLen; omega
       case c2 => have := HBY.out; omega
       case c3 => exact HY5.out.size
       intro v6 X6 hown hgr hat
       have HO6 := Lib.hid (own_cast hown (Nat.zero_add _) (List.nil_append _))
       have HA6 := Lib.hid (HA5.out.fro (Fr.grown hgr) (fun q hq e => by have h1 := own_low HO5.out e; have := HBL.out; omega) (fun p hp e => by
         simp only [List.mem_cons, List.not_mem_nil, or_false] at hp
         rcases hp with rfl | rfl | rfl | rfl | rfl | rfl
         · have e2 : some BE = some NB := e
           injection e2 with e3
           have := hne5
           omega
         · have h1 : wc.heap.size ≤ XB := own_low HO5.out e
           have := HBL.out
           omega
         · have h1 : wc.heap.size ≤ YB := own_low HO5.out e
           have := HBL.out
           omega
         · have h1 : wc.heap.size ≤ w.heap.size := own_low HO5.out e
           have := HBL.out
           omega
         · have h1 : wc.heap.size ≤ EB := own_low HO5.out e
           have := HBL.out
           omega
         · have h1 : wc.heap.size ≤ MB := own_low HO5.out e
           have := HBL.out
           omega))
       have HY6 : Hid (Below wc.heap.size wc X6) := HY5.out.trans ((Fr.grown hgr).low HY5.out.size (fun q hq e => by have h1 := own_low HO5.out e; omega))
       clear hown hgr hat
       refine hK.out _ _ (⟨HA6.out.cell (.tail _ (.tail _ (.tail _ (.head _)))) 0, HA6.out.cell (.tail _ (.tail _ (.tail _ (.head _)))) 1, HA6.out.cell (.tail _ (.tail _ (.tail _ (.head _)))) 2, HA6.out.cell (.tail _ (.tail _ (.tail _ (.tail _ (.head _))))) 0, HA6.out.cell (.tail _ (.tail _ (.tail _ (.tail _ (.head _))))) 1, HA6.out.cell (.tail _ (.tail _ (.tail _ (.tail _ (.head _))))) 2, HA6.out.cell (.tail _ (.tail _ (.tail _ (.tail _ (.head _))))) 3, HA6.out.cell (.tail _ (.tail _ (.tail _ (.tail _ (.head _))))) 4, HA6.out.cell (.tail _ (.tail _ (.tail _ (.tail _ (.head _))))) 5, HA6.out.cell (.tail _ (.tail _ (.tail _ (.tail _ (.head _))))) 6⟩) (fun hS => ?_)
       clear hK K
       try simp only [Act.put, putA, putZ, putS]
       obtain ⟨v6a, v6c, rfl⟩ := own_slice' HO6.out
       refine wpAnyZ_next (rs := [6]) (by kernel_rfl) (by simp) ?_
       refine NextZ.cons (o := ⟨some 26, _, _, _, _, _⟩) rfl (fun K hK => ?_) NextZ.nil
       refine step_append_src X6 (by rfl) (.tmp 23) (.tmp 25) 22 (by rfl) wc.heap.size 77 i0 (.agg #[.int .i64 0, .int .i64 0, .slice none 0 0, .slice none 0 0, .int .i64 0, .slice none 0 0, .int .i64 0]) 7 104 Tryz.underlying22 hi0 hz0 hz1 hz2 rfl (by decide) (.slice v6a no v6c) no xo (by rfl) HO6.out (some ⟨NB, 0, none⟩) 1 1 [.int .i64 elo, .int .i64 ehi, erv, ecv, .int .i64 esx, env, .int .i64 epl] (by rfl) ⟨rfl, fun q u hu => ⟨_, rfl, World.news_of_block ((HA6.out.bk _ _ _ (.head _)).2) q u hu⟩⟩ HU7.out ?c1 ?c2 ?c3 ?_
       case c1 => have := HBY.out; unfold maxLen; omega
       case c2 => have := HBY.out; omega
       case c3 => exact HY6.out.size
       intro v7 X7 hown hgr hat
       have HO7 : Hid (X7.ownsRow wc.heap.size 77 7 v7 (no + 1) xo2) := by rw [← HES.out]; exact hown
       have HA7 := Lib.hid ((HA6.out.sub (L' := [(XB, #[.slice oa no oc, .slice na nw nc, .slice ma nm mc], 25), (YB, #[.slice oa no oc, .slice na nw nc, .slice ma nm mc], 25), (w.heap.size, #[.slice oa no oc, .slice na nw nc, .slice ma nm mc], 25), (EB, #[.int .i64 elo, .int .i64 ehi, erv, ecv, .int .i64 esx, env, .int .i64 epl], 77), (MB, #[.int .i64 ga, .int .i64 gb], 63)]) (fun p hp => by simp only [List.mem_cons, List.not_mem_nil, or_false] at hp ⊢; rcases hp with h | h | h | h | h <;> simp [h])).fro (Fr.grown hgr) (fun q hq e => by have h1 := own_low HO6.out e; have := HBL.out; omega) (fun p hp e => by
         simp only [List.mem_cons, List.not_mem_nil, or_false] at hp
         rcases hp with rfl | rfl | rfl | rfl | rfl
         · have h1 : wc.heap.size ≤ XB := own_low HO6.out e
           have := HBL.out
           omega
         · have h1 : wc.heap.size ≤ YB := own_low HO6.out e
           have := HBL.out
           omega
         · have h1 : wc.heap.size ≤ w.heap.size := own_low HO6.out e
           have := HBL.out
           omega
         · have h1 : wc.heap.size ≤ EB := own_low HO6.out e
           have := HBL.out
           omega
         · have h1 : wc.heap.size ≤ MB := own_low HO6.out e
           have := HBL.out
           omega))
       have HY7 : Hid (Below wc.heap.size wc X7) := HY6.out.trans ((Fr.grown hgr).low HY6.out.size (fun q hq e => by have h1 := own_low HO6.out e; omega))
       clear hown hgr hat
       refine hK.out _ _ (⟨HA7.out.cell (.tail _ (.tail _ (.head _))) 0, HA7.out.cell (.tail _ (.tail _ (.head _))) 1, HA7.out.cell (.tail _ (.tail _ (.head _))) 2, HA7.out.cell (.tail _ (.tail _ (.tail _ (.head _)))) 0, HA7.out.cell (.tail _ (.tail _ (.tail _ (.head _)))) 1, HA7.out.cell (.tail _ (.tail _ (.tail _ (.head _)))) 2, HA7.out.cell (.tail _ (.tail _ (.tail _ (.head _)))) 3, HA7.out.cell (.tail _ (.tail _ (.tail _ (.head _)))) 4, HA7.out.cell (.tail _ (.tail _ (.tail _ (.head _)))) 5, HA7.out.cell (.tail _ (.tail _ (.tail _ (.head _)))) 6⟩) (fun hS => ?_)
       clear hK K
       try simp only [Act.put, putA, putZ, putS]
       obtain ⟨v7a, v7c, rfl⟩ := own_slice' HO7.out
       refine tZ 7 (oi := ⟨_, _, _, _, _, _⟩) (v := ?_) rfl (by kernel_rfl) (by rfl) (fun _ _ _ h => h) hS ?_ ?_
       rotate_left
       · rintro W' ⟨z0, z1, z2, z3, z4, z5, z6, z7, z8, z9⟩; go_simp; try with_reducible rfl
       try simp only [Act.put, putA, putZ, putS]
       refine wpAnyZ_next (rs := [8]) (by kernel_rfl) (by simp) ?_
       refine NextZ.last (o := ⟨none, _, _, _, _, _⟩) rfl (by kernel_rfl) (fun K hK => ?_)
       have e0 := HA7.out.cell (.head _) 0
       have f0 := HA7.out.thaw (.head _) 0
       have hbl := HBL.out
       have HA8 := Lib.hid (BF.set1 (i := 0) (cs' := #[.slice v7a (no + 1) v7c, .slice na nw nc, .slice ma nm mc]) HA7.out (.head _) (.slice v7a (no + 1) v7c) (by simp) rfl (L' := [(YB, #[.slice oa no oc, .slice na nw nc, .slice ma nm mc], 25), (w.heap.size, #[.slice oa no oc, .slice na nw nc, .slice ma nm mc], 25), (EB, #[.int .i64 elo, .int .i64 ehi, erv, ecv, .int .i64 esx, env, .int .i64 epl], 77), (MB, #[.int .i64 ga, .int .i64 gb], 63)]) (List.forall_mem_cons.2 ⟨⟨show YB ≠ XB by omega, (.tail _ (.head _))⟩, List.forall_mem_cons.2 ⟨⟨show w.heap.size ≠ XB by omega, (.tail _ (.tail _ (.head _)))⟩, List.forall_mem_cons.2 ⟨⟨show EB ≠ XB by omega, (.tail _ (.tail _ (.tail _ (.head _))))⟩, List.forall_mem_cons.2 ⟨⟨show MB ≠ XB by omega, (.tail _ (.tail _ (.tail _ (.tail _ (.head _)))))⟩, List.forall_mem_nil _⟩⟩⟩⟩))
       have HO8 := Lib.hid (own_fr HO7.out (Fr.set X7 XB 0 (.slice v7a (no + 1) v7c)) (fun g cur e1 e2 _ e3 => by omega))
       go_simp
       refine hK.out _ _ ?_
       clear hK K
       (try simp only [Act.put])
       clear e0 f0
       refine wpAnyZ_done (by kernel_rfl) ?_ _
       have HX2 := Lib.hid (HA8.out)
       go_wp2_with fail
       go_meet
       exact ⟨v7a, v7c, HX2.out.sub (fun p hp => by
         simp only [List.mem_cons, List.not_mem_nil, or_false] at hp ⊢
         rcases hp with h | h | h | h | h <;> simp [h]), HO8.out⟩
      refine NextZ.cons (o := ⟨some 25, _, _, _, _, _⟩) rfl (fun K hK => ?_) NextZ.nil
      go_simp
      have HA9 := Lib.hid (HAX.out.alloc #[.int .i64 elo, .int .i64 ehi, erv, ecv, .int .i64 esx, env, .int .i64 epl] 77)
      have hnX := (HAX.out.lt (.head _)).2
      have hnY := (HAX.out.lt (.tail _ (.head _))).2
      have hnF := (HAX.out.lt (.tail _ (.tail _ (.head _)))).2
      have hnE := (HAX.out.lt (.tail _ (.tail _ (.tail _ (.head _))))).2
      have hnM := (HAX.out.lt (.tail _ (.tail _ (.tail _ (.tail _ (.head _)))))).2
      have HY9 := Lib.hid (below_step HYX.out (below_alloc X (.cells #[.int .i64 elo, .int .i64 ehi, erv, ecv, .int .i64 esx, env, .int .i64 epl] 77)))
      refine hK.out _ _ (⟨HA9.out.cell (.tail _ (.tail _ (.tail _ (.head _)))) 0, HA9.out.cell (.tail _ (.tail _ (.tail _ (.head _)))) 1, HA9.out.cell (.tail _ (.tail _ (.tail _ (.head _)))) 2, HA9.out.cell (.tail _ (.tail _ (.tail _ (.tail _ (.head _))))) 0, HA9.out.cell (.tail _ (.tail _ (.tail _ (.tail _ (.head _))))) 1, HA9.out.cell (.tail _ (.tail _ (.tail _ (.tail _ (.head _))))) 2, HA9.out.cell (.tail _ (.tail _ (.tail _ (.tail _ (.head _))))) 3, HA9.out.cell (.tail _ (.tail _ (.tail _ (.tail _ (.head _))))) 4, HA9.out.cell (.tail _ (.tail _ (.tail _ (.tail _ (.head _))))) 5, HA9.out.cell (.tail _ (.tail _ (.tail _ (.tail _ (.head _))))) 6⟩) (fun hS => ?_)
      clear hK K
      try simp only [Act.put, putA, putZ, putS]
      generalize X.heap.size = NB at *
      generalize X.alloc (.cells #[.int .i64 elo, .int .i64 ehi, erv, ecv, .int .i64 esx, env, .int .i64 epl] 77) = X9 at *
      refine wpAnyZ_next (rs := [0]) (by kernel_rfl) (by simp) ?_
      refine NextZ.cons (o := ⟨some 20, _, _, _, _, _⟩) rfl (fun K hK => ?_) NextZ.nil
      go_simp
      have hzz10 := HY9.out.size
      have HOE10 := Lib.hid (own_empty X9 77 7 wc.heap.size hzz10)
      have HAQ10 := Lib.hid (HA9.out.alloc #[] 77)
      have hne10 := (HA9.out.lt (.head _)).2
      have HY10 := Lib.hid (below_step HY9.out (below_alloc X9 (.cells #[] 77)))
      have HA10 : Hid (BF w (X9.alloc (.cells #[] 77)) [(NB, #[.int .i64 elo, .int .i64 ehi, erv, ecv, .int .i64 esx, env, .int .i64 epl], 77), (XB, #[.slice oa no oc, .slice na nw nc, .slice ma nm mc], 25), (YB, #[.slice oa no oc, .slice na nw nc, .slice ma nm mc], 25), (w.heap.size, #[.slice oa no oc, .slice na nw nc, .slice ma nm mc], 25), (EB, #[.int .i64 elo, .int .i64 ehi, erv, ecv, .int .i64 esx, env, .int .i64 epl], 77), (MB, #[.int .i64 ga, .int .i64 gb], 63)]) := HAQ10.out.sub (fun p hp => .tail _ hp)
      clear HAQ10
      refine hK.out _ _ (⟨HA10.out.cell (.tail _ (.tail _ (.tail _ (.head _)))) 0, HA10.out.cell (.tail _ (.tail _ (.tail _ (.head _)))) 1, HA10.out.cell (.tail _ (.tail _ (.tail _ (.head _)))) 2, HA10.out.cell (.tail _ (.tail _ (.tail _ (.tail _ (.head _))))) 0, HA10.out.cell (.tail _ (.tail _ (.tail _ (.tail _ (.head _))))) 1, HA10.out.cell (.tail _ (.tail _ (.tail _ (.tail _ (.head _))))) 2, HA10.out.cell (.tail _ (.tail _ (.tail _ (.tail _ (.head _))))) 3, HA10.out.cell (.tail _ (.tail _ (.tail _ (.tail _ (.head _))))) 4, HA10.out.cell (.tail _ (.tail _ (.tail _ (.tail _ (.head _))))) 5, HA10.out.cell (.tail _ (.tail _ (.tail _ (.tail _ (.head _))))) 6⟩) (fun hS => ?_)
      clear hK K
      try simp only [Act.put, putA, putZ, putS]
      generalize X9.heap.size = BE at *
      generalize X9.alloc (.cells #[] 77) = X10 at *
      have HO10 := HOE10
      clear HOE10
      refine wpAnyZ_next (rs := [3]) (by kernel_rfl) (by simp) ?_
      refine NextZ.cons (o := ⟨some 23, _, _, _, _, _⟩) rfl (fun K hK => ?_) NextZ.nil
      refine step_append_src X10 (by rfl) (.tmp 20) (.tmp 22) 22 (by rfl) wc.heap.size 77 i0 (.agg #[.int .i64 0, .int .i64 0, .slice none 0 0, .slice none 0 0, .int .i64 0, .slice none 0 0, .int .i64 0]) 7 104 Tryz.underlying22 hi0 hz0 hz1 hz2 rfl (by decide) (.slice (some ⟨BE, 0, none⟩) 0 0) 0 [] (by rfl) HO10.out oa no oc xo (by rfl) (HSO.out _ HA10.out.fr) HUO.out ?c1 ?c2 ?c3 ?_
      case c1 => have := HBY.out; unfold maxLen; omega
      case c2 => have := HBY.out; omega
      case c3 => exact HY10.out.size
      intro v11 X11 hown hgr hat
      have HO11 := Lib.hid (own_cast hown (Nat.zero_add _) (List.nil_append _))
      have HA11 := Lib.hid (HA10.out.fro (Fr.grown hgr) (fun q hq e => by have h1 := own_low HO10.out e; have := HBL.out; omega) (fun p hp e => by
        simp only [List.mem_cons, List.not_mem_nil, or_false] at hp
        rcases hp with rfl | rfl | rfl | rfl | rfl | rfl
        · have e2 : some BE = some NB := e
          injection e2 with e3
          have := hne10
          omega
        · have h1 : wc.heap.size ≤ XB := own_low HO10.out e
          have := HBL.out
          omega
        · have h1 : wc.heap.size ≤ YB := own_low HO10.out e
          have := HBL.out
          omega
        · have h1 : wc.heap.size ≤ w.heap.size := own_low HO10.out e
          have := HBL.out
          omega
        · have h1 : wc.heap.size ≤ EB := own_low HO10.out e
          have := HBL.out
          omega
        · have h1 : wc.heap.size ≤ MB := own_low HO10.out e
          have := HBL.out
          omega))
      have HY11 : Hid (Below wc.heap.size wc X11) := HY10.out.trans ((Fr.grown hgr).low HY10.out.size (fun q hq e => by have h1 := own_low HO10.out e; omega))
      clear hown hgr hat
      refine hK.out _ _ (⟨HA11.out.cell (.tail _ (.tail _ (.tail _ (.head _)))) 0, HA11.out.cell (.tail _ (.tail _ (.tail _ (.head _)))) 1, HA11.out.cell (.tail _ (.tail _ (.tail _ (.head _)))) 2, HA11.out.cell (.tail _ (.tail _ (.tail _ (.tail _ (.head _))))) 0, HA11.out.cell (.tail _ (.tail _ (.tail _ (.tail _ (.head _))))) 1, HA11.out.cell (.tail _ (.tail _ (.tail _ (.tail _ (.head _))))) 2, HA11.out.cell (.tail _ (.tail _ (.tail _ (.tail _ (.head _))))) 3, HA11.out.cell (.tail _ (.tail _ (.tail _ (.tail _ (.head _))))) 4, HA11.out.cell (.tail _ (.tail _ (.tail _ (.tail _ (.head _))))) 5, HA11.out.cell (.tail _ (.tail _ (.tail _ (.tail _ (.head _))))) 6⟩) (fun hS => ?_)
      clear hK K
      try simp only [Act.put, putA, putZ, putS]
      obtain ⟨v11a, v11c, rfl⟩ := own_slice' HO11.out
      refine wpAnyZ_next (rs := [6]) (by kernel_rfl) (by simp) ?_
      refine NextZ.cons (o := ⟨some 26, _, _, _, _, _⟩) rfl (fun K hK => ?_) NextZ.nil
      refine step_append_src X11 (by rfl) (.tmp 23) (.tmp 25) 22 (by rfl) wc.heap.size 77 i0 (.agg #[.int .i64 0, .int .i64 0, .slice none 0 0, .slice none 0 0, .int .i64 0, .slice none 0 0, .int .i64 0]) 7 104 Tryz.underlying22 hi0 hz0 hz1 hz2 rfl (by decide) (.slice v11a no v11c) no xo (by rfl) HO11.out (some ⟨NB, 0, none⟩) 1 1 [.int .i64 elo, .int .i64 ehi, erv, ecv, .int .i64 esx, env, .int .i64 epl] (by rfl) ⟨rfl, fun q u hu => ⟨_, rfl, World.news_of_block ((HA11.out.bk _ _ _ (.head _)).2) q u hu⟩⟩ HU7.out ?c1 ?c2 ?c3 ?_
      case c1 => have := HBY.out; unfold maxLen; omega
      case c2 => have := HBY.out; omega
      case c3 => exact HY11.out.size
      intro v12 X12 hown hgr hat
      have HO12 : Hid (X12.ownsRow wc.heap.size 77 7 v12 (no + 1) xo2) := by rw [← HES.out]; exact hown
      have HA12 := Lib.hid ((HA11.out.sub (L' := [(XB, #[.slice oa no oc, .slice na nw nc, .slice ma nm mc], 25), (YB, #[.slice oa no oc, .slice na nw nc, .slice ma nm mc], 25), (w.heap.size, #[.slice oa no oc, .slice na nw nc, .slice ma nm mc], 25), (EB, #[.int .i64 elo, .int .i64 ehi, erv, ecv, .int .i64 esx, env, .int .i64 epl], 77), (MB, #[.int .i64 ga, .int .i64 gb], 63)]) (fun p hp => by simp only [List.mem_cons, List.not_mem_nil, or_false] at hp ⊢; rcases hp with h | h | h | h | h <;> simp [h])).fro (Fr.grown hgr) (fun q hq e => by have h1 := own_low HO11.out e; have := HBL.out; omega) (fun p hp e => by
        simp only [List.mem_cons, List.not_mem_nil, or_false] at hp
        rcases hp with rfl | rfl | rfl | rfl | rfl
        · have h1 : wc.heap.size ≤ XB := own_low HO11.out e
          have := HBL.out
          omega
        · have h1 : wc.heap.size ≤ YB := own_low HO11.out e
          have := HBL.out
          omega
        · have h1 : wc.heap.size ≤ w.heap.size := own_low HO11.out e
          have := HBL.out
          omega
        · have h1 : wc.heap.size ≤ EB := own_low HO11.out e
          have := HBL.out
          omega
        · have h1 : wc.heap.size ≤ MB := own_low HO11.out e
          have := HBL.out
          omega))
      have HY12 : Hid (Below wc.heap.size wc X12) := HY11.out.trans ((Fr.grown hgr).low HY11.out.size (fun q hq e => by have h1 := own_low HO11.out e; omega))
      clear hown hgr hat
      refine hK.out _ _ (⟨HA12.out.cell (.tail _ (.tail _ (.head _))) 0, HA12.out.cell (.tail _ (.tail _ (.head _))) 1, HA12.out.cell (.tail _ (.tail _ (.head _))) 2, HA12.out.cell (.tail _ (.tail _ (.tail _ (.head _)))) 0, HA12.out.cell (.tail _ (.tail _ (.tail _ (.head _)))) 1, HA12.out.cell (.tail _ (.tail _ (.tail _ (.head _)))) 2, HA12.out.cell (.tail _ (.tail _ (.tail _ (.head _)))) 3, HA12.out.cell (.tail _ (.tail _ (.tail _ (.head _)))) 4, HA12.out.cell (.tail _ (.tail _ (.tail _ (.head _)))) 5, HA12.out.cell (.tail _ (.tail _ (.tail _ (.head _)))) 6⟩) (fun hS => ?_)
      clear hK K
      try simp only [Act.put, putA, putZ, putS]
      obtain ⟨v12a, v12c, rfl⟩ := own_slice' HO12.out
      refine tZ 7 (oi := ⟨_, _, _, _, _, _⟩) (v := ?_) rfl (by kernel_rfl) (by rfl) (fun _ _ _ h => h) hS ?_ ?_
      rotate_left
      · rintro W' ⟨z0, z1, z2, z3, z4, z5, z6, z7, z8, z9⟩; go_simp; try with_reducible rfl
      try simp only [Act.put, putA, putZ, putS]
      refine wpAnyZ_next (rs := [8]) (by kernel_rfl) (by simp) ?_
      refine NextZ.last (o := ⟨none, _, _, _, _, _⟩) rfl (by kernel_rfl) (fun K hK => ?_)
      have e0 := HA12.out.cell (.head _) 0
      have f0 := HA12.out.thaw (.head _) 0
      have hbl := HBL.out
      have HA13 := Lib.hid (BF.set1 (i := 0) (cs' := #[.slice v12a (no + 1) v12c, .slice na nw nc, .slice ma nm mc]) HA12.out (.head _) (.slice v12a (no + 1) v12c) (by simp) rfl (L' := [(YB, #[.slice oa no oc, .slice na nw nc, .slice ma nm mc], 25), (w.heap.size, #[.slice oa no oc, .slice na nw nc, .slice ma nm mc], 25), (EB, #[.int .i64 elo, .int .i64 ehi, erv, ecv, .int .i64 esx, env, .int .i64 epl], 77), (MB, #[.int .i64 ga, .int .i64 gb], 63)]) (List.forall_mem_cons.2 ⟨⟨show YB ≠ XB by omega, (.tail _ (.head _))⟩, List.forall_mem_cons.2 ⟨⟨show w.heap.size ≠ XB by omega, (.tail _ (.tail _ (.head _)))⟩, List.forall_mem_cons.2 ⟨⟨show EB ≠ XB by omega, (.tail _ (.tail _ (.tail _ (.head _))))⟩, List.forall_mem_cons.2 ⟨⟨show MB ≠ XB by omega, (.tail _ (.tail _ (.tail _ (.tail _ (.head _)))))⟩, List.forall_mem_nil _⟩⟩⟩⟩))
      have HO13 := Lib.hid (own_fr HO12.out (Fr.set X12 XB 0 (.slice v12a (no + 1) v12c)) (fun g cur e1 e2 _ e3 => by omega))
      go_simp
      refine hK.out _ _ ?_
      clear hK K
      (try simp only [Act.put])
      clear e0 f0
      refine wpAnyZ_done (by kernel_rfl) ?_ _
      have HX2 := Lib.hid (HA13.out)
      go_wp2_with fail
      go_meet
      exact ⟨v12a, v12c, HX2.out.sub (fun p hp => by
        simp only [List.mem_cons, List.not_mem_nil, or_false] at hp ⊢
        rcases hp with h | h | h | h | h <;> simp [h]), HO13.out⟩
    case rest =>
      rename World => wd
      obtain ⟨va, vc, hbf, hrow⟩ := hcut
      have HA2 := Lib.hid hbf
      have HRW := Lib.hid hrow
      have k1 := (HA1.out.lt (.head _)).2
      have k2 := (HA1.out.lt (.tail _ (.head _))).2
      have HRB : Hid (XB < wc.heap.size ∧ YB < wc.heap.size) := ⟨k1, k2⟩
      clear hbf hrow HA1 k1 k2
      have HRL : Hid (∀ g, (.slice va (no + 1) vc : Value).ownBlock = some g → g < wd.heap.size) := fun g e => own_lt HRW.out e
      go_upto_region 5 with fail
      have HAX := Lib.hid (HA2.out.below (Below.refl wd.heap.size _).drew)
      have HYX : Hid (Below wd.heap.size wd wd.drew) := (Below.refl _ _).drew
      have HRX := Lib.hid (own_below HRW.out (Below.refl wd.heap.size _).drew)
      go_cut [] (fun we => ∃ vb vd, BF w we [(XB, #[.slice va (no + 1) vc, .slice na nw nc, .slice ma nm mc], 25), (YB, #[.slice oa no oc, .slice na nw nc, .slice vb (nm + 1) vd], 25), (w.heap.size, #[.slice oa no oc, .slice na nw nc, .slice ma nm mc], 25), (EB, #[.int .i64 elo, .int .i64 ehi, erv, ecv, .int .i64 esx, env, .int .i64 epl], 77), (MB, #[.int .i64 ga, .int .i64 gb], 63)] ∧ we.ownsRow wd.heap.size 63 2 (.slice vb (nm + 1) vd) (nm + 1) xm2 ∧ we.ownsRow wc.heap.size 77 7 (.slice va (no + 1) vc) (no + 1) xo2)
      case first =>
        have l1 := (HA2.out.lt (.head _)).2
        have l2 := (HA2.out.lt (.tail _ (.head _))).2
        have l3 := (HA2.out.lt (.tail _ (.tail _ (.head _)))).2
        have l4 := (HA2.out.lt (.tail _ (.tail _ (.tail _ (.head _))))).2
        have l5 := (HA2.out.lt (.tail _ (.tail _ (.tail _ (.tail _ (.head _)))))).2
        have HBL : Hid (XB < wd.heap.size ∧ YB < wd.heap.size ∧ w.heap.size < wd.heap.size ∧ EB < wd.heap.size ∧ MB < wd.heap.size ∧ XB ≠ YB ∧ w.heap.size ≠ XB ∧ w.heap.size ≠ YB ∧ EB ≠ XB ∧ EB ≠ YB ∧ MB ≠ XB ∧ MB ≠ YB) := by
          exact ⟨l1, l2, l3, l4, l5, HXY.out⟩
        clear l1 l2 l3 l4 l5 HA2 HRW
        refine wp_region_Z (S := fun X => X.cell? ⟨w.heap.size, 0, none⟩ = some (.slice oa no oc) ∧ X.cell? ⟨w.heap.size, 1, none⟩ = some (.slice na nw nc) ∧ X.cell? ⟨w.heap.size, 2, none⟩ = some (.slice ma nm mc) ∧ X.cell? ⟨MB, 0, none⟩ = some (.int .i64 ga) ∧ X.cell? ⟨MB, 1, none⟩ = some (.int .i64 gb)) (by kernel_rfl) (⟨HAX.out.cell (.tail _ (.tail _ (.head _))) 0, HAX.out.cell (.tail _ (.tail _ (.head _))) 1, HAX.out.cell (.tail _ (.tail _ (.head _))) 2, HAX.out.cell (.tail _ (.tail _ (.tail _ (.tail _ (.head _))))) 0, HAX.out.cell (.tail _ (.tail _ (.tail _ (.tail _ (.head _))))) 1⟩) (fun hS => ?_)
        generalize wd.drew = X at *
        refine tk [1, 2, 4] ?_
        repeat (refine tkZ (oi := ⟨_, _, _, _, _, _⟩) (v := ?_) rfl (by kernel_rfl) (by rfl) (fun _ _ _ h => h) hS ?_ ?_; rotate_left; (· rintro W' ⟨z0, z1, z2, z3, z4⟩; go_simp; try with_reducible rfl); try simp only [Act.put, putA, putZ, putS])
        refine tk0 ?_
        refine wpAnyZ_next (rs := [0, 5]) (by kernel_rfl) (by simp) ?_
        refine NextZ.cons (o := ⟨some 36, _, _, _, _, _⟩) rfl (fun K hK => ?_) ?_
        ·
         go_simp
         have hzz0 := HYX.out.size
         have HOE0 := Lib.hid (own_empty X 63 2 wd.heap.size hzz0)
         have HAQ0 := Lib.hid (HAX.out.alloc #[] 63)
         have HRW0 := Lib.hid (own_below HRX.out (below_alloc X (.cells #[] 63)))
         have HY0 := Lib.hid (below_step HYX.out (below_alloc X (.cells #[] 63)))
         have HA0 : Hid (BF w (X.alloc (.cells #[] 63)) [(XB, #[.slice va (no + 1) vc, .slice na nw nc, .slice ma nm mc], 25), (YB, #[.slice oa no oc, .slice na nw nc, .slice ma nm mc], 25), (w.heap.size, #[.slice oa no oc, .slice na nw nc, .slice ma nm mc], 25), (EB, #[.int .i64 elo, .int .i64 ehi, erv, ecv, .int .i64 esx, env, .int .i64 epl], 77), (MB, #[.int .i64 ga, .int .i64 gb], 63)]) := HAQ0.out.sub (fun p hp => .tail _ hp)
         clear HAQ0
         refine hK.out _ _ (⟨HA0.out.cell (.tail _ (.tail _ (.head _))) 0, HA0.out.cell (.tail _ (.tail _ (.head _))) 1, HA0.out.cell (.tail _ (.tail _ (.head _))) 2, HA0.out.cell (.tail _ (.tail _ (.tail _ (.tail _ (.head _))))) 0, HA0.out.cell (.tail _ (.tail _ (.tail _ (.tail _ (.head _))))) 1⟩) (fun hS => ?_)
         clear hK K
         try simp only [Act.put, putA, putZ, putS]
         generalize X.heap.size = BE at *
         generalize X.alloc (.cells #[] 63) = X0 at *
         have HO0 := HOE0
         clear HOE0
         refine wpAnyZ_next (rs := [3, 5]) (by kernel_rfl) (by simp) ?_
         refine NextZ.cons (o := ⟨some 39, _, _, _, _, _⟩) rfl (fun K hK => ?_) ?_
         ·
          refine step_append_src X0 (by rfl) (.tmp 36) (.tmp 38) 23 (by rfl) wd.heap.size 63 j0 (.agg #[.int .i64 0, .int .i64 0]) 2 16 Tryz.underlying23 hj0 hj1 hj2 hj3 rfl (by decide) (.slice (some ⟨BE, 0, none⟩) 0 0) 0 [] (by rfl) HO0.out ma nm mc xm (by rfl) (HSM.out _ HA0.out.fr) HUM.out ?c1 ?c2 ?c3 ?_
          case c1 => have := HBY.out; unfold maxLen; omega
          case c2 => have := HBY.out; omega
          case c3 => exact HY0.out.size
          intro v1 X1 hown hgr hat
          have HO1 := Lib.hid (own_cast hown (Nat.zero_add _) (List.nil_append _))
          have HA1 := Lib.hid (HA0.out.fro (Fr.grown hgr) (fun q hq e => by have h1 := own_low HO0.out e; have := HBL.out; omega) (fun p hp e => by
            simp only [List.mem_cons, List.not_mem_nil, or_false] at hp
            rcases hp with rfl | rfl | rfl | rfl | rfl
            · have h1 : wd.heap.size ≤ XB := own_low HO0.out e
              have := HBL.out
              omega
            · have h1 : wd.heap.size ≤ YB := own_low HO0.out e
              have := HBL.out
              omega
            · have h1 : wd.heap.size ≤ w.heap.size := own_low HO0.out e
              have := HBL.out
              omega
            · have h1 : wd.heap.size ≤ EB := own_low HO0.out e
              have := HBL.out
              omega
            · have h1 : wd.heap.size ≤ MB := own_low HO0.out e
              have := HBL.out
              omega))
          have HY1 : Hid (Below wd.heap.size wd X1) := HY0.out.trans ((Fr.grown hgr).low HY0.out.size (fun q hq e => by have h1 := own_low HO0.out e; omega))
          have HRW1 := Lib.hid (own_fr HRW0.out (Fr.grown hgr) (fun g cur e1 e2 _ e3 => by have h1 := own_low HO0.out e3; have h2 := HRL.out g e1; omega))
          clear hown hgr hat
          refine hK.out _ _ (⟨HA1.out.cell (.tail _ (.tail _ (.head _))) 0, HA1.out.cell (.tail _ (.tail _ (.head _))) 1, HA1.out.cell (.tail _ (.tail _ (.head _))) 2, HA1.out.cell (.tail _ (.tail _ (.tail _ (.tail _ (.head _))))) 0, HA1.out.cell (.tail _ (.tail _ (.tail _ (.tail _ (.head _))))) 1⟩) (fun hS => ?_)
          clear hK K
          try simp only [Act.put, putA, putZ, putS]
          obtain ⟨v1a, v1c, rfl⟩ := own_slice' HO1.out
          refine wpAnyZ_next (rs := [5]) (by kernel_rfl) (by simp) ?_
          refine NextZ.cons (o := ⟨some 41, _, _, _, _, _⟩) rfl (fun K hK => ?_) NextZ.nil
          go_simp
          have HA2 := Lib.hid (HA1.out.alloc #[.int .i64 ga, .int .i64 gb] 63)
          have hnX := (HA1.out.lt (.head _)).2
          have hnY := (HA1.out.lt (.tail _ (.head _))).2
          have hnF := (HA1.out.lt (.tail _ (.tail _ (.head _)))).2
          have hnE := (HA1.out.lt (.tail _ (.tail _ (.tail _ (.head _))))).2
          have hnM := (HA1.out.lt (.tail _ (.tail _ (.tail _ (.tail _ (.head _)))))).2
          have HO2 := Lib.hid (own_below HO1.out (below_alloc X1 (.cells #[.int .i64 ga, .int .i64 gb] 63)))
          have HRW2 := Lib.hid (own_below HRW1.out (below_alloc X1 (.cells #[.int .i64 ga, .int .i64 gb] 63)))
          have HY2 := Lib.hid (below_step HY1.out (below_alloc X1 (.cells #[.int .i64 ga, .int .i64 gb] 63)))
          refine hK.out _ _ (⟨HA2.out.cell (.tail _ (.tail _ (.tail _ (.head _)))) 0, HA2.out.cell (.tail _ (.tail _ (.tail _ (.head _)))) 1, HA2.out.cell (.tail _ (.tail _ (.tail _ (.head _)))) 2, HA2.out.cell (.tail _ (.tail _ (.tail _ (.tail _ (.tail _ (.head _)))))) 0, HA2.out.cell (.tail _ (.tail _ (.tail _ (.tail _ (.tail _ (.head _)))))) 1⟩) (fun hS => ?_)
          clear hK K
          try simp only [Act.put, putA, putZ, putS]
          generalize X1.heap.size = NB at *
          generalize X1.alloc (.cells #[.int .i64 ga, .int .i64 gb] 63) = X2 at *
          refine wpAnyZ_next (rs := [6]) (by kernel_rfl) (by simp) ?_
          refine NextZ.cons (o := ⟨some 42, _, _, _, _, _⟩) rfl (fun K hK => ?_) NextZ.nil
          refine step_append_src X2 (by rfl) (.tmp 39) (.tmp 41) 23 (by rfl) wd.heap.size 63 j0 (.agg #[.int .i64 0, .int .i64 0]) 2 16 Tryz.underlying23 hj0 hj1 hj2 hj3 rfl (by decide) (.slice v1a nm v1c) nm xm (by rfl) HO2.out (some ⟨NB, 0, none⟩) 1 1 [.int .i64 ga, .int .i64 gb] (by rfl) ⟨rfl, fun q u hu => ⟨_, rfl, World.news_of_block ((HA2.out.bk _ _ _ (.head _)).2) q u hu⟩⟩ (by simp [Value.oneCell']) ?c1 ?c2 ?c3 ?_
          case c1 => have := HBY.out; unfold maxLen; omega
          case c2 => have := HBY.out; omega
          case c3 => exact HY2.out.size
          intro v3 X3 hown hgr hat
          have HO3 : Hid (X3.ownsRow wd.heap.size 63 2 v3 (nm + 1) xm2) := by rw [← HEM.out]; exact hown
          have HA3 := Lib.hid ((HA2.out.sub (L' := [(XB, #[.slice va (no + 1) vc, .slice na nw nc, .slice ma nm mc], 25), (YB, #[.slice oa no oc, .slice na nw nc, .slice ma nm mc], 25), (w.heap.size, #[.slice oa no oc, .slice na nw nc, .slice ma nm mc], 25), (EB, #[.int .i64 elo, .int .i64 ehi, erv, ecv, .int .i64 esx, env, .int .i64 epl], 77), (MB, #[.int .i64 ga, .int .i64 gb], 63)]) (fun p hp => by simp only [List.mem_cons, List.not_mem_nil, or_false] at hp ⊢; rcases hp with h | h | h | h | h <;> simp [h])).fro (Fr.grown hgr) (fun q hq e => by have h1 := own_low HO2.out e; have := HBL.out; omega) (fun p hp e => by
            simp only [List.mem_cons, List.not_mem_nil, or_false] at hp
            rcases hp with rfl | rfl | rfl | rfl | rfl
            · have h1 : wd.heap.size ≤ XB := own_low HO2.out e
              have := HBL.out
              omega
            · have h1 : wd.heap.size ≤ YB := own_low HO2.out e
              have := HBL.out
              omega
            · have h1 : wd.heap.size ≤ w.heap.size := own_low HO2.out e
              have := HBL.out
              omega
            · have h1 : wd.heap.size ≤ EB := own_low HO2.out e
              have := HBL.out
              omega
            · have h1 : wd.heap.size ≤ MB := own_low HO2.out e
              have := HBL.out
              omega))
          have HY3 : Hid (Below wd.heap.size wd X3) := HY2.out.trans ((Fr.grown hgr).low HY2.out.size (fun q hq e => by have h1 := own_low HO2.out e; omega))
          have HRW3 := Lib.hid (own_fr HRW2.out (Fr.grown hgr) (fun g cur e1 e2 _ e3 => by have h1 := own_low HO2.out e3; have h2 := HRL.out g e1; omega))
          clear hown hgr hat
          refine hK.out _ _ (⟨HA3.out.cell (.tail _ (.tail _ (.head _))) 0, HA3.out.cell (.tail _ (.tail _ (.head _))) 1, HA3.out.cell (.tail _ (.tail _ (.head _))) 2, HA3.out.cell (.tail _ (.tail _ (.tail _ (.tail _ (.head _))))) 0, HA3.out.cell (.tail _ (.tail _ (.tail _ (.tail _ (.head _))))) 1⟩) (fun hS => ?_)
          clear hK K
          try simp only [Act.put, putA, putZ, putS]
          obtain ⟨v3a, v3c, rfl⟩ := own_slice' HO3.out
          refine tZ 7 (oi := ⟨_, _, _, _, _, _⟩) (v := ?_) rfl (by kernel_rfl) (by rfl) (fun _ _ _ h => h) hS ?_ ?_
          rotate_left
          · rintro W' ⟨z0, z1, z2, z3, z4⟩; go_simp; try with_reducible rfl
          try simp only [Act.put, putA, putZ, putS]
          refine wpAnyZ_next (rs := [8]) (by kernel_rfl) (by simp) ?_
          refine NextZ.last (o := ⟨none, _, _, _, _, _⟩) rfl (by kernel_rfl) (fun K hK => ?_)
          have e0 := HA3.out.cell (.tail _ (.head _)) 2
          have f0 := HA3.out.thaw (.tail _ (.head _)) 2
          have hbl := HBL.out
          have HA4 := Lib.hid (BF.set1 (i := 2) (cs' := #[.slice oa no oc, .slice na nw nc, .slice v3a (nm + 1) v3c]) HA3.out (.tail _ (.head _)) (.slice v3a (nm + 1) v3c) (by simp) rfl (L' := [(XB, #[.slice va (no + 1) vc, .slice na nw nc, .slice ma nm mc], 25), (w.heap.size, #[.slice oa no oc, .slice na nw nc, .slice ma nm mc], 25), (EB, #[.int .i64 elo, .int .i64 ehi, erv, ecv, .int .i64 esx, env, .int .i64 epl], 77), (MB, #[.int .i64 ga, .int .i64 gb], 63)]) (List.forall_mem_cons.2 ⟨⟨show XB ≠ YB by omega, (.head _)⟩, List.forall_mem_cons.2 ⟨⟨show w.heap.size ≠ YB by omega, (.tail _ (.tail _ (.head _)))⟩, List.forall_mem_cons.2 ⟨⟨show EB ≠ YB by omega, (.tail _ (.tail _ (.tail _ (.head _))))⟩, List.forall_mem_cons.2 ⟨⟨show MB ≠ YB by omega, (.tail _ (.tail _ (.tail _ (.tail _ (.head _)))))⟩, List.forall_mem_nil _⟩⟩⟩⟩))
          have HO4 := Lib.hid (own_fr HO3.out (Fr.set X3 YB 2 (.slice v3a (nm + 1) v3c)) (fun g cur e1 e2 _ e3 => by omega))
          have HRW4 := Lib.hid (own_fr HRW3.out (Fr.set X3 YB 2 (.slice v3a (nm + 1) v3c)) (fun g cur e1 e2 _ e3 => by have := HRB.out; omega))
          go_simp
          refine hK.out _ _ ?_
          clear hK K
          (try simp only [Act.put])
          clear e0 f0
          refine wpAnyZ_done (by kernel_rfl) ?_ _
          have HX2 := Lib.hid (HA4.out)
          go_wp2_with fail
          go_meet
          exact ⟨v3a, v3c, HX2.out.sub (fun p hp => by
            simp only [List.mem_cons, List.not_mem_nil, or_false] at hp ⊢
            rcases hp with h | h | h | h | h <;> simp [h]), HO4.out, HRW4.out⟩
         refine NextZ.cons (o := ⟨some 41, _, _, _, _, _⟩) rfl (fun K hK => ?_) NextZ.nil
         go_simp
         have HA5 := Lib.hid (HA0.out.alloc #[.int .i64 ga, .int .i64 gb] 63)
         have hnX := (HA0.out.lt (.head _)).2
         have hnY := (HA0.out.lt (.tail _ (.head _))).2
         have hnF := (HA0.out.lt (.tail _ (.tail _ (.head _)))).2
         have hnE := (HA0.out.lt (.tail _ (.tail _ (.tail _ (.head _))))).2
         have hnM := (HA0.out.lt (.tail _ (.tail _ (.tail _ (.tail _ (.head _)))))).2
         have hne5 : BE < X0.heap.size := own_lt HO0.out rfl
         have HO5 := Lib.hid (own_below HO0.out (below_alloc X0 (.cells #[.int .i64 ga, .int .i64 gb] 63)))
         have HRW5 := Lib.hid (own_below HRW0.out (below_alloc X0 (.cells #[.int .i64 ga, .int .i64 gb] 63)))
         have HY5 := Lib.hid (below_step HY0.out (below_alloc X0 (.cells #[.int .i64 ga, .int .i64 gb] 63)))
         refine hK.out _ _ (⟨HA5.out.cell (.tail _ (.tail _ (.tail _ (.head _)))) 0, HA5.out.cell (.tail _ (.tail _ (.tail _ (.head _)))) 1, HA5.out.cell (.tail _ (.tail _ (.tail _ (.head _)))) 2, HA5.out.cell (.tail _ (.tail _ (.tail _ (.tail _ (.tail _ (.head _)))))) 0, HA5.out.cell (.tail _ (.tail _ (.tail _ (.tail _ (.tail _ (.head _)))))) 1⟩) (fun hS => ?_)
         clear hK K
         try simp only [Act.put, putA, putZ, putS]
         generalize X0.heap.size = NB at *
         generalize X0.alloc (.cells #[.int .i64 ga, .int .i64 gb] 63) = X5 at *
         refine wpAnyZ_next (rs := [3]) (by kernel_rfl) (by simp) ?_
         refine NextZ.cons (o := ⟨some 39, _, _, _, _, _⟩) rfl (fun K hK => ?_) NextZ.nil
         refine step_append_src X5 (by rfl) (.tmp 36) (.tmp 38) 23 (by rfl) wd.heap.size 63 j0 (.agg #[.int .i64 0, .int .i64 0]) 2 16 Tryz.underlying23 hj0 hj1 hj2 hj3 rfl (by decide) (.slice (some ⟨BE, 0, none⟩) 0 0) 0 [] (by rfl) HO5.out ma nm mc xm (by rfl) (HSM.out _ HA5.out.fr) HUM.out ?c1 ?c2 ?c3 ?_
         case c1 => have := HBY.out; unfold maxLen; omega
         case c2 => have := HBY.out; omega
         case c3 => exact HY5.out.size
         intro v6 X6 hown hgr hat
         have HO6 := Lib.hid (own_cast hown (Nat.zero_add _) (List.nil_append _))
         have HA6 := Lib.hid (HA5.out.fro (Fr.grown hgr) (fun q hq e => by have h1 := own_low HO5.out e; have := HBL.out; omega) (fun p hp e => by
           simp only [List.mem_cons, List.not_mem_nil, or_false] at hp
           rcases hp with rfl | rfl | rfl | rfl | rfl | rfl
           · have e2 : some BE = some NB := e
             injection e2 with e3
             have := hne5
             omega
           · have h1 : wd.heap.size ≤ XB := own_low HO5.out e
             have := HBL.out
             omega
           · have h1 : wd.heap.size ≤ YB := own_low HO5.out e
             have := HBL.out
             omega
           · have h1 : wd.heap.size ≤ w.heap.size := own_low HO5.out e
             have := HBL.out
             omega
           · have h1 : wd.heap.size ≤ EB := own_low HO5.out e
             have := HBL.out
             omega
           · have h1 : wd.heap.size ≤ MB := own_low HO5.out e
             have := HBL.out
             omega))
         have HY6 : Hid (Below wd.heap.size wd X6) := HY5.out.trans ((Fr.grown hgr).low HY5.out.size (fun q hq e => by have h1 := own_low HO5.out e; omega))
         have HRW6 := Lib.hid (own_fr HRW5.out (Fr.grown hgr) (fun g cur e1 e2 _ e3 => by have h1 := own_low HO5.out e3; have h2 := HRL.out g e1; omega))
         clear hown hgr hat
         refine hK.out _ _ (⟨HA6.out.cell (.tail _ (.tail _ (.tail _ (.head _)))) 0, HA6.out.cell (.tail _ (.tail _ (.tail _ (.head _)))) 1, HA6.out.cell (.tail _ (.tail _ (.tail _ (.head _)))) 2, HA6.out.cell (.tail _ (.tail _ (.tail _ (.tail _ (.tail _ (.head _)))))) 0, HA6.out.cell (.tail _ (.tail _ (.tail _ (.tail _ (.tail _ (.head _)))))) 1⟩) (fun hS => ?_)
         clear hK K
         try simp only [Act.put, putA, putZ, putS]
         obtain ⟨v6a, v6c, rfl⟩ := own_slice' HO6.out
         refine wpAnyZ_next (rs := [6]) (by kernel_rfl) (by simp) ?_
         refine NextZ.cons (o := ⟨some 42, _, _, _, _, _⟩) rfl (fun K hK => ?_) NextZ.nil
         refine step_append_src X6 (by rfl) (.tmp 39) (.tmp 41) 23 (by rfl) wd.heap.size 63 j0 (.agg #[.int .i64 0, .int .i64 0]) 2 16 Tryz.underlying23 hj0 hj1 hj2 hj3 rfl (by decide) (.slice v6a nm v6c) nm xm (by rfl) HO6.out (some ⟨NB, 0, none⟩) 1 1 [.int .i64 ga, .int .i64 gb] (by rfl) ⟨rfl, fun q u hu => ⟨_, rfl, World.news_of_block ((HA6.out.bk _ _ _ (.head _)).2) q u hu⟩⟩ (by simp [Value.oneCell']) ?c1 ?c2 ?c3 ?_
         case c1 => have := HBY.out; unfold maxLen; omega
         case c2 => have := HBY.out; omega
         case c3 => exact HY6.out.size
         intro v7 X7 hown hgr hat
         have HO7 : Hid (X7.ownsRow wd.heap.size 63 2 v7 (nm + 1) xm2) := by rw [← HEM.out]; exact hown
         have HA7 := Lib.hid ((HA6.out.sub (L' := [(XB, #[.slice va (no + 1) vc, .slice na nw nc, .slice ma nm mc], 25), (YB, #[.slice oa no oc, .slice na nw nc, .slice ma nm mc], 25), (w.heap.size, #[.slice oa no oc, .slice na nw nc, .slice ma nm mc], 25), (EB, #[.int .i64 elo, .int .i64 ehi, erv, ecv, .int .i64 esx, env, .int .i64 epl], 77), (MB, #[.int .i64 ga, .int .i64 gb], 63)]) (fun p hp => by simp only [List.mem_cons, List.not_mem_nil, or_false] at hp ⊢; rcases hp with h | h | h | h | h <;> simp [h])).fro (Fr.grown hgr) (fun q hq e => by have h1 := own_low HO6.out e; have := HBL.out; omega) (fun p hp e => by
           simp only [List.mem_cons, List.not_mem_nil, or_false] at hp
           rcases hp with rfl | rfl | rfl | rfl | rfl
           · have h1 : wd.heap.size ≤ XB := own_low HO6.out e
             have := HBL.out
             omega
           · have h1 : wd.heap.size ≤ YB := own_low HO6.out e
             have := HBL.out
             omega
           · have h1 : wd.heap.size ≤ w.heap.size := own_low HO6.out e
             have := HBL.out
             omega
           · have h1 : wd.heap.size ≤ EB := own_low HO6.out e
             have := HBL.out
             omega
           · have h1 : wd.heap.size ≤ MB := own_low HO6.out e
             have := HBL.out
             omega))
         have HY7 : Hid (Below wd.heap.size wd X7) := HY6.out.trans ((Fr.grown hgr).low HY6.out.size (fun q hq e => by have h1 := own_low HO6.out e; omega))
         have HRW7 := Lib.hid (own_fr HRW6.out (Fr.grown hgr) (fun g cur e1 e2 _ e3 => by have h1 := own_low HO6.out e3; have h2 := HRL.out g e1; omega))
         clear hown hgr hat
         refine hK.out _ _ (⟨HA7.out.cell (.tail _ (.tail _ (.head _))) 0, HA7.out.cell (.tail _ (.tail _ (.head _))) 1, HA7.out.cell (.tail _ (.tail _ (.head _))) 2, HA7.out.cell (.tail _ (.tail _ (.tail _ (.tail _ (.head _))))) 0, HA7.out.cell (.tail _ (.tail _ (.tail _ (.tail _ (.head _))))) 1⟩) (fun hS => ?_)
         clear hK K
         try simp only [Act.put, putA, putZ, putS]
         obtain ⟨v7a, v7c, rfl⟩ := own_slice' HO7.out
         refine tZ 7 (oi := ⟨_, _, _, _, _, _⟩) (v := ?_) rfl (by kernel_rfl) (by rfl) (fun _ _ _ h => h) hS ?_ ?_
         rotate_left
         · rintro W' ⟨z0, z1, z2, z3, z4⟩; go_simp; try with_reducible rfl
         try simp only [Act.put, putA, putZ, putS]
         refine wpAnyZ_next (rs := [8]) (by kernel_rfl) (by simp) ?_
         refine NextZ.last (o := ⟨none, _, _, _, _, _⟩) rfl (by kernel_rfl) (fun K hK => ?_)
         have e0 := HA7.out.cell (.tail _ (.head _)) 2
         have f0 := HA7.out.thaw (.tail _ (.head _)) 2
         have hbl := HBL.out
         have HA8 := Lib.hid (BF.set1 (i := 2) (cs' := #[.slice oa no oc, .slice na nw nc, .slice v7a (nm + 1) v7c]) HA7.out (.tail _ (.head _)) (.slice v7a (nm + 1) v7c) (by simp) rfl (L' := [(XB, #[.slice va (no + 1) vc, .slice na nw nc, .slice ma nm mc], 25), (w.heap.size, #[.slice oa no oc, .slice na nw nc, .slice ma nm mc], 25), (EB, #[.int .i64 elo, .int .i64 ehi, erv, ecv, .int .i64 esx, env, .int .i64 epl], 77), (MB, #[.int .i64 ga, .int .i64 gb], 63)]) (List.forall_mem_cons.2 ⟨⟨show XB ≠ YB by omega, (.head _)⟩, List.forall_mem_cons.2 ⟨⟨show w.heap.size ≠ YB by omega, (.tail _ (.tail _ (.head _)))⟩, List.forall_mem_cons.2 ⟨⟨show EB ≠ YB by omega, (.tail _ (.tail _ (.tail _ (.head _))))⟩, List.forall_mem_cons.2 ⟨⟨show MB ≠ YB by omega, (.tail _ (.tail _ (.tail _ (.tail _ (.head _)))))⟩, List.forall_mem_nil _⟩⟩⟩⟩))
         have HO8 := Lib.hid (own_fr HO7.out (Fr.set X7 YB 2 (.slice v7a (nm + 1) v7c)) (fun g cur e1 e2 _ e3 => by omega))
         have HRW8 := Lib.hid (own_fr HRW7.out (Fr.set X7 YB 2 (.slice v7a (nm + 1) v7c)) (fun g cur e1 e2 _ e3 => by have := HRB.out; omega))
         go_simp
         refine hK.out _ _ ?_
         clear hK K
         (try simp only [Act.put])
         clear e0 f0
         refine wpAnyZ_done (by kernel_rfl) ?_ _
         have HX2 := Lib.hid (HA8.out)
         go_wp2_with fail
         go_meet
         exact ⟨v7a, v7c, HX2.out.sub (fun p hp => by
           simp only [List.mem_cons, List.not_mem_nil, or_false] at hp ⊢
           rcases hp with h | h | h | h | h <;> simp [h]), HO8.out, HRW8.out⟩
        refine NextZ.cons (o := ⟨some 41, _, _, _, _, _⟩) rfl (fun K hK => ?_) NextZ.nil
        go_simp
        have HA9 := Lib.hid (HAX.out.alloc #[.int .i64 ga, .int .i64 gb] 63)
        have hnX := (HAX.out.lt (.head _)).2
        have hnY := (HAX.out.lt (.tail _ (.head _))).2
        have hnF := (HAX.out.lt (.tail _ (.tail _ (.head _)))).2
        have hnE := (HAX.out.lt (.tail _ (.tail _ (.tail _ (.head _))))).2
        have hnM := (HAX.out.lt (.tail _ (.tail _ (.tail _ (.tail _ (.head _)))))).2
        have HRW9 := Lib.hid (own_below HRX.out (below_alloc X (.cells #[.int .i64 ga, .int .i64 gb] 63)))
        have HY9 := Lib.hid (below_step HYX.out (below_alloc X (.cells #[.int .i64 ga, .int .i64 gb] 63)))
        refine hK.out _ _ (⟨HA9.out.cell (.tail _ (.tail _ (.tail _ (.head _)))) 0, HA9.out.cell (.tail _ (.tail _ (.tail _ (.head _)))) 1, HA9.out.cell (.tail _ (.tail _ (.tail _ (.head _)))) 2, HA9.out.cell (.tail _ (.tail _ (.tail _ (.tail _ (.tail _ (.head _)))))) 0, HA9.out.cell (.tail _ (.tail _ (.tail _ (.tail _ (.tail _ (.head _)))))) 1⟩) (fun hS => ?_)
        clear hK K
        try simp only [Act.put, putA, putZ, putS]
        generalize X.heap.size = NB at *
        generalize X.alloc (.cells #[.int .i64 ga, .int .i64 gb] 63) = X9 at *
        refine wpAnyZ_next (rs := [0]) (by kernel_rfl) (by simp) ?_
        refine NextZ.cons (o := ⟨some 36, _, _, _, _, _⟩) rfl (fun K hK => ?_) NextZ.nil
        go_simp
        have hzz10 := HY9.out.size
        have HOE10 := Lib.hid (own_empty X9 63 2 wd.heap.size hzz10)
        have HAQ10 := Lib.hid (HA9.out.alloc #[] 63)
        have hne10 := (HA9.out.lt (.head _)).2
        have HRW10 := Lib.hid (own_below HRW9.out (below_alloc X9 (.cells #[] 63)))
        have HY10 := Lib.hid (below_step HY9.out (below_alloc X9 (.cells #[] 63)))
        have HA10 : Hid (BF w (X9.alloc (.cells #[] 63)) [(NB, #[.int .i64 ga, .int .i64 gb], 63), (XB, #[.slice va (no + 1) vc, .slice na nw nc, .slice ma nm mc], 25), (YB, #[.slice oa no oc, .slice na nw nc, .slice ma nm mc], 25), (w.heap.size, #[.slice oa no oc, .slice na nw nc, .slice ma nm mc], 25), (EB, #[.int .i64 elo, .int .i64 ehi, erv, ecv, .int .i64 esx, env, .int .i64 epl], 77), (MB, #[.int .i64 ga, .int .i64 gb], 63)]) := HAQ10.out.sub (fun p hp => .tail _ hp)
        clear HAQ10
        refine hK.out _ _ (⟨HA10.out.cell (.tail _ (.tail _ (.tail _ (.head _)))) 0, HA10.out.cell (.tail _ (.tail _ (.tail _ (.head _)))) 1, HA10.out.cell (.tail _ (.tail _ (.tail _ (.head _)))) 2, HA10.out.cell (.tail _ (.tail _ (.tail _ (.tail _ (.tail _ (.head _)))))) 0, HA10.out.cell (.tail _ (.tail _ (.tail _ (.tail _ (.tail _ (.head _)))))) 1⟩) (fun hS => ?_)
        clear hK K
        try simp only [Act.put, putA, putZ, putS]
        generalize X9.heap.size = BE at *
        generalize X9.alloc (.cells #[] 63) = X10 at *
        have HO10 := HOE10
        clear HOE10
        refine wpAnyZ_next (rs := [3]) (by kernel_rfl) (by simp) ?_
        refine NextZ.cons (o := ⟨some 39, _, _, _, _, _⟩) rfl (fun K hK => ?_) NextZ.nil
        refine step_append_src X10 (by rfl) (.tmp 36) (.tmp 38) 23 (by rfl) wd.heap.size 63 j0 (.agg #[.int .i64 0, .int .i64 0]) 2 16 Tryz.underlying23 hj0 hj1 hj2 hj3 rfl (by decide) (.slice (some ⟨BE, 0, none⟩) 0 0) 0 [] (by rfl) HO10.out ma nm mc xm (by rfl) (HSM.out _ HA10.out.fr) HUM.out ?c1 ?c2 ?c3 ?_
        case c1 => have := HBY.out; unfold maxLen; omega
        case c2 => have := HBY.out; omega
        case c3 => exact HY10.out.size
        intro v11 X11 hown hgr hat
        have HO11 := Lib.hid (own_cast hown (Nat.zero_add _) (List.nil_append _))
        have HA11 := Lib.hid (HA10.out.fro (Fr.grown hgr) (fun q hq e => by have h1 := own_low HO10.out e; have := HBL.out; omega) (fun p hp e => by
          simp only [List.mem_cons, List.not_mem_nil, or_false] at hp
          rcases hp with rfl | rfl | rfl | rfl | rfl | rfl
          · have e2 : some BE = some NB := e
            injection e2 with e3
            have := hne10
            omega
          · have h1 : wd.heap.size ≤ XB := own_low HO10.out e
            have := HBL.out
            omega
          · have h1 : wd.heap.size ≤ YB := own_low HO10.out e
            have := HBL.out
            omega
          · have h1 : wd.heap.size ≤ w.heap.size := own_low HO10.out e
            have := HBL.out
            omega
          · have h1 : wd.heap.size ≤ EB := own_low HO10.out e
            have := HBL.out
            omega
          · have h1 : wd.heap.size ≤ MB := own_low HO10.out e
            have := HBL.out
            omega))
        have HY11 : Hid (Below wd.heap.size wd X11) := HY10.out.trans ((Fr.grown hgr).low HY10.out.size (fun q hq e => by have h1 := own_low HO10.out e; omega))
        have HRW11 := Lib.hid (own_fr HRW10.out (Fr.grown hgr) (fun g cur e1 e2 _ e3 => by have h1 := own_low HO10.out e3; have h2 := HRL.out g e1; omega))
        clear hown hgr hat
        refine hK.out _ _ (⟨HA11.out.cell (.tail _ (.tail _ (.tail _ (.head _)))) 0, HA11.out.cell (.tail _ (.tail _ (.tail _ (.head _)))) 1, HA11.out.cell (.tail _ (.tail _ (.tail _ (.head _)))) 2, HA11.out.cell (.tail _ (.tail _ (.tail _ (.tail _ (.tail _ (.head _)))))) 0, HA11.out.cell (.tail _ (.tail _ (.tail _ (.tail _ (.tail _ (.head _)))))) 1⟩) (fun hS => ?_)
        clear hK K
        try simp only [Act.put, putA, putZ, putS]
        obtain ⟨v11a, v11c, rfl⟩ := own_slice' HO11.out
        refine wpAnyZ_next (rs := [6]) (by kernel_rfl) (by simp) ?_
        refine NextZ.cons (o := ⟨some 42, _, _, _, _, _⟩) rfl (fun K hK => ?_) NextZ.nil
        refine step_append_src X11 (by rfl) (.tmp 39) (.tmp 41) 23 (by rfl) wd.heap.size 63 j0 (.agg #[.int .i64 0, .int .i64 0]) 2 16 Tryz.underlying23 hj0 hj1 hj2 hj3 rfl (by decide) (.slice v11a nm v11c) nm xm (by rfl) HO11.out (some ⟨NB, 0, none⟩) 1 1 [.int .i64 ga, .int .i64 gb] (by rfl) ⟨rfl, fun q u hu => ⟨_, rfl, World.news_of_block ((HA11.out.bk _ _ _ (.head _)).2) q u hu⟩⟩ (by simp [Value.oneCell']) ?c1 ?c2 ?c3 ?_
        case c1 => have := HBY.out; unfold maxLen; omega
        case c2 => have := HBY.out; omega
        case c3 => exact HY11.out.size
        intro v12 X12 hown hgr hat
        have HO12 : Hid (X12.ownsRow wd.heap.size 63 2 v12 (nm + 1) xm2) := by rw [← HEM.out]; exact hown
        have HA12 := Lib.hid ((HA11.out.sub (L' := [(XB, #[.slice va (no + 1) vc, .slice na nw nc, .slice ma nm mc], 25), (YB, #[.slice oa no oc, .slice na nw nc, .slice ma nm mc], 25), (w.heap.size, #[.slice oa no oc, .slice na nw nc, .slice ma nm mc], 25), (EB, #[.int .i64 elo, .int .i64 ehi, erv, ecv, .int .i64 esx, env, .int .i64 epl], 77), (MB, #[.int .i64 ga, .int .i64 gb], 63)]) (fun p hp => by simp only [List.mem_cons, List.not_mem_nil, or_false] at hp ⊢; rcases hp with h | h | h | h | h <;> simp [h])).fro (Fr.grown hgr) (fun q hq e => by have h1 := own_low HO11.out e; have := HBL.out; omega) (fun p hp e => by
          simp only [List.mem_cons, List.not_mem_nil, or_false] at hp
          rcases hp with rfl | rfl | rfl | rfl | rfl
          · have h1 : wd.heap.size ≤ XB := own_low HO11.out e
            have := HBL.out
            omega
          · have h1 : wd.heap.size ≤ YB := own_low HO11.out e
            have := HBL.out
            omega
          · have h1 : wd.heap.size ≤ w.heap.size := own_low HO11.out e
            have := HBL.out
            omega
          · have h1 : wd.heap.size ≤ EB := own_low HO11.out e
            have := HBL.out
            omega
          · have h1 : wd.heap.size ≤ MB := own_low HO11.out e
            have := HBL.out
            omega))
        have HY12 : Hid (Below wd.heap.size wd X12) := HY11.out.trans ((Fr.grown hgr).low HY11.out.size (fun q hq e => by have h1 := own_low HO11.out e; omega))
        have HRW12 := Lib.hid (own_fr HRW11.out (Fr.grown hgr) (fun g cur e1 e2 _ e3 => by have h1 := own_low HO11.out e3; have h2 := HRL.out g e1; omega))
        clear hown hgr hat
        refine hK.out _ _ (⟨HA12.out.cell (.tail _ (.tail _ (.head _))) 0, HA12.out.cell (.tail _ (.tail _ (.head _))) 1, HA12.out.cell (.tail _ (.tail _ (.head _))) 2, HA12.out.cell (.tail _ (.tail _ (.tail _ (.tail _ (.head _))))) 0, HA12.out.cell (.tail _ (.tail _ (.tail _ (.tail _ (.head _))))) 1⟩) (fun hS => ?_)
        clear hK K
        try simp only [Act.put, putA, putZ, putS]
        obtain ⟨v12a, v12c, rfl⟩ := own_slice' HO12.out
        refine tZ 7 (oi := ⟨_, _, _, _, _, _⟩) (v := ?_) rfl (by kernel_rfl) (by rfl) (fun _ _ _ h => h) hS ?_ ?_
        rotate_left
        · rintro W' ⟨z0, z1, z2, z3, z4⟩; go_simp; try with_reducible rfl
        try simp only [Act.put, putA, putZ, putS]
        refine wpAnyZ_next (rs := [8]) (by kernel_rfl) (by simp) ?_
        refine NextZ.last (o := ⟨none, _, _, _, _, _⟩) rfl (by kernel_rfl) (fun K hK => ?_)
        have e0 := HA12.out.cell (.tail _ (.head _)) 2
        have f0 := HA12.out.thaw (.tail _ (.head _)) 2
        have hbl := HBL.out
        have HA13 := Lib.hid (BF.set1 (i := 2) (cs' := #[.slice oa no oc, .slice na nw nc, .slice v12a (nm + 1) v12c]) HA12.out (.tail _ (.head _)) (.slice v12a (nm + 1) v12c) (by simp) rfl (L' := [(XB, #[.slice va (no + 1) vc, .slice na nw nc, .slice ma nm mc], 25), (w.heap.size, #[.slice oa no oc, .slice na nw nc, .slice ma nm mc], 25), (EB, #[.int .i64 elo, .int .i64 ehi, erv, ecv, .int .i64 esx, env, .int .i64 epl], 77), (MB, #[.int .i64 ga, .int .i64 gb], 63)]) (List.forall_mem_cons.2 ⟨⟨show XB ≠ YB by omega, (.head _)⟩, List.forall_mem_cons.2 ⟨⟨show w.heap.size ≠ YB by omega, (.tail _ (.tail _ (.head _)))⟩, List.forall_mem_cons.2 ⟨⟨show EB ≠ YB by omega, (.tail _ (.tail _ (.tail _ (.head _))))⟩, List.forall_mem_cons.2 ⟨⟨show MB ≠ YB by omega, (.tail _ (.tail _ (.tail _ (.tail _ (.head _)))))⟩, List.forall_mem_nil _⟩⟩⟩⟩))
        have HO13 := Lib.hid (own_fr HO12.out (Fr.set X12 YB 2 (.slice v12a (nm + 1) v12c)) (fun g cur e1 e2 _ e3 => by omega))
        have HRW13 := Lib.hid (own_fr HRW12.out (Fr.set X12 YB 2 (.slice v12a (nm + 1) v12c)) (fun g cur e1 e2 _ e3 => by have := HRB.out; omega))
        go_simp
        refine hK.out _ _ ?_
        clear hK K
        (try simp only [Act.put])
        clear e0 f0
        refine wpAnyZ_done (by kernel_rfl) ?_ _
        have HX2 := Lib.hid (HA13.out)
        go_wp2_with fail
        go_meet
        exact ⟨v12a, v12c, HX2.out.sub (fun p hp => by
          simp only [List.mem_cons, List.not_mem_nil, or_false] at hp ⊢
          rcases hp with h | h | h | h | h <;> simp [h]), HO13.out, HRW13.out⟩
      case rest =>
        clear HAX HYX HRX HRW HA2 HRB HRL HXY
        rename World => we
        obtain ⟨vb, vd, hbf, hrow2, hrow⟩ := hcut
        have HA := Lib.hid hbf
        have HCX := Lib.hid (HQX.out we wc.heap.size va vc hbf.fr hrow)
        have HCY := Lib.hid (HQY.out we wd.heap.size vb vd hbf.fr hrow2)
        clear hbf hrow hrow2 HQX HQY HSO HSN HSM HUO HUN HUM HU7 HES HEM
        have HX0 : Hid (Below we.heap.size we we) := Below.refl _ _
        have cF0 := HA.out.cell (.tail _ (.tail _ (.head _))) 0
        have cF1 := HA.out.cell (.tail _ (.tail _ (.head _))) 1
        have cF2 := HA.out.cell (.tail _ (.tail _ (.head _))) 2
        have cX0 := HA.out.cell (.head _) 0
        have cX1 := HA.out.cell (.head _) 1
        have cX2 := HA.out.cell (.head _) 2
        have cY0 := HA.out.cell (.tail _ (.head _)) 0
        have cY1 := HA.out.cell (.tail _ (.head _)) 1
        have cY2 := HA.out.cell (.tail _ (.head _)) 2
        go_wp2_with fail
        refine (HRF.out _ HA.out.fr).mono ?_
        rintro _ y1 ⟨rfl, hb⟩
        have HX0' := Lib.hid (HX0.out.trans (hb.mono HX0.out.size))
        clear HX0
        have HX0 := HX0'
        clear HX0'
        have HA' := Lib.hid (HA.out.below hb)
        clear HA
        have HA := HA'
        clear HA'
        clear hb cF0 cF1 cF2 cX0 cX1 cX2 cY0 cY1 cY2
        cases rf
        · go_wp2_with fail
          refine (awake5_any _).mono ?_
          rintro _ y2 ⟨rfl, hb⟩
          have HX0' := Lib.hid (HX0.out.trans (hb.mono HX0.out.size))
          clear HX0
          have HX0 := HX0'
          clear HX0'
          have HA' := Lib.hid (HA.out.below hb)
          clear HA
          have HA := HA'
          clear HA'
          clear hb
          go_wp2_with fail
          go_ret
          exact ⟨rfl, HA.out.fr⟩
        have cF0 := HA.out.cell (.tail _ (.tail _ (.head _))) 0
        have cF1 := HA.out.cell (.tail _ (.tail _ (.head _))) 1
        have cF2 := HA.out.cell (.tail _ (.tail _ (.head _))) 2
        have cX0 := HA.out.cell (.head _) 0
        have cX1 := HA.out.cell (.head _) 1
        have cX2 := HA.out.cell (.head _) 2
        have cY0 := HA.out.cell (.tail _ (.head _)) 0
        have cY1 := HA.out.cell (.tail _ (.head _)) 1
        have cY2 := HA.out.cell (.tail _ (.head _)) 2
        go_wp2_with fail
        refine (HCX.out.1 _ HX0.out).mono ?_
        rintro _ y2 ⟨rfl, hb⟩
        have HX0' := Lib.hid (HX0.out.trans (hb.mono HX0.out.size))
        clear HX0
        have HX0 := HX0'
        clear HX0'
        have HA' := Lib.hid (HA.out.below hb)
        clear HA
        have HA := HA'
        clear HA'
        clear hb cF0 cF1 cF2 cX0 cX1 cX2 cY0 cY1 cY2
        cases rx
        · go_wp2_with fail
          refine (awake5_any _).mono ?_
          rintro _ y3 ⟨rfl, hb⟩
          have HX0' := Lib.hid (HX0.out.trans (hb.mono HX0.out.size))
          clear HX0
          have HX0 := HX0'
          clear HX0'
          have HA' := Lib.hid (HA.out.below hb)
          clear HA
          have HA := HA'
          clear HA'
          clear hb
          go_wp2_with fail
          go_ret
          exact ⟨rfl, HA.out.fr⟩
        have cF0 := HA.out.cell (.tail _ (.tail _ (.head _))) 0
        have cF1 := HA.out.cell (.tail _ (.tail _ (.head _))) 1
        have cF2 := HA.out.cell (.tail _ (.tail _ (.head _))) 2
        have cX0 := HA.out.cell (.head _) 0
        have cX1 := HA.out.cell (.head _) 1
        have cX2 := HA.out.cell (.head _) 2
        have cY0 := HA.out.cell (.tail _ (.head _)) 0
        have cY1 := HA.out.cell (.tail _ (.head _)) 1
        have cY2 := HA.out.cell (.tail _ (.head _)) 2
        go_wp2_with fail
        refine (HCY.out.1 _ HX0.out).mono ?_
        rintro _ y3 ⟨rfl, hb⟩
        have HX0' := Lib.hid (HX0.out.trans (hb.mono HX0.out.size))
        clear HX0
        have HX0 := HX0'
        clear HX0'
        have HA' := Lib.hid (HA.out.below hb)
        clear HA
        have HA := HA'
        clear HA'
        clear hb cF0 cF1 cF2 cX0 cX1 cX2 cY0 cY1 cY2
        cases ry
        · go_wp2_with fail
          refine (awake5_any _).mono ?_
          rintro _ y4 ⟨rfl, hb⟩
          have HX0' := Lib.hid (HX0.out.trans (hb.mono HX0.out.size))
          clear HX0
          have HX0 := HX0'
          clear HX0'
          have HA' := Lib.hid (HA.out.below hb)
          clear HA
          have HA := HA'
          clear HA'
          clear hb
          go_wp2_with fail
          go_ret
          exact ⟨rfl, HA.out.fr⟩
        have hlw := HLW.out (by simp) (by simp) (by simp)
        have hm8 := HM8.out (by simp)
        have kw : IntKind.i64.wrap ((mf : Int) + 1) = (mf : Int) + 1 := IntWalk.i64_in _ (by omega)
        have q1 : (mf : Int) ≤ (mx : Int) := by omega
        have q2 : (mx : Int) ≤ (mf : Int) + 1 := by omega
        have q3 : (mf : Int) ≤ (my : Int) := by omega
        clear hm8
        have cF0 := HA.out.cell (.tail _ (.tail _ (.head _))) 0
        have cF1 := HA.out.cell (.tail _ (.tail _ (.head _))) 1
        have cF2 := HA.out.cell (.tail _ (.tail _ (.head _))) 2
        have cX0 := HA.out.cell (.head _) 0
        have cX1 := HA.out.cell (.head _) 1
        have cX2 := HA.out.cell (.head _) 2
        have cY0 := HA.out.cell (.tail _ (.head _)) 0
        have cY1 := HA.out.cell (.tail _ (.head _)) 1
        have cY2 := HA.out.cell (.tail _ (.head _)) 2
        go_wp2_with fail
        refine (HFF.out (by simp) _ HA.out.fr).mono ?_
        rintro _ y4 ⟨z, rfl, hq, hb⟩
        have HX0' := Lib.hid (HX0.out.trans (hb.mono HX0.out.size))
        clear HX0
        have HX0 := HX0'
        clear HX0'
        have HA' := Lib.hid (HA.out.below hb)
        clear HA
        have HA := HA'
        clear HA'
        have HQ := Lib.hid hq
        clear hq
        clear hb cF0 cF1 cF2 cX0 cX1 cX2 cY0 cY1 cY2
        go_wp2_with fail
        refine (HMF.out (by simp) z _ HQ.out).mono ?_
        rintro _ y5 ⟨rfl, hb⟩
        have HX0' := Lib.hid (HX0.out.trans (hb.mono HX0.out.size))
        clear HX0
        have HX0 := HX0'
        clear HX0'
        have HA' := Lib.hid (HA.out.below hb)
        clear HA
        have HA := HA'
        clear HA'
        clear hb
        clear HQ
        have cF0 := HA.out.cell (.tail _ (.tail _ (.head _))) 0
        have cF1 := HA.out.cell (.tail _ (.tail _ (.head _))) 1
        have cF2 := HA.out.cell (.tail _ (.tail _ (.head _))) 2
        have cX0 := HA.out.cell (.head _) 0
        have cX1 := HA.out.cell (.head _) 1
        have cX2 := HA.out.cell (.head _) 2
        have cY0 := HA.out.cell (.tail _ (.head _)) 0
        have cY1 := HA.out.cell (.tail _ (.head _)) 1
        have cY2 := HA.out.cell (.tail _ (.head _)) 2
        go_wp2_with fail
        refine (HCX.out.2 (by simp) _ HX0.out).mono ?_
        rintro _ y6 ⟨z, rfl, hq, hb⟩
        have HX0' := Lib.hid (HX0.out.trans (hb.mono HX0.out.size))
        clear HX0
        have HX0 := HX0'
        clear HX0'
        have HA' := Lib.hid (HA.out.below hb)
        clear HA
        have HA := HA'
        clear HA'
        have HQ := Lib.hid hq
        clear hq
        clear hb cF0 cF1 cF2 cX0 cX1 cX2 cY0 cY1 cY2
        go_wp2_with fail
        refine (HMX.out (by simp) z _ HQ.out).mono ?_
        rintro _ y7 ⟨rfl, hb⟩
        have HX0' := Lib.hid (HX0.out.trans (hb.mono HX0.out.size))
        clear HX0
        have HX0 := HX0'
        clear HX0'
        have HA' := Lib.hid (HA.out.below hb)
        clear HA
        have HA := HA'
        clear HA'
        clear hb
        clear HQ
        have cF0 := HA.out.cell (.tail _ (.tail _ (.head _))) 0
        have cF1 := HA.out.cell (.tail _ (.tail _ (.head _))) 1
        have cF2 := HA.out.cell (.tail _ (.tail _ (.head _))) 2
        have cX0 := HA.out.cell (.head _) 0
        have cX1 := HA.out.cell (.head _) 1
        have cX2 := HA.out.cell (.head _) 2
        have cY0 := HA.out.cell (.tail _ (.head _)) 0
        have cY1 := HA.out.cell (.tail _ (.head _)) 1
        have cY2 := HA.out.cell (.tail _ (.head _)) 2
        go_wp2_with fail
        refine (HCY.out.2 (by simp) _ HX0.out).mono ?_
        rintro _ y8 ⟨z, rfl, hq, hb⟩
        have HX0' := Lib.hid (HX0.out.trans (hb.mono HX0.out.size))
        clear HX0
        have HX0 := HX0'
        clear HX0'
        have HA' := Lib.hid (HA.out.below hb)
        clear HA
        have HA := HA'
        clear HA'
        have HQ := Lib.hid hq
        clear hq
        clear hb cF0 cF1 cF2 cX0 cX1 cX2 cY0 cY1 cY2
        go_wp2_with fail
        refine (HMY.out (by simp) z _ HQ.out).mono ?_
        rintro _ y9 ⟨rfl, hb⟩
        have HX0' := Lib.hid (HX0.out.trans (hb.mono HX0.out.size))
        clear HX0
        have HX0 := HX0'
        clear HX0'
        have HA' := Lib.hid (HA.out.below hb)
        clear HA
        have HA := HA'
        clear HA'
        clear hb
        clear HQ
        go_wp2_with fail
        refine (awake5_any _).mono ?_
        rintro _ y10 ⟨rfl, hb⟩
        have HX0' := Lib.hid (HX0.out.trans (hb.mono HX0.out.size))
        clear HX0
        have HX0 := HX0'
        clear HX0'
        have HA' := Lib.hid (HA.out.below hb)
        clear HA
        have HA := HA'
        clear HA'
        clear hb
        go_wp2_with fail
        go_ret
        exact ⟨rfl, HA.out.fr⟩
set_option maxRecDepth 100000 in
set_option maxHeartbeats 64000000 in
theorem linkMore_new (x : FV) (f : Fl) (ee : En) (erv ecv env : Value) (ga gb : Int) (w : World) (h : FlQ QR w x f) (he : QR w erv ecv env ee) (hb1 : f.no * 104 ≤ reachBytes) (hb2 : f.nw * 104 ≤ reachBytes) (hb3 : f.nm * 16 ≤ reachBytes) :
    Calls Tryz.prog 11 #[.agg #[.slice x.oa f.no x.oc, .slice x.na f.nw x.nc, .slice x.ma f.nm x.mc], .agg #[.int .i64 ee.p.lo, .int .i64 ee.p.hi, erv, ecv, .int .i64 ee.sex, env, .int .i64 ee.pl], .agg #[.int .i64 ga, .int .i64 gb], .bool false] w fun e w' => e = .returned (.bool true) ∧ Below w.heap.size w w' := by
  obtain ⟨oa, oc, na, nc, ma, mc⟩ := x
  obtain ⟨i0, hi0, hz0, hz1, hz2⟩ := info_parts Tryz.infoREntry
  obtain ⟨j0, hj0, hj1, hj2, hj3⟩ := info_parts Tryz.infoRMv
  obtain ⟨VO, hO, sO⟩ := h.o.pick
  obtain ⟨VN, hN, sN⟩ := h.n.pick
  have HSO := Lib.hid (fun X (hb : Below w.heap.size w X) => sO.below (fun p v hv => below_cell hb p v hv))
  have HSN := Lib.hid (fun X (hb : Below w.heap.size w X) => sN.below (fun p v hv => below_cell hb p v hv))
  have sM := rs_src h.m
  have HSM := Lib.hid (fun X (hb : Below w.heap.size w X) => sM.below (fun p v hv => below_cell hb p v hv))
  have HUO := Lib.hid (eF_oneR hO)
  have HUN := Lib.hid (eF_oneR hN)
  have HUM := Lib.hid (mvL_oneC f.mf f.mt f.nm)
  have HBY : Hid (f.no * 104 ≤ 140737488351232 ∧ f.nw * 104 ≤ 140737488351232 ∧ f.nm * 16 ≤ 140737488351232) := ⟨hb1, hb2, hb3⟩
  have HU7 : Hid (∀ u ∈ [Value.int .i64 ee.p.lo, .int .i64 ee.p.hi, erv, ecv, .int .i64 ee.sex, env, .int .i64 ee.pl], u.oneCell' = true) := fun u hu => by
    obtain ⟨o1, o2, o3⟩ := he.one
    simp only [List.mem_cons, List.not_mem_nil, or_false] at hu
    rcases hu with rfl | rfl | rfl | rfl | rfl | rfl | rfl
    · rfl
    · rfl
    · exact o1
    · exact o2
    · rfl
    · exact o3
    · rfl
  have HQX : Hid (∀ W B1 va vc, Below w.heap.size w W → W.ownsRow B1 77 7 (.slice va (f.nw + 1) vc) (f.nw + 1) (eF f.N VN f.nw ++ [.int .i64 ee.p.lo, .int .i64 ee.p.hi, erv, ecv, .int .i64 ee.sex, env, .int .i64 ee.pl]) → ((∀ X, Below W.heap.size W X → Calls Tryz.prog 34 #[.agg #[.slice oa f.no oc, .slice va (f.nw + 1) vc, .slice ma f.nm mc]] X fun e w' => e = .returned (.bool (f.addN ee).rdy) ∧ Below X.heap.size X w') ∧ ((f.addN ee).rdy = true → ∀ X, Below W.heap.size W X → Calls Tryz.prog 21 #[.agg #[.slice oa f.no oc, .slice va (f.nw + 1) vc, .slice ma f.nm mc]] X fun e w' => ∃ z : FV, e = .returned (.agg #[.slice z.oa f.no z.oc, .slice z.na (f.nw + 1) z.nc, .slice z.ma f.nm z.mc]) ∧ FlQ QP w' z (f.addN ee) ∧ Below X.heap.size X w'))) := fun W B1 va vc hW how => by
    have how2 : W.ownsRow B1 77 7 (.slice va (f.nw + 1) vc) (f.nw + 1) (eF (addE f.N f.nw ee) (fun j => if j < f.nw then VN j else (erv, ecv, env)) (f.nw + 1)) := by rw [← eF_snoc]; exact how
    have hQ : ∀ j, j < f.nw + 1 → QR W ((fun j => if j < f.nw then VN j else (erv, ecv, env) : V3) j).1 ((fun j => if j < f.nw then VN j else (erv, ecv, env) : V3) j).2.1 ((fun j => if j < f.nw then VN j else (erv, ecv, env) : V3) j).2.2 (addE f.N f.nw ee j) := fun j hj => by
      unfold addE
      by_cases c : j < f.nw
      · simp only [if_pos c]; exact QR.k _ _ _ _ _ _ (hN j c) hW
      · simp only [if_neg c]; exact QR.k _ _ _ _ _ _ he hW
    have hq : FlQ QR W ⟨oa, oc, va, vc, ma, mc⟩ (f.addN ee) := ⟨(h.below QR.k hW).o, EsQ.own how2 hQ, (h.below QR.k hW).m⟩
    exact ⟨readyW ⟨oa, oc, va, vc, ma, mc⟩ (f.addN ee) W hq _ rfl, fun hr => fileW ⟨oa, oc, va, vc, ma, mc⟩ (f.addN ee) W hq (Fl.rdy_yes hr).1⟩
  have HQY : Hid (∀ W B2 vb vd, Below w.heap.size w W → W.ownsRow B2 63 2 (.slice vb (f.nm + 1) vd) (f.nm + 1) (mvL f.mf f.mt f.nm ++ [.int .i64 ga, .int .i64 gb]) → ((∀ X, Below W.heap.size W X → Calls Tryz.prog 34 #[.agg #[.slice oa f.no oc, .slice na f.nw nc, .slice vb (f.nm + 1) vd]] X fun e w' => e = .returned (.bool (f.addM ga gb).rdy) ∧ Below X.heap.size X w') ∧ ((f.addM ga gb).rdy = true → ∀ X, Below W.heap.size W X → Calls Tryz.prog 21 #[.agg #[.slice oa f.no oc, .slice na f.nw nc, .slice vb (f.nm + 1) vd]] X fun e w' => ∃ z : FV, e = .returned (.agg #[.slice z.oa f.no z.oc, .slice z.na f.nw z.nc, .slice z.ma (f.nm + 1) z.mc]) ∧ FlQ QP w' z (f.addM ga gb) ∧ Below X.heap.size X w'))) := fun W B2 vb vd hW how => by
    rw [mvL_one] at how
    have hq : FlQ QR W ⟨oa, oc, na, nc, vb, vd⟩ (f.addM ga gb) := ⟨(h.below QR.k hW).o, (h.below QR.k hW).n, mvL_own how⟩
    exact ⟨readyW ⟨oa, oc, na, nc, vb, vd⟩ (f.addM ga gb) W hq _ rfl, fun hr => fileW ⟨oa, oc, na, nc, vb, vd⟩ (f.addM ga gb) W hq (Fl.rdy_yes hr).1⟩
  have HRF := Lib.hid (readyW ⟨oa, oc, na, nc, ma, mc⟩ f w h f.rdy rfl)
  have HFF : Hid (f.rdy = true → ∀ X, Below w.heap.size w X → Calls Tryz.prog 21 #[.agg #[.slice oa f.no oc, .slice na f.nw nc, .slice ma f.nm mc]] X fun e w' => ∃ z : FV, e = .returned (.agg #[.slice z.oa f.no z.oc, .slice z.na f.nw z.nc, .slice z.ma f.nm z.mc]) ∧ FlQ QP w' z f ∧ Below X.heap.size X w') := fun hr => fileW ⟨oa, oc, na, nc, ma, mc⟩ f w h (Fl.rdy_yes hr).1
  have HMF : Hid ((f).rdy = true → ∀ (z : FV) X, FlQ QP X z (f) → Calls Tryz.prog 42 #[.agg #[.slice z.oa f.no z.oc, .slice z.na f.nw z.nc, .slice z.ma f.nm z.mc]] X fun e w' => e = .returned (.tuple #[.int .i64 ((f).most : Int), .int .i64 0]) ∧ Below X.heap.size X w') := fun hr z X hq => mostF_ok z f X hq (Fl.rdy_yes hr).2
  have HMX : Hid ((f.addN ee).rdy = true → ∀ (z : FV) X, FlQ QP X z (f.addN ee) → Calls Tryz.prog 42 #[.agg #[.slice z.oa f.no z.oc, .slice z.na (f.nw + 1) z.nc, .slice z.ma f.nm z.mc]] X fun e w' => e = .returned (.tuple #[.int .i64 ((f.addN ee).most : Int), .int .i64 0]) ∧ Below X.heap.size X w') := fun hr z X hq => mostF_ok z (f.addN ee) X hq (Fl.rdy_yes hr).2
  have HMY : Hid ((f.addM ga gb).rdy = true → ∀ (z : FV) X, FlQ QP X z (f.addM ga gb) → Calls Tryz.prog 42 #[.agg #[.slice z.oa f.no z.oc, .slice z.na f.nw z.nc, .slice z.ma (f.nm + 1) z.mc]] X fun e w' => e = .returned (.tuple #[.int .i64 ((f.addM ga gb).most : Int), .int .i64 0]) ∧ Below X.heap.size X w') := fun hr z X hq => mostF_ok z (f.addM ga gb) X hq (Fl.rdy_yes hr).2
  have HLW : Hid (f.rdy = true → (f.addN ee).rdy = true → (f.addM ga gb).rdy = true → f.most ≤ (f.addN ee).most ∧ (f.addN ee).most ≤ f.most + 1 ∧ f.most ≤ (f.addM ga gb).most) := fun h1 h2 h3 => by
    have o1 := Fl.ok (Fl.rdy_yes h1).2
    have o2 := Fl.ok (Fl.rdy_yes h2).2
    have o3 := Fl.ok (Fl.rdy_yes h3).2
    exact ⟨(addN_law o1 o2).1, (addN_law o1 o2).2, addM_law o1 o3⟩
  have HM8 : Hid (f.rdy = true → f.most ≤ 8) := fun h1 => by
    exact (Fl.ok (Fl.rdy_yes h1).2).most8
  clear h he hO sO hN sN sM hb1 hb2 hb3
  dsimp only at HRF HSO HSN HSM ⊢
  generalize (f.addM ga gb).rdy = ry at *
  generalize (f.addM ga gb).most = my at *
  generalize f.addM ga gb = fy at *
  generalize (f.addN ee).rdy = rx at *
  generalize (f.addN ee).most = mx at *
  generalize f.addN ee = fx at *
  generalize f.rdy = rf at *
  generalize f.most = mf at *
  generalize ee.p.lo = elo at *
  generalize ee.p.hi = ehi at *
  generalize ee.sex = esx at *
  generalize ee.pl = epl at *
  obtain ⟨xn2, hes⟩ : ∃ l, eF f.N VN f.nw ++ [.int .i64 elo, .int .i64 ehi, erv, ecv, .int .i64 esx, env, .int .i64 epl] = l := ⟨_, rfl⟩
  obtain ⟨xm2, hem⟩ : ∃ l, mvL f.mf f.mt f.nm ++ [.int .i64 ga, .int .i64 gb] = l := ⟨_, rfl⟩
  rw [hes] at HQX
  rw [hem] at HQY
  have HES := Lib.hid hes
  have HEM := Lib.hid hem
  clear hes hem
  generalize eF f.O VO f.no = xo at *
  generalize eF f.N VN f.nw = xn at *
  generalize mvL f.mf f.mt f.nm = xm at *
  generalize f.no = no at *
  generalize f.nw = nw at *
  generalize f.nm = nm at *
  have HA0 : Hid (BF w (((w.alloc (.cells #[.slice oa no oc, .slice na nw nc, .slice ma nm mc] 25)).alloc (.cells #[.int .i64 elo, .int .i64 ehi, erv, ecv, .int .i64 esx, env, .int .i64 epl] 77)).alloc (.cells #[.int .i64 ga, .int .i64 gb] 63)) [(w.heap.size, #[.slice oa no oc, .slice na nw nc, .slice ma nm mc], 25), (w.heap.size + 1, #[.int .i64 elo, .int .i64 ehi, erv, ecv, .int .i64 esx, env, .int .i64 epl], 77), (w.heap.size + 1 + 1, #[.int .i64 ga, .int .i64 gb], 63)]) := BF.made3 w _ _ _ _ _ _
  go_enter Tryz.func11, Tryz.ntmps11
  go_upto_region 1 with fail
  generalize (((w.alloc (.cells #[.slice oa no oc, .slice na nw nc, .slice ma nm mc] 25)).alloc (.cells #[.int .i64 elo, .int .i64 ehi, erv, ecv, .int .i64 esx, env, .int .i64 epl] 77)).alloc (.cells #[.int .i64 ga, .int .i64 gb] 63)) = w0 at *
  obtain ⟨MB, hMB⟩ : ∃ b, w.heap.size + 1 + 1 = b := ⟨_, rfl⟩
  rw [hMB] at HA0 ⊢
  obtain ⟨EB, hEB⟩ : ∃ b, w.heap.size + 1 = b := ⟨_, rfl⟩
  rw [hEB] at HA0 ⊢
  have HDI : Hid (w.heap.size ≠ EB ∧ w.heap.size ≠ MB ∧ EB ≠ MB) := ⟨by omega, by omega, by omega⟩
  clear hMB hEB
  have HAX := Lib.hid (HA0.out.below (Below.refl w0.heap.size _).drew)
  clear HA0
  go_cut [9, 10] (fun s9 s10 wc => ∃ XB YB, s9 = .pointer (some ⟨XB, 0, none⟩) ∧ s10 = .pointer (some ⟨YB, 0, none⟩) ∧ (XB ≠ YB ∧ w.heap.size ≠ XB ∧ w.heap.size ≠ YB ∧ EB ≠ XB ∧ EB ≠ YB ∧ MB ≠ XB ∧ MB ≠ YB) ∧ BF w wc [(XB, #[.slice oa no oc, .slice na nw nc, .slice ma nm mc], 25), (YB, #[.slice oa no oc, .slice na nw nc, .slice ma nm mc], 25), (w.heap.size, #[.slice oa no oc, .slice na nw nc, .slice ma nm mc], 25), (EB, #[.int .i64 elo, .int .i64 ehi, erv, ecv, .int .i64 esx, env, .int .i64 epl], 77), (MB, #[.int .i64 ga, .int .i64 gb], 63)])
  case first =>
    refine wp_region_Z (S := fun X => X.cell? ⟨w.heap.size, 0, none⟩ = some (.slice oa no oc) ∧ X.cell? ⟨w.heap.size, 1, none⟩ = some (.slice na nw nc) ∧ X.cell? ⟨w.heap.size, 2, none⟩ = some (.slice ma nm mc)) (by kernel_rfl) (⟨HAX.out.cell (.head _) 0, HAX.out.cell (.head _) 1, HAX.out.cell (.head _) 2⟩) (fun hS => ?_)
    generalize w0.drew = X at *
    refine tk [0, 1] ?_
    repeat (refine tkZ (oi := ⟨_, _, _, _, _, _⟩) (v := ?_) rfl (by kernel_rfl) (by rfl) (fun _ _ _ h => h) hS ?_ ?_; rotate_left; (· rintro W' ⟨z0, z1, z2⟩; go_simp; try with_reducible rfl); try simp only [Act.put, putA, putZ, putS])
    refine tk0 ?_
    refine wpAnyZ_next (rs := [2, 3]) (by kernel_rfl) (by simp) ?_
    refine NextZ.cons (o := ⟨some 9, _, _, _, _, _⟩) rfl (fun K hK => ?_) ?_
    ·
     go_simp
     have HA0 := Lib.hid (HAX.out.alloc #[.slice none 0 0, .slice none 0 0, .slice none 0 0] 25)
     have hn0F := (HAX.out.lt (.head _)).2
     have hn0E := (HAX.out.lt (.tail _ (.head _))).2
     have hn0M := (HAX.out.lt (.tail _ (.tail _ (.head _)))).2
     have hn0_ := HAX.out.fr.size
     refine hK.out _ _ (⟨HA0.out.cell (.tail _ (.head _)) 0, HA0.out.cell (.tail _ (.head _)) 1, HA0.out.cell (.tail _ (.head _)) 2⟩) (fun hS => ?_)
     clear hK K
     try simp only [Act.put, putA, putZ, putS]
     generalize X.heap.size = PX0 at *
     generalize (X.alloc (.cells #[.slice none 0 0, .slice none 0 0, .slice none 0 0] 25)) = X0 at *
     refine wpAnyZ_next (rs := [3]) (by kernel_rfl) (by simp) ?_
     refine NextZ.cons (o := ⟨some 10, _, _, _, _, _⟩) rfl (fun K hK => ?_) NextZ.nil
     go_simp
     have HA1 := Lib.hid (HA0.out.alloc #[.slice none 0 0, .slice none 0 0, .slice none 0 0] 25)
     have hn1PX := (HA0.out.lt (.head _)).2
     have hn1F := (HA0.out.lt (.tail _ (.head _))).2
     have hn1E := (HA0.out.lt (.tail _ (.tail _ (.head _)))).2
     have hn1M := (HA0.out.lt (.tail _ (.tail _ (.tail _ (.head _))))).2
     have hn1_ := HA0.out.fr.size
     refine hK.out _ _ (⟨HA1.out.cell (.tail _ (.tail _ (.head _))) 0, HA1.out.cell (.tail _ (.tail _ (.head _))) 1, HA1.out.cell (.tail _ (.tail _ (.head _))) 2⟩) (fun hS => ?_)
     clear hK K
     try simp only [Act.put, putA, putZ, putS]
     generalize X0.heap.size = PY1 at *
     generalize (X0.alloc (.cells #[.slice none 0 0, .slice none 0 0, .slice none 0 0] 25)) = X1 at *
     refine wpAnyZ_next (rs := [4]) (by kernel_rfl) (by simp) ?_
     refine NextZ.cons (o := ⟨none, _, _, _, _, _⟩) rfl (fun K hK => ?_) NextZ.nil
     refine step_store_row (by rfl) 25 (.tmp 9) (.tmp 17) (by rfl) PX0 #[.slice oa no oc, .slice na nw nc, .slice ma nm mc] (by rfl) (by rfl) 25 #[.slice none 0 0, .slice none 0 0, .slice none 0 0] (HA1.out.bk _ _ _ (.tail _ (.head _))).2 (by kernel_rfl) rfl (by simp [Value.oneCell']) ?_
     have HA2 := Lib.hid (HA1.out.setR (.tail _ (.head _)) #[.slice oa no oc, .slice na nw nc, .slice ma nm mc] (L' := [(PY1, #[.slice none 0 0, .slice none 0 0, .slice none 0 0], 25), (w.heap.size, #[.slice oa no oc, .slice na nw nc, .slice ma nm mc], 25), (EB, #[.int .i64 elo, .int .i64 ehi, erv, ecv, .int .i64 esx, env, .int .i64 epl], 77), (MB, #[.int .i64 ga, .int .i64 gb], 63)]) (List.forall_mem_cons.2 ⟨⟨show PY1 ≠ PX0 by omega, (.head _)⟩, List.forall_mem_cons.2 ⟨⟨show w.heap.size ≠ PX0 by omega, (.tail _ (.tail _ (.head _)))⟩, List.forall_mem_cons.2 ⟨⟨show EB ≠ PX0 by omega, (.tail _ (.tail _ (.tail _ (.head _))))⟩, List.forall_mem_cons.2 ⟨⟨show MB ≠ PX0 by omega, (.tail _ (.tail _ (.tail _ (.tail _ (.head _)))))⟩, List.forall_mem_nil _⟩⟩⟩⟩))
     refine hK.out _ _ (⟨HA2.out.cell (.tail _ (.tail _ (.head _))) 0, HA2.out.cell (.tail _ (.tail _ (.head _))) 1, HA2.out.cell (.tail _ (.tail _ (.head _))) 2⟩) (fun hS => ?_)
     clear hK K
     (try simp only [Act.put])
     refine wpAnyZ_next (rs := [5]) (by kernel_rfl) (by simp) ?_
     refine NextZ.last (o := ⟨none, _, _, _, _, _⟩) rfl (by kernel_rfl) (fun K hK => ?_)
     refine step_store_row (by rfl) 25 (.tmp 10) (.tmp 18) (by rfl) PY1 #[.slice oa no oc, .slice na nw nc, .slice ma nm mc] (by rfl) (by rfl) 25 #[.slice none 0 0, .slice none 0 0, .slice none 0 0] (HA2.out.bk _ _ _ (.tail _ (.head _))).2 (by kernel_rfl) rfl (by simp [Value.oneCell']) ?_
     have HA3 := Lib.hid (HA2.out.setR (.tail _ (.head _)) #[.slice oa no oc, .slice na nw nc, .slice ma nm mc] (L' := [(PX0, #[.slice oa no oc, .slice na nw nc, .slice ma nm mc], 25), (w.heap.size, #[.slice oa no oc, .slice na nw nc, .slice ma nm mc], 25), (EB, #[.int .i64 elo, .int .i64 ehi, erv, ecv, .int .i64 esx, env, .int .i64 epl], 77), (MB, #[.int .i64 ga, .int .i64 gb], 63)]) (List.forall_mem_cons.2 ⟨⟨show PX0 ≠ PY1 by omega, (.head _)⟩, List.forall_mem_cons.2 ⟨⟨show w.heap.size ≠ PY1 by omega, (.tail _ (.tail _ (.head _)))⟩, List.forall_mem_cons.2 ⟨⟨show EB ≠ PY1 by omega, (.tail _ (.tail _ (.tail _ (.head _))))⟩, List.forall_mem_cons.2 ⟨⟨show MB ≠ PY1 by omega, (.tail _ (.tail _ (.tail _ (.tail _ (.head _)))))⟩, List.forall_mem_nil _⟩⟩⟩⟩))
     refine hK.out _ _ ?_
     clear hK K
     (try simp only [Act.put])
     refine wpAnyZ_done (by kernel_rfl) ?_ _
     have HX2 := Lib.hid (HA3.out)
     go_wp2_with fail
     go_meet
     exact ⟨PX0, PY1, rfl, rfl, ⟨by omega, by omega, by omega, by omega, by omega, by omega, by omega⟩, HX2.out.sub (fun p hp => by
       simp only [List.mem_cons, List.not_mem_nil, or_false] at hp ⊢
       rcases hp with h | h | h | h | h <;> simp [h])⟩
    refine NextZ.cons (o := ⟨some 10, _, _, _, _, _⟩) rfl (fun K hK => ?_) NextZ.nil
    go_simp
    have HA4 := Lib.hid (HAX.out.alloc #[.slice none 0 0, .slice none 0 0, .slice none 0 0] 25)
    have hn4F := (HAX.out.lt (.head _)).2
    have hn4E := (HAX.out.lt (.tail _ (.head _))).2
    have hn4M := (HAX.out.lt (.tail _ (.tail _ (.head _)))).2
    have hn4_ := HAX.out.fr.size
    refine hK.out _ _ (⟨HA4.out.cell (.tail _ (.head _)) 0, HA4.out.cell (.tail _ (.head _)) 1, HA4.out.cell (.tail _ (.head _)) 2⟩) (fun hS => ?_)
    clear hK K
    try simp only [Act.put, putA, putZ, putS]
    generalize X.heap.size = PY4 at *
    generalize (X.alloc (.cells #[.slice none 0 0, .slice none 0 0, .slice none 0 0] 25)) = X4 at *
    refine wpAnyZ_next (rs := [2]) (by kernel_rfl) (by simp) ?_
    refine NextZ.cons (o := ⟨some 9, _, _, _, _, _⟩) rfl (fun K hK => ?_) NextZ.nil
    go_simp
    have HA5 := Lib.hid (HA4.out.alloc #[.slice none 0 0, .slice none 0 0, .slice none 0 0] 25)
    have hn5PY := (HA4.out.lt (.head _)).2
    have hn5F := (HA4.out.lt (.tail _ (.head _))).2
    have hn5E := (HA4.out.lt (.tail _ (.tail _ (.head _)))).2
    have hn5M := (HA4.out.lt (.tail _ (.tail _ (.tail _ (.head _))))).2
    have hn5_ := HA4.out.fr.size
    refine hK.out _ _ (⟨HA5.out.cell (.tail _ (.tail _ (.head _))) 0, HA5.out.cell (.tail _ (.tail _ (.head _))) 1, HA5.out.cell (.tail _ (.tail _ (.head _))) 2⟩) (fun hS => ?_)
    clear hK K
    try simp only [Act.put, putA, putZ, putS]
    generalize X4.heap.size = PX5 at *
    generalize (X4.alloc (.cells #[.slice none 0 0, .slice none 0 0, .slice none 0 0] 25)) = X5 at *
    refine wpAnyZ_next (rs := [4]) (by kernel_rfl) (by simp) ?_
    refine NextZ.cons (o := ⟨none, _, _, _, _, _⟩) rfl (fun K hK => ?_) NextZ.nil
    refine step_store_row (by rfl) 25 (.tmp 9) (.tmp 17) (by rfl) PX5 #[.slice oa no oc, .slice na nw nc, .slice ma nm mc] (by rfl) (by rfl) 25 #[.slice none 0 0, .slice none 0 0, .slice none 0 0] (HA5.out.bk _ _ _ (.head _)).2 (by kernel_rfl) rfl (by simp [Value.oneCell']) ?_
    have HA6 := Lib.hid (HA5.out.setR (.head _) #[.slice oa no oc, .slice na nw nc, .slice ma nm mc] (L' := [(PY4, #[.slice none 0 0, .slice none 0 0, .slice none 0 0], 25), (w.heap.size, #[.slice oa no oc, .slice na nw nc, .slice ma nm mc], 25), (EB, #[.int .i64 elo, .int .i64 ehi, erv, ecv, .int .i64 esx, env, .int .i64 epl], 77), (MB, #[.int .i64 ga, .int .i64 gb], 63)]) (List.forall_mem_cons.2 ⟨⟨show PY4 ≠ PX5 by omega, (.tail _ (.head _))⟩, List.forall_mem_cons.2 ⟨⟨show w.heap.size ≠ PX5 by omega, (.tail _ (.tail _ (.head _)))⟩, List.forall_mem_cons.2 ⟨⟨show EB ≠ PX5 by omega, (.tail _ (.tail _ (.tail _ (.head _))))⟩, List.forall_mem_cons.2 ⟨⟨show MB ≠ PX5 by omega, (.tail _ (.tail _ (.tail _ (.tail _ (.head _)))))⟩, List.forall_mem_nil _⟩⟩⟩⟩))
    refine hK.out _ _ (⟨HA6.out.cell (.tail _ (.tail _ (.head _))) 0, HA6.out.cell (.tail _ (.tail _ (.head _))) 1, HA6.out.cell (.tail _ (.tail _ (.head _))) 2⟩) (fun hS => ?_)
    clear hK K
    (try simp only [Act.put])
    refine wpAnyZ_next (rs := [5]) (by kernel_rfl) (by simp) ?_
    refine NextZ.last (o := ⟨none, _, _, _, _, _⟩) rfl (by kernel_rfl) (fun K hK => ?_)
    refine step_store_row (by rfl) 25 (.tmp 10) (.tmp 18) (by rfl) PY4 #[.slice oa no oc, .slice na nw nc, .slice ma nm mc] (by rfl) (by rfl) 25 #[.slice none 0 0, .slice none 0 0, .slice none 0 0] (HA6.out.bk _ _ _ (.tail _ (.head _))).2 (by kernel_rfl) rfl (by simp [Value.oneCell']) ?_
    have HA7 := Lib.hid (HA6.out.setR (.tail _ (.head _)) #[.slice oa no oc, .slice na nw nc, .slice ma nm mc] (L' := [(PX5, #[.slice oa no oc, .slice na nw nc, .slice ma nm mc], 25), (w.heap.size, #[.slice oa no oc, .slice na nw nc, .slice ma nm mc], 25), (EB, #[.int .i64 elo, .int .i64 ehi, erv, ecv, .int .i64 esx, env, .int .i64 epl], 77), (MB, #[.int .i64 ga, .int .i64 gb], 63)]) (List.forall_mem_cons.2 ⟨⟨show PX5 ≠ PY4 by omega, (.head _)⟩, List.forall_mem_cons.2 ⟨⟨show w.heap.size ≠ PY4 by omega, (.tail _ (.tail _ (.head _)))⟩, List.forall_mem_cons.2 ⟨⟨show EB ≠ PY4 by omega, (.tail _ (.tail _ (.tail _ (.head _))))⟩, List.forall_mem_cons.2 ⟨⟨show MB ≠ PY4 by omega, (.tail _ (.tail _ (.tail _ (.tail _ (.head _)))))⟩, List.forall_mem_nil _⟩⟩⟩⟩))
    refine hK.out _ _ ?_
    clear hK K
    (try simp only [Act.put])
    refine wpAnyZ_done (by kernel_rfl) ?_ _
    have HX2 := Lib.hid (HA7.out)
    go_wp2_with fail
    go_meet
    exact ⟨PX5, PY4, rfl, rfl, ⟨by omega, by omega, by omega, by omega, by omega, by omega, by omega⟩, HX2.out.sub (fun p hp => by
      simp only [List.mem_cons, List.not_mem_nil, or_false] at hp ⊢
      rcases hp with h | h | h | h | h <;> simp [h])⟩
  case rest =>
    rename World => wc
    obtain ⟨XB, YB, rfl, rfl, hxy, hbf⟩ := hcut
    have HA1 := Lib.hid hbf
    have HXY := Lib.hid hxy
    clear hbf hxy HAX
    go_upto_if 19 with fail
    go_cut [] (fun wd => ∃ va vc, BF w wd [(XB, #[.slice oa no oc, .slice va (nw + 1) vc, .slice ma nm mc], 25), (YB, #[.slice oa no oc, .slice na nw nc, .slice ma nm mc], 25), (w.heap.size, #[.slice oa no oc, .slice na nw nc, .slice ma nm mc], 25), (EB, #[.int .i64 elo, .int .i64 ehi, erv, ecv, .int .i64 esx, env, .int .i64 epl], 77), (MB, #[.int .i64 ga, .int .i64 gb], 63)] ∧ wd.ownsRow wc.heap.size 77 7 (.slice va (nw + 1) vc) (nw + 1) xn2)
    case first =>
      go_upto_region 4 with fail
      have HAX := Lib.hid (HA1.out.below (Below.refl wc.heap.size _).drew)
      have HYX : Hid (Below wc.heap.size wc wc.drew) := (Below.refl _ _).drew
      have l1 := (HA1.out.lt (.head _)).2
      have l2 := (HA1.out.lt (.tail _ (.head _))).2
      have l3 := (HA1.out.lt (.tail _ (.tail _ (.head _)))).2
      have l4 := (HA1.out.lt (.tail _ (.tail _ (.tail _ (.head _))))).2
      have l5 := (HA1.out.lt (.tail _ (.tail _ (.tail _ (.tail _ (.head _)))))).2
      have HBL : Hid (XB < wc.heap.size ∧ YB < wc.heap.size ∧ w.heap.size < wc.heap.size ∧ EB < wc.heap.size ∧ MB < wc.heap.size ∧ XB ≠ YB ∧ w.heap.size ≠ XB ∧ w.heap.size ≠ YB ∧ EB ≠ XB ∧ EB ≠ YB ∧ MB ≠ XB ∧ MB ≠ YB) := by
        exact ⟨l1, l2, l3, l4, l5, HXY.out⟩
      clear l1 l2 l3 l4 l5 HA1
      refine wp_region_Z (S := fun X => X.cell? ⟨w.heap.size, 0, none⟩ = some (.slice oa no oc) ∧ X.cell? ⟨w.heap.size, 1, none⟩ = some (.slice na nw nc) ∧ X.cell? ⟨w.heap.size, 2, none⟩ = some (.slice ma nm mc) ∧ X.cell? ⟨EB, 0, none⟩ = some (.int .i64 elo) ∧ X.cell? ⟨EB, 1, none⟩ = some (.int .i64 ehi) ∧ X.cell? ⟨EB, 2, none⟩ = some (erv) ∧ X.cell? ⟨EB, 3, none⟩ = some (ecv) ∧ X.cell? ⟨EB, 4, none⟩ = some (.int .i64 esx) ∧ X.cell? ⟨EB, 5, none⟩ = some (env) ∧ X.cell? ⟨EB, 6, none⟩ = some (.int .i64 epl)) (by kernel_rfl) (⟨HAX.out.cell (.tail _ (.tail _ (.head _))) 0, HAX.out.cell (.tail _ (.tail _ (.head _))) 1, HAX.out.cell (.tail _ (.tail _ (.head _))) 2, HAX.out.cell (.tail _ (.tail _ (.tail _ (.head _)))) 0, HAX.out.cell (.tail _ (.tail _ (.tail _ (.head _)))) 1, HAX.out.cell (.tail _ (.tail _ (.tail _ (.head _)))) 2, HAX.out.cell (.tail _ (.tail _ (.tail _ (.head _)))) 3, HAX.out.cell (.tail _ (.tail _ (.tail _ (.head _)))) 4, HAX.out.cell (.tail _ (.tail _ (.tail _ (.head _)))) 5, HAX.out.cell (.tail _ (.tail _ (.tail _ (.head _)))) 6⟩) (fun hS => ?_)
      generalize wc.drew = X at *
      refine tk [1, 2, 4] ?_
      repeat (refine tkZ (oi := ⟨_, _, _, _, _, _⟩) (v := ?_) rfl (by kernel_rfl) (by rfl) (fun _ _ _ h => h) hS ?_ ?_; rotate_left; (· rintro W' ⟨z0, z1, z2, z3, z4, z5, z6, z7, z8, z9⟩; go_simp; try with_reducible rfl); try simp only [Act.put, putA, putZ, putS])
      refine tk0 ?_
      refine wpAnyZ_next (rs := [0, 5]) (by kernel_rfl) (by simp) ?_
      refine NextZ.cons (o := ⟨some 28, _, _, _, _, _⟩) rfl (fun K hK => ?_) ?_
      ·
       go_simp
       have hzz0 := HYX.out.size
       have HOE0 := Lib.hid (own_empty X 77 7 wc.heap.size hzz0)
       have HAQ0 := Lib.hid (HAX.out.alloc #[] 77)
       have HY0 := Lib.hid (below_step HYX.out (below_alloc X (.cells #[] 77)))
       have HA0 : Hid (BF w (X.alloc (.cells #[] 77)) [(XB, #[.slice oa no oc, .slice na nw nc, .slice ma nm mc], 25), (YB, #[.slice oa no oc, .slice na nw nc, .slice ma nm mc], 25), (w.heap.size, #[.slice oa no oc, .slice na nw nc, .slice ma nm mc], 25), (EB, #[.int .i64 elo, .int .i64 ehi, erv, ecv, .int .i64 esx, env, .int .i64 epl], 77), (MB, #[.int .i64 ga, .int .i64 gb], 63)]) := HAQ0.out.sub (fun p hp => .tail _ hp)
       clear HAQ0
       refine hK.out _ _ (⟨HA0.out.cell (.tail _ (.tail _ (.head _))) 0, HA0.out.cell (.tail _ (.tail _ (.head _))) 1, HA0.out.cell (.tail _ (.tail _ (.head _))) 2, HA0.out.cell (.tail _ (.tail _ (.tail _ (.head _)))) 0, HA0.out.cell (.tail _ (.tail _ (.tail _ (.head _)))) 1, HA0.out.cell (.tail _ (.tail _ (.tail _ (.head _)))) 2, HA0.out.cell (.tail _ (.tail _ (.tail _ (.head _)))) 3, HA0.out.cell (.tail _ (.tail _ (.tail _ (.head _)))) 4, HA0.out.cell (.tail _ (.tail _ (.tail _ (.head _)))) 5, HA0.out.cell (.tail _ (.tail _ (.tail _ (.head _)))) 6⟩) (fun hS => ?_)
       clear hK K
       try simp only [Act.put, putA, putZ, putS]
       generalize X.heap.size = BE at *
       generalize X.alloc (.cells #[] 77) = X0 at *
       have HO0 := HOE0
       clear HOE0
       refine wpAnyZ_next (rs := [3, 5]) (by kernel_rfl) (by simp) ?_
       refine NextZ.cons (o := ⟨some 31, _, _, _, _, _⟩) rfl (fun K hK => ?_) ?_
       ·
        refine step_append_src X0 (by rfl) (.tmp 28) (.tmp 30) 22 (by rfl) wc.heap.size 77 i0 (.agg #[.int .i64 0, .int .i64 0, .slice none 0 0, .slice none 0 0, .int .i64 0, .slice none 0 0, .int .i64 0]) 7 104 Tryz.underlying22 hi0 hz0 hz1 hz2 rfl (by decide) (.slice (some ⟨BE, 0, none⟩) 0 0) 0 [] (by rfl) HO0.out na nw nc xn (by rfl) (HSN.out _ HA0.out.fr) HUN.out ?c1 ?c2 ?c3 ?_
        case c1 => have := HBY.out; unfold maxLen; omega
        case c2 => have := HBY.out; omega
        case c3 => exact HY0.out.size
        intro v1 X1 hown hgr hat
        have HO1 := Lib.hid (own_cast hown (Nat.zero_add _) (List.nil_append _))
        have HA1 := Lib.hid (HA0.out.fro (Fr.grown hgr) (fun q hq e => by have h1 := own_low HO0.out e; have := HBL.out; omega) (fun p hp e => by
          simp only [List.mem_cons, List.not_mem_nil, or_false] at hp
          rcases hp with rfl | rfl | rfl | rfl | rfl
          · have h1 : wc.heap.size ≤ XB := own_low HO0.out e
            have := HBL.out
            omega
          · have h1 : wc.heap.size ≤ YB := own_low HO0.out e
            have := HBL.out
            omega
          · have h1 : wc.heap.size ≤ w.heap.size := own_low HO0.out e
            have := HBL.out
            omega
          · have h1 : wc.heap.size ≤ EB := own_low HO0.out e
            have := HBL.out
            omega
          · have h1 : wc.heap.size ≤ MB := own_low HO0.out e
            have := HBL.out
            omega))
        have HY1 : Hid (Below wc.heap.size wc X1) := HY0.out.trans ((Fr.grown hgr).low HY0.out.size (fun q hq e => by have h1 := own_low HO0.out e; omega))
        clear hown hgr hat
        refine hK.out _ _ (⟨HA1.out.cell (.tail _ (.tail _ (.head _))) 0, HA1.out.cell (.tail _ (.tail _ (.head _))) 1, HA1.out.cell (.tail _ (.tail _ (.head _))) 2, HA1.out.cell (.tail _ (.tail _ (.tail _ (.head _)))) 0, HA1.out.cell (.tail _ (.tail _ (.tail _ (.head _)))) 1, HA1.out.cell (.tail _ (.tail _ (.tail _ (.head _)))) 2, HA1.out.cell (.tail _ (.tail _ (.tail _ (.head _)))) 3, HA1.out.cell (.tail _ (.tail _ (.tail _ (.head _)))) 4, HA1.out.cell (.tail _ (.tail _ (.tail _ (.head _)))) 5, HA1.out.cell (.tail _ (.tail _ (.tail _ (.head _)))) 6⟩) (fun hS => ?_)
        clear hK K
        try simp only [Act.put, putA, putZ, putS]
        obtain ⟨v1a, v1c, rfl⟩ := own_slice' HO1.out
        refine wpAnyZ_next (rs := [5]) (by kernel_rfl) (by simp) ?_
        refine NextZ.cons (o := ⟨some 33, _, _, _, _, _⟩) rfl (fun K hK => ?_) NextZ.nil
        go_simp
        have HA2 := Lib.hid (HA1.out.alloc #[.int .i64 elo, .int .i64 ehi, erv, ecv, .int .i64 esx, env, .int .i64 epl] 77)
        have hnX := (HA1.out.lt (.head _)).2
        have hnY := (HA1.out.lt (.tail _ (.head _))).2
        have hnF := (HA1.out.lt (.tail _ (.tail _ (.head _)))).2
        have hnE := (HA1.out.lt (.tail _ (.tail _ (.tail _ (.head _))))).2
        have hnM := (HA1.out.lt (.tail _ (.tail _ (.tail _ (.tail _ (.head _)))))).2
        have HO2 := Lib.hid (own_below HO1.out (below_alloc X1 (.cells #[.int .i64 elo, .int .i64 ehi, erv, ecv, .int .i64 esx, env, .int .i64 epl] 77)))
        have HY2 := Lib.hid (below_step HY1.out (below_alloc X1 (.cells #[.int .i64 elo, .int .i64 ehi, erv, ecv, .int .i64 esx, env, .int .i64 epl] 77)))
        refine hK.out _ _ (⟨HA2.out.cell (.tail _ (.tail _ (.tail _ (.head _)))) 0, HA2.out.cell (.tail _ (.tail _ (.tail _ (.head _)))) 1, HA2.out.cell (.tail _ (.tail _ (.tail _ (.head _)))) 2, HA2.out.cell (.tail _ (.tail _ (.tail _ (.tail _ (.head _))))) 0, HA2.out.cell (.tail _ (.tail _ (.tail _ (.tail _ (.head _))))) 1, HA2.out.cell (.tail _ (.tail _ (.tail _ (.tail _ (.head _))))) 2, HA2.out.cell (.tail _ (.tail _ (.tail _ (.tail _ (.head _))))) 3, HA2.out.cell (.tail _ (.tail _ (.tail _ (.tail _ (.head _))))) 4, HA2.out.cell (.tail _ (.tail _ (.tail _ (.tail _ (.head _))))) 5, HA2.out.cell (.tail _ (.tail _ (.tail _ (.tail _ (.head _))))) 6⟩) (fun hS => ?_)
        clear hK K
        try simp only [Act.put, putA, putZ, putS]
        generalize X1.heap.size = NB at *
        generalize X1.alloc (.cells #[.int .i64 elo, .int .i64 ehi, erv, ecv, .int .i64 esx, env, .int .i64 epl] 77) = X2 at *
        refine wpAnyZ_next (rs := [6]) (by kernel_rfl) (by simp) ?_
        refine NextZ.cons (o := ⟨some 34, _, _, _, _, _⟩) rfl (fun K hK => ?_) NextZ.nil
        refine step_append_src X2 (by rfl) (.tmp 31) (.tmp 33) 22 (by rfl) wc.heap.size 77 i0 (.agg #[.int .i64 0, .int .i64 0, .slice none 0 0, .slice none 0 0, .int .i64 0, .slice none 0 0, .int .i64 0]) 7 104 Tryz.underlying22 hi0 hz0 hz1 hz2 rfl (by decide) (.slice v1a nw v1c) nw xn (by rfl) HO2.out (some ⟨NB, 0, none⟩) 1 1 [.int .i64 elo, .int .i64 ehi, erv, ecv, .int .i64 esx, env, .int .i64 epl] (by rfl) ⟨rfl, fun q u hu => ⟨_, rfl, World.news_of_block ((HA2.out.bk _ _ _ (.head _)).2) q u hu⟩⟩ HU7.out ?c1 ?c2 ?c3 ?_
        case c1 => have := HBY.out; unfold maxLen; omega
        case c2 => have := HBY.out; omega
        case c3 => exact HY2.out.size
        intro v3 X3 hown hgr hat
        have HO3 : Hid (X3.ownsRow wc.heap.size 77 7 v3 (nw + 1) xn2) := by rw [← HES.out]; exact hown
        have HA3 := Lib.hid ((HA2.out.sub (L' := [(XB, #[.slice oa no oc, .slice na nw nc, .slice ma nm mc], 25), (YB, #[.slice oa no oc, .slice na nw nc, .slice ma nm mc], 25), (w.heap.size, #[.slice oa no oc, .slice na nw nc, .slice ma nm mc], 25), (EB, #[.int .i64 elo, .int .i64 ehi, erv, ecv, .int .i64 esx, env, .int .i64 epl], 77), (MB, #[.int .i64 ga, .int .i64 gb], 63)]) (fun p hp => by simp only [List.mem_cons, List.not_mem_nil, or_false] at hp ⊢; rcases hp with h | h | h | h | h <;> simp [h])).fro (Fr.grown hgr) (fun q hq e => by have h1 := own_low HO2.out e; have := HBL.out; omega) (fun p hp e => by
          simp only [List.mem_cons, List.not_mem_nil, or_false] at hp
          rcases hp with rfl | rfl | rfl | rfl | rfl
          · have h1 : wc.heap.size ≤ XB := own_low HO2.out e
            have := HBL.out
            omega
          · have h1 : wc.heap.size ≤ YB := own_low HO2.out e
            have := HBL.out
            omega
          · have h1 : wc.heap.size ≤ w.heap.size := own_low HO2.out e
            have := HBL.out
            omega
          · have h1 : wc.heap.size ≤ EB := own_low HO2.out e
            have := HBL.out
            omega
          · have h1 : wc.heap.size ≤ MB := own_low HO2.out e
            have := HBL.out
            omega))
        have HY3 : Hid (Below wc.heap.size wc X3) := HY2.out.trans ((Fr.grown hgr).low HY2.out.size (fun q hq e => by have h1 := own_low HO2.out e; omega))
        clear hown hgr hat
        refine hK.out _ _ (⟨HA3.out.cell (.tail _ (.tail _ (.head _))) 0, HA3.out.cell (.tail _ (.tail _ (.head _))) 1, HA3.out.cell (.tail _ (.tail _ (.head _))) 2, HA3.out.cell (.tail _ (.tail _ (.tail _ (.head _)))) 0, HA3.out.cell (.tail _ (.tail _ (.tail _ (.head _)))) 1, HA3.out.cell (.tail _ (.tail _ (.tail _ (.head _)))) 2, HA3.out.cell (.tail _ (.tail _ (.tail _ (.head _)))) 3, HA3.out.cell (.tail _ (.tail _ (.tail _ (.head _)))) 4, HA3.out.cell (.tail _ (.tail _ (.tail _ (.head _)))) 5, HA3.out.cell (.tail _ (.tail _ (.tail _ (.head _)))) 6⟩) (fun hS => ?_)
        clear hK K
        try simp only [Act.put, putA, putZ, putS]
        obtain ⟨v3a, v3c, rfl⟩ := own_slice' HO3.out
        refine tZ 7 (oi := ⟨_, _, _, _, _, _⟩) (v := ?_) rfl (by kernel_rfl) (by rfl) (fun _ _ _ h => h) hS ?_ ?_
        rotate_left
        · rintro W' ⟨z0, z1, z2, z3, z4, z5, z6, z7, z8, z9⟩; go_simp; try with_reducible rfl
        try simp only [Act.put, putA, putZ, putS]
        refine wpAnyZ_next (rs := [8]) (by kernel_rfl) (by simp) ?_
        refine NextZ.last (o := ⟨none, _, _, _, _, _⟩) rfl (by kernel_rfl) (fun K hK => ?_)
        have e0 := HA3.out.cell (.head _) 1
        have f0 := HA3.out.thaw (.head _) 1
        have hbl := HBL.out
        have HA4 := Lib.hid (BF.set1 (i := 1) (cs' := #[.slice oa no oc, .slice v3a (nw + 1) v3c, .slice ma nm mc]) HA3.out (.head _) (.slice v3a (nw + 1) v3c) (by simp) rfl (L' := [(YB, #[.slice oa no oc, .slice na nw nc, .slice ma nm mc], 25), (w.heap.size, #[.slice oa no oc, .slice na nw nc, .slice ma nm mc], 25), (EB, #[.int .i64 elo, .int .i64 ehi, erv, ecv, .int .i64 esx, env, .int .i64 epl], 77), (MB, #[.int .i64 ga, .int .i64 gb], 63)]) (List.forall_mem_cons.2 ⟨⟨show YB ≠ XB by omega, (.tail _ (.head _))⟩, List.forall_mem_cons.2 ⟨⟨show w.heap.size ≠ XB by omega, (.tail _ (.tail _ (.head _)))⟩, List.forall_mem_cons.2 ⟨⟨show EB ≠ XB by omega, (.tail _ (.tail _ (.tail _ (.head _))))⟩, List.forall_mem_cons.2 ⟨⟨show MB ≠ XB by omega, (.tail _ (.tail _ (.tail _ (.tail _ (.head _)))))⟩, List.forall_mem_nil _⟩⟩⟩⟩))
        have HO4 := Lib.hid (own_fr HO3.out (Fr.set X3 XB 1 (.slice v3a (nw + 1) v3c)) (fun g cur e1 e2 _ e3 => by omega))
        go_simp
        refine hK.out _ _ ?_
        clear hK K
        (try simp only [Act.put])
        clear e0 f0
        refine wpAnyZ_done (by kernel_rfl) ?_ _
        have HX2 := Lib.hid (HA4.out)
        go_wp2_with fail
        go_meet
        exact ⟨v3a, v3c, HX2.out.sub (fun p hp => by
          simp only [List.mem_cons, List.not_mem_nil, or_false] at hp ⊢
          rcases hp with h | h | h | h | h <;> simp [h]), HO4.out⟩
       refine NextZ.cons (o := ⟨some 33, _, _, _, _, _⟩) rfl (fun K hK => ?_) NextZ.nil
       go_simp
       have HA5 := Lib.hid (HA0.out.alloc #[.int .i64 elo, .int .i64 ehi, erv, ecv, .int .i64 esx, env, .int .i64 epl] 77)
       have hnX := (HA0.out.lt (.head _)).2
       have hnY := (HA0.out.lt (.tail _ (.head _))).2
       have hnF := (HA0.out.lt (.tail _ (.tail _ (.head _)))).2
       have hnE := (HA0.out.lt (.tail _ (.tail _ (.tail _ (.head _))))).2
       have hnM := (HA0.out.lt (.tail _ (.tail _ (.tail _ (.tail _ (.head _)))))).2
       have hne5 : BE < X0.heap.size := own_lt HO0.out rfl
       have HO5 := Lib.hid (own_below HO0.out (below_alloc X0 (.cells #[.int .i64 elo, .int .i64 ehi, erv, ecv, .int .i64 esx, env, .int .i64 epl] 77)))
       have HY5 := Lib.hid (below_step HY0.out (below_alloc X0 (.cells #[.int .i64 elo, .int .i64 ehi, erv, ecv, .int .i64 esx, env, .int .i64 epl] 77)))
       refine hK.out _ _ (⟨HA5.out.cell (.tail _ (.tail _ (.tail _ (.head _)))) 0, HA5.out.cell (.tail _ (.tail _ (.tail _ (.head _)))) 1, HA5.out.cell (.tail _ (.tail _ (.tail _ (.head _)))) 2, HA5.out.cell (.tail _ (.tail _ (.tail _ (.tail _ (.head _))))) 0, HA5.out.cell (.tail _ (.tail _ (.tail _ (.tail _ (.head _))))) 1, HA5.out.cell (.tail _ (.tail _ (.tail _ (.tail _ (.head _))))) 2, HA5.out.cell (.tail _ (.tail _ (.tail _ (.tail _ (.head _))))) 3, HA5.out.cell (.tail _ (.tail _ (.tail _ (.tail _ (.head _))))) 4, HA5.out.cell (.tail _ (.tail _ (.tail _ (.tail _ (.head _))))) 5, HA5.out.cell (.tail _ (.tail _ (.tail _ (.tail _ (.head _))))) 6⟩) (fun hS => ?_)
       clear hK K
       try simp only [Act.put, putA, putZ, putS]
       generalize X0.heap.size = NB at *
       generalize X0.alloc (.cells #[.int .i64 elo, .int .i64 ehi, erv, ecv, .int .i64 esx, env, .int .i64 epl] 77) = X5 at *
       refine wpAnyZ_next (rs := [3]) (by kernel_rfl) (by simp) ?_
       refine NextZ.cons (o := ⟨some 31, _, _, _, _, _⟩) rfl (fun K hK => ?_) NextZ.nil
       refine step_append_src X5 (by rfl) (.tmp 28) (.tmp 30) 22 (by rfl) wc.heap.size 77 i0 (.agg #[.int .i64 0, .int .i64 0, .slice none 0 0, .slice none 0 0, .int .i64 0, .slice none 0 0, .int .i64 0]) 7 104 Tryz.underlying22 hi0 hz0 hz1 hz2 rfl (by decide) (.slice (some ⟨BE, 0, none⟩) 0 0) 0 [] (by rfl) HO5.out na nw nc xn (by rfl) (HSN.out _ HA5.out.fr) HUN.out ?c1 ?c2 ?c3 ?_
       case c1 => have := HBY.out; unfold maxLen; omega
       case c2 => have := HBY.out; omega
       case c3 => exact HY5.out.size
       intro v6 X6 hown hgr hat
       have HO6 := Lib.hid (own_cast hown (Nat.zero_add _) (List.nil_append _))
       have HA6 := Lib.hid (HA5.out.fro (Fr.grown hgr) (fun q hq e => by have h1 := own_low HO5.out e; have := HBL.out; omega) (fun p hp e => by
         simp only [List.mem_cons, List.not_mem_nil, or_false] at hp
         rcases hp with rfl | rfl | rfl | rfl | rfl | rfl
         · have e2 : some BE = some NB := e
           injection e2 with e3
           have := hne5
           omega
         · have h1 : wc.heap.size ≤ XB := own_low HO5.out e
           have := HBL.out
           omega
         · have h1 : wc.heap.size ≤ YB := own_low HO5.out e
           have := HBL.out
           omega
         · have h1 : wc.heap.size ≤ w.heap.size := own_low HO5.out e
           have := HBL.out
           omega
         · have h1 : wc.heap.size ≤ EB := own_low HO5.out e
           have := HBL.out
           omega
         · have h1 : wc.heap.size ≤ MB := own_low HO5.out e
           have := HBL.out
           omega))
       have HY6 : Hid (Below wc.heap.size wc X6) := HY5.out.trans ((Fr.grown hgr).low HY5.out.size (fun q hq e => by have h1 := own_low HO5.out e; omega))
       clear hown hgr hat
       refine hK.out _ _ (⟨HA6.out.cell (.tail _ (.tail _ (.tail _ (.head _)))) 0, HA6.out.cell (.tail _ (.tail _ (.tail _ (.head _)))) 1, HA6.out.cell (.tail _ (.tail _ (.tail _ (.head _)))) 2, HA6.out.cell (.tail _ (.tail _ (.tail _ (.tail _ (.head _))))) 0, HA6.out.cell (.tail _ (.tail _ (.tail _ (.tail _ (.head _))))) 1, HA6.out.cell (.tail _ (.tail _ (.tail _ (.tail _ (.head _))))) 2, HA6.out.cell (.tail _ (.tail _ (.tail _ (.tail _ (.head _))))) 3, HA6.out.cell (.tail _ (.tail _ (.tail _ (.tail _ (.head _))))) 4, HA6.out.cell (.tail _ (.tail _ (.tail _ (.tail _ (.head _))))) 5, HA6.out.cell (.tail _ (.tail _ (.tail _ (.tail _ (.head _))))) 6⟩) (fun hS => ?_)
       clear hK K
       try simp only [Act.put, putA, putZ, putS]
       obtain ⟨v6a, v6c, rfl⟩ := own_slice' HO6.out
       refine wpAnyZ_next (rs := [6]) (by kernel_rfl) (by simp) ?_
       refine NextZ.cons (o := ⟨some 34, _, _, _, _, _⟩) rfl (fun K hK => ?_) NextZ.nil
       refine step_append_src X6 (by rfl) (.tmp 31) (.tmp 33) 22 (by rfl) wc.heap.size 77 i0 (.agg #[.int .i64 0, .int .i64 0, .slice none 0 0, .slice none 0 0, .int .i64 0, .slice none 0 0, .int .i64 0]) 7 104 Tryz.underlying22 hi0 hz0 hz1 hz2 rfl (by decide) (.slice v6a nw v6c) nw xn (by rfl) HO6.out (some ⟨NB, 0, none⟩) 1 1 [.int .i64 elo, .int .i64 ehi, erv, ecv, .int .i64 esx, env, .int .i64 epl] (by rfl) ⟨rfl, fun q u hu => ⟨_, rfl, World.news_of_block ((HA6.out.bk _ _ _ (.head _)).2) q u hu⟩⟩ HU7.out ?c1 ?c2 ?c3 ?_
       case c1 => have := HBY.out; unfold maxLen; omega
       case c2 => have := HBY.out; omega
       case c3 => exact HY6.out.size
       intro v7 X7 hown hgr hat
       have HO7 : Hid (X7.ownsRow wc.heap.size 77 7 v7 (nw + 1) xn2) := by rw [← HES.out]; exact hown
       have HA7 := Lib.hid ((HA6.out.sub (L' := [(XB, #[.slice oa no oc, .slice na nw nc, .slice ma nm mc], 25), (YB, #[.slice oa no oc, .slice na nw nc, .slice ma nm mc], 25), (w.heap.size, #[.slice oa no oc, .slice na nw nc, .slice ma nm mc], 25), (EB, #[.int .i64 elo, .int .i64 ehi, erv, ecv, .int .i64 esx, env, .int .i64 epl], 77), (MB, #[.int .i64 ga, .int .i64 gb], 63)]) (fun p hp => by simp only [List.mem_cons, List.not_mem_nil, or_false] at hp ⊢; rcases hp with h | h | h | h | h <;> simp [h])).fro (Fr.grown hgr) (fun q hq e => by have h1 := own_low HO6.out e; have := HBL.out; omega) (fun p hp e => by
         simp only [List.mem_cons, List.not_mem_nil, or_false] at hp
         rcases hp with rfl | rfl | rfl | rfl | rfl
         · have h1 : wc.heap.size ≤ XB := own_low HO6.out e
           have := HBL.out
           omega
         · have h1 : wc.heap.size ≤ YB := own_low HO6.out e
           have := HBL.out
           omega
         · have h1 : wc.heap.size ≤ w.heap.size := own_low HO6.out e
           have := HBL.out
           omega
         · have h1 : wc.heap.size ≤ EB := own_low HO6.out e
           have := HBL.out
           omega
         · have h1 : wc.heap.size ≤ MB := own_low HO6.out e
           have := HBL.out
           omega))
       have HY7 : Hid (Below wc.heap.size wc X7) := HY6.out.trans ((Fr.grown hgr).low HY6.out.size (fun q hq e => by have h1 := own_low HO6.out e; omega))
       clear hown hgr hat
       refine hK.out _ _ (⟨HA7.out.cell (.tail _ (.tail _ (.head _))) 0, HA7.out.cell (.tail _ (.tail _ (.head _))) 1, HA7.out.cell (.tail _ (.tail _ (.head _))) 2, HA7.out.cell (.tail _ (.tail _ (.tail _ (.head _)))) 0, HA7.out.cell (.tail _ (.tail _ (.tail _ (.head _)))) 1, HA7.out.cell (.tail _ (.tail _ (.tail _ (.head _)))) 2, HA7.out.cell (.tail _ (.tail _ (.tail _ (.head _)))) 3, HA7.out.cell (.tail _ (.tail _ (.tail _ (.head _)))) 4, HA7.out.cell (.tail _ (.tail _ (.tail _ (.head _)))) 5, HA7.out.cell (.tail _ (.tail _ (.tail _ (.head _)))) 6⟩) (fun hS => ?_)
       clear hK K
       try simp only [Act.put, putA, putZ, putS]
       obtain ⟨v7a, v7c, rfl⟩ := own_slice' HO7.out
       refine tZ 7 (oi := ⟨_, _, _, _, _, _⟩) (v := ?_) rfl (by kernel_rfl) (by rfl) (fun _ _ _ h => h) hS ?_ ?_
       rotate_left
       · rintro W' ⟨z0, z1, z2, z3, z4, z5, z6, z7, z8, z9⟩; go_simp; try with_reducible rfl
       try simp only [Act.put, putA, putZ, putS]
       refine wpAnyZ_next (rs := [8]) (by kernel_rfl) (by simp) ?_
       refine NextZ.last (o := ⟨none, _, _, _, _, _⟩) rfl (by kernel_rfl) (fun K hK => ?_)
       have e0 := HA7.out.cell (.head _) 1
       have f0 := HA7.out.thaw (.head _) 1
       have hbl := HBL.out
       have HA8 := Lib.hid (BF.set1 (i := 1) (cs' := #[.slice oa no oc, .slice v7a (nw + 1) v7c, .slice ma nm mc]) HA7.out (.head _) (.slice v7a (nw + 1) v7c) (by simp) rfl (L' := [(YB, #[.slice oa no oc, .slice na nw nc, .slice ma nm mc], 25), (w.heap.size, #[.slice oa no oc, .slice na nw nc, .slice ma nm mc], 25), (EB, #[.int .i64 elo, .int .i64 ehi, erv, ecv, .int .i64 esx, env, .int .i64 epl], 77), (MB, #[.int .i64 ga, .int .i64 gb], 63)]) (List.forall_mem_cons.2 ⟨⟨show YB ≠ XB by omega, (.tail _ (.head _))⟩, List.forall_mem_cons.2 ⟨⟨show w.heap.size ≠ XB by omega, (.tail _ (.tail _ (.head _)))⟩, List.forall_mem_cons.2 ⟨⟨show EB ≠ XB by omega, (.tail _ (.tail _ (.tail _ (.head _))))⟩, List.forall_mem_cons.2 ⟨⟨show MB ≠ XB by omega, (.tail _ (.tail _ (.tail _ (.tail _ (.head _)))))⟩, List.forall_mem_nil _⟩⟩⟩⟩))
       have HO8 := Lib.hid (own_fr HO7.out (Fr.set X7 XB 1 (.slice v7a (nw + 1) v7c)) (fun g cur e1 e2 _ e3 => by omega))
       go_simp
       refine hK.out _ _ ?_
       clear hK K
       (try simp only [Act.put])
       clear e0 f0
       refine wpAnyZ_done (by kernel_rfl) ?_ _
       have HX2 := Lib.hid (HA8.out)
       go_wp2_with fail
       go_meet
       exact ⟨v7a, v7c, HX2.out.sub (fun p hp => by
         simp only [List.mem_cons, List.not_mem_nil, or_false] at hp ⊢
         rcases hp with h | h | h | h | h <;> simp [h]), HO8.out⟩
      refine NextZ.cons (o := ⟨some 33, _, _, _, _, _⟩) rfl (fun K hK => ?_) NextZ.nil
      go_simp
      have HA9 := Lib.hid (HAX.out.alloc #[.int .i64 elo, .int .i64 ehi, erv, ecv, .int .i64 esx, env, .int .i64 epl] 77)
      have hnX := (HAX.out.lt (.head _)).2
      have hnY := (HAX.out.lt (.tail _ (.head _))).2
      have hnF := (HAX.out.lt (.tail _ (.tail _ (.head _)))).2
      have hnE := (HAX.out.lt (.tail _ (.tail _ (.tail _ (.head _))))).2
      have hnM := (HAX.out.lt (.tail _ (.tail _ (.tail _ (.tail _ (.head _)))))).2
      have HY9 := Lib.hid (below_step HYX.out (below_alloc X (.cells #[.int .i64 elo, .int .i64 ehi, erv, ecv, .int .i64 esx, env, .int .i64 epl] 77)))
      refine hK.out _ _ (⟨HA9.out.cell (.tail _ (.tail _ (.tail _ (.head _)))) 0, HA9.out.cell (.tail _ (.tail _ (.tail _ (.head _)))) 1, HA9.out.cell (.tail _ (.tail _ (.tail _ (.head _)))) 2, HA9.out.cell (.tail _ (.tail _ (.tail _ (.tail _ (.head _))))) 0, HA9.out.cell (.tail _ (.tail _ (.tail _ (.tail _ (.head _))))) 1, HA9.out.cell (.tail _ (.tail _ (.tail _ (.tail _ (.head _))))) 2, HA9.out.cell (.tail _ (.tail _ (.tail _ (.tail _ (.head _))))) 3, HA9.out.cell (.tail _ (.tail _ (.tail _ (.tail _ (.head _))))) 4, HA9.out.cell (.tail _ (.tail _ (.tail _ (.tail _ (.head _))))) 5, HA9.out.cell (.tail _ (.tail _ (.tail _ (.tail _ (.head _))))) 6⟩) (fun hS => ?_)
      clear hK K
      try simp only [Act.put, putA, putZ, putS]
      generalize X.heap.size = NB at *
      generalize X.alloc (.cells #[.int .i64 elo, .int .i64 ehi, erv, ecv, .int .i64 esx, env, .int .i64 epl] 77) = X9 at *
      refine wpAnyZ_next (rs := [0]) (by kernel_rfl) (by simp) ?_
      refine NextZ.cons (o := ⟨some 28, _, _, _, _, _⟩) rfl (fun K hK => ?_) NextZ.nil
      go_simp
      have hzz10 := HY9.out.size
      have HOE10 := Lib.hid (own_empty X9 77 7 wc.heap.size hzz10)
      have HAQ10 := Lib.hid (HA9.out.alloc #[] 77)
      have hne10 := (HA9.out.lt (.head _)).2
      have HY10 := Lib.hid (below_step HY9.out (below_alloc X9 (.cells #[] 77)))
      have HA10 : Hid (BF w (X9.alloc (.cells #[] 77)) [(NB, #[.int .i64 elo, .int .i64 ehi, erv, ecv, .int .i64 esx, env, .int .i64 epl], 77), (XB, #[.slice oa no oc, .slice na nw nc, .slice ma nm mc], 25), (YB, #[.slice oa no oc, .slice na nw nc, .slice ma nm mc], 25), (w.heap.size, #[.slice oa no oc, .slice na nw nc, .slice ma nm mc], 25), (EB, #[.int .i64 elo, .int .i64 ehi, erv, ecv, .int .i64 esx, env, .int .i64 epl], 77), (MB, #[.int .i64 ga, .int .i64 gb], 63)]) := HAQ10.out.sub (fun p hp => .tail _ hp)
      clear HAQ10
      refine hK.out _ _ (⟨HA10.out.cell (.tail _ (.tail _ (.tail _ (.head _)))) 0, HA10.out.cell (.tail _ (.tail _ (.tail _ (.head _)))) 1, HA10.out.cell (.tail _ (.tail _ (.tail _ (.head _)))) 2, HA10.out.cell (.tail _ (.tail _ (.tail _ (.tail _ (.head _))))) 0, HA10.out.cell (.tail _ (.tail _ (.tail _ (.tail _ (.head _))))) 1, HA10.out.cell (.tail _ (.tail _ (.tail _ (.tail _ (.head _))))) 2, HA10.out.cell (.tail _ (.tail _ (.tail _ (.tail _ (.head _))))) 3, HA10.out.cell (.tail _ (.tail _ (.tail _ (.tail _ (.head _))))) 4, HA10.out.cell (.tail _ (.tail _ (.tail _ (.tail _ (.head _))))) 5, HA10.out.cell (.tail _ (.tail _ (.tail _ (.tail _ (.head _))))) 6⟩) (fun hS => ?_)
      clear hK K
      try simp only [Act.put, putA, putZ, putS]
      generalize X9.heap.size = BE at *
      generalize X9.alloc (.cells #[] 77) = X10 at *
      have HO10 := HOE10
      clear HOE10
      refine wpAnyZ_next (rs := [3]) (by kernel_rfl) (by simp) ?_
      refine NextZ.cons (o := ⟨some 31, _, _, _, _, _⟩) rfl (fun K hK => ?_) NextZ.nil
      refine step_append_src X10 (by rfl) (.tmp 28) (.tmp 30) 22 (by rfl) wc.heap.size 77 i0 (.agg #[.int .i64 0, .int .i64 0, .slice none 0 0, .slice none 0 0, .int .i64 0, .slice none 0 0, .int .i64 0]) 7 104 Tryz.underlying22 hi0 hz0 hz1 hz2 rfl (by decide) (.slice (some ⟨BE, 0, none⟩) 0 0) 0 [] (by rfl) HO10.out na nw nc xn (by rfl) (HSN.out _ HA10.out.fr) HUN.out ?c1 ?c2 ?c3 ?_
      case c1 => have := HBY.out; unfold maxLen; omega
      case c2 => have := HBY.out; omega
      case c3 => exact HY10.out.size
      intro v11 X11 hown hgr hat
      have HO11 := Lib.hid (own_cast hown (Nat.zero_add _) (List.nil_append _))
      have HA11 := Lib.hid (HA10.out.fro (Fr.grown hgr) (fun q hq e => by have h1 := own_low HO10.out e; have := HBL.out; omega) (fun p hp e => by
        simp only [List.mem_cons, List.not_mem_nil, or_false] at hp
        rcases hp with rfl | rfl | rfl | rfl | rfl | rfl
        · have e2 : some BE = some NB := e
          injection e2 with e3
          have := hne10
          omega
        · have h1 : wc.heap.size ≤ XB := own_low HO10.out e
          have := HBL.out
          omega
        · have h1 : wc.heap.size ≤ YB := own_low HO10.out e
          have := HBL.out
          omega
        · have h1 : wc.heap.size ≤ w.heap.size := own_low HO10.out e
          have := HBL.out
          omega
        · have h1 : wc.heap.size ≤ EB := own_low HO10.out e
          have := HBL.out
          omega
        · have h1 : wc.heap.size ≤ MB := own_low HO10.out e
          have := HBL.out
          omega))
      have HY11 : Hid (Below wc.heap.size wc X11) := HY10.out.trans ((Fr.grown hgr).low HY10.out.size (fun q hq e => by have h1 := own_low HO10.out e; omega))
      clear hown hgr hat
      refine hK.out _ _ (⟨HA11.out.cell (.tail _ (.tail _ (.tail _ (.head _)))) 0, HA11.out.cell (.tail _ (.tail _ (.tail _ (.head _)))) 1, HA11.out.cell (.tail _ (.tail _ (.tail _ (.head _)))) 2, HA11.out.cell (.tail _ (.tail _ (.tail _ (.tail _ (.head _))))) 0, HA11.out.cell (.tail _ (.tail _ (.tail _ (.tail _ (.head _))))) 1, HA11.out.cell (.tail _ (.tail _ (.tail _ (.tail _ (.head _))))) 2, HA11.out.cell (.tail _ (.tail _ (.tail _ (.tail _ (.head _))))) 3, HA11.out.cell (.tail _ (.tail _ (.tail _ (.tail _ (.head _))))) 4, HA11.out.cell (.tail _ (.tail _ (.tail _ (.tail _ (.head _))))) 5, HA11.out.cell (.tail _ (.tail _ (.tail _ (.tail _ (.head _))))) 6⟩) (fun hS => ?_)
      clear hK K
      try simp only [Act.put, putA, putZ, putS]
      obtain ⟨v11a, v11c, rfl⟩ := own_slice' HO11.out
      refine wpAnyZ_next (rs := [6]) (by kernel_rfl) (by simp) ?_
      refine NextZ.cons (o := ⟨some 34, _, _, _, _, _⟩) rfl (fun K hK => ?_) NextZ.nil
      refine step_append_src X11 (by rfl) (.tmp 31) (.tmp 33) 22 (by rfl) wc.heap.size 77 i0 (.agg #[.int .i64 0, .int .i64 0, .slice none 0 0, .slice none 0 0, .int .i64 0, .slice none 0 0, .int .i64 0]) 7 104 Tryz.underlying22 hi0 hz0 hz1 hz2 rfl (by decide) (.slice v11a nw v11c) nw xn (by rfl) HO11.out (some ⟨NB, 0, none⟩) 1 1 [.int .i64 elo, .int .i64 ehi, erv, ecv, .int .i64 esx, env, .int .i64 epl] (by rfl) ⟨rfl, fun q u hu => ⟨_, rfl, World.news_of_block ((HA11.out.bk _ _ _ (.head _)).2) q u hu⟩⟩ HU7.out ?c1 ?c2 ?c3 ?_
      case c1 => have := HBY.out; unfold maxLen; omega
      case c2 => have := HBY.out; omega
      case c3 => exact HY11.out.size
      intro v12 X12 hown hgr hat
      have HO12 : Hid (X12.ownsRow wc.heap.size 77 7 v12 (nw + 1) xn2) := by rw [← HES.out]; exact hown
      have HA12 := Lib.hid ((HA11.out.sub (L' := [(XB, #[.slice oa no oc, .slice na nw nc, .slice ma nm mc], 25), (YB, #[.slice oa no oc, .slice na nw nc, .slice ma nm mc], 25), (w.heap.size, #[.slice oa no oc, .slice na nw nc, .slice ma nm mc], 25), (EB, #[.int .i64 elo, .int .i64 ehi, erv, ecv, .int .i64 esx, env, .int .i64 epl], 77), (MB, #[.int .i64 ga, .int .i64 gb], 63)]) (fun p hp => by simp only [List.mem_cons, List.not_mem_nil, or_false] at hp ⊢; rcases hp with h | h | h | h | h <;> simp [h])).fro (Fr.grown hgr) (fun q hq e => by have h1 := own_low HO11.out e; have := HBL.out; omega) (fun p hp e => by
        simp only [List.mem_cons, List.not_mem_nil, or_false] at hp
        rcases hp with rfl | rfl | rfl | rfl | rfl
        · have h1 : wc.heap.size ≤ XB := own_low HO11.out e
          have := HBL.out
          omega
        · have h1 : wc.heap.size ≤ YB := own_low HO11.out e
          have := HBL.out
          omega
        · have h1 : wc.heap.size ≤ w.heap.size := own_low HO11.out e
          have := HBL.out
          omega
        · have h1 : wc.heap.size ≤ EB := own_low HO11.out e
          have := HBL.out
          omega
        · have h1 : wc.heap.size ≤ MB := own_low HO11.out e
          have := HBL.out
          omega))
      have HY12 : Hid (Below wc.heap.size wc X12) := HY11.out.trans ((Fr.grown hgr).low HY11.out.size (fun q hq e => by have h1 := own_low HO11.out e; omega))
      clear hown hgr hat
      refine hK.out _ _ (⟨HA12.out.cell (.tail _ (.tail _ (.head _))) 0, HA12.out.cell (.tail _ (.tail _ (.head _))) 1, HA12.out.cell (.tail _ (.tail _ (.head _))) 2, HA12.out.cell (.tail _ (.tail _ (.tail _ (.head _)))) 0, HA12.out.cell (.tail _ (.tail _ (.tail _ (.head _)))) 1, HA12.out.cell (.tail _ (.tail _ (.tail _ (.head _)))) 2, HA12.out.cell (.tail _ (.tail _ (.tail _ (.head _)))) 3, HA12.out.cell (.tail _ (.tail _ (.tail _ (.head _)))) 4, HA12.out.cell (.tail _ (.tail _ (.tail _ (.head _)))) 5, HA12.out.cell (.tail _ (.tail _ (.tail _ (.head _)))) 6⟩) (fun hS => ?_)
      clear hK K
      try simp only [Act.put, putA, putZ, putS]
      obtain ⟨v12a, v12c, rfl⟩ := own_slice' HO12.out
      refine tZ 7 (oi := ⟨_, _, _, _, _, _⟩) (v := ?_) rfl (by kernel_rfl) (by rfl) (fun _ _ _ h => h) hS ?_ ?_
      rotate_left
      · rintro W' ⟨z0, z1, z2, z3, z4, z5, z6, z7, z8, z9⟩; go_simp; try with_reducible rfl
      try simp only [Act.put, putA, putZ, putS]
      refine wpAnyZ_next (rs := [8]) (by kernel_rfl) (by simp) ?_
      refine NextZ.last (o := ⟨none, _, _, _, _, _⟩) rfl (by kernel_rfl) (fun K hK => ?_)
      have e0 := HA12.out.cell (.head _) 1
      have f0 := HA12.out.thaw (.head _) 1
      have hbl := HBL.out
      have HA13 := Lib.hid (BF.set1 (i := 1) (cs' := #[.slice oa no oc, .slice v12a (nw + 1) v12c, .slice ma nm mc]) HA12.out (.head _) (.slice v12a (nw + 1) v12c) (by simp) rfl (L' := [(YB, #[.slice oa no oc, .slice na nw nc, .slice ma nm mc], 25), (w.heap.size, #[.slice oa no oc, .slice na nw nc, .slice ma nm mc], 25), (EB, #[.int .i64 elo, .int .i64 ehi, erv, ecv, .int .i64 esx, env, .int .i64 epl], 77), (MB, #[.int .i64 ga, .int .i64 gb], 63)]) (List.forall_mem_cons.2 ⟨⟨show YB ≠ XB by omega, (.tail _ (.head _))⟩, List.forall_mem_cons.2 ⟨⟨show w.heap.size ≠ XB by omega, (.tail _ (.tail _ (.head _)))⟩, List.forall_mem_cons.2 ⟨⟨show EB ≠ XB by omega, (.tail _ (.tail _ (.tail _ (.head _))))⟩, List.forall_mem_cons.2 ⟨⟨show MB ≠ XB by omega, (.tail _ (.tail _ (.tail _ (.tail _ (.head _)))))⟩, List.forall_mem_nil _⟩⟩⟩⟩))
      have HO13 := Lib.hid (own_fr HO12.out (Fr.set X12 XB 1 (.slice v12a (nw + 1) v12c)) (fun g cur e1 e2 _ e3 => by omega))
      go_simp
      refine hK.out _ _ ?_
      clear hK K
      (try simp only [Act.put])
      clear e0 f0
      refine wpAnyZ_done (by kernel_rfl) ?_ _
      have HX2 := Lib.hid (HA13.out)
      go_wp2_with fail
      go_meet
      exact ⟨v12a, v12c, HX2.out.sub (fun p hp => by
        simp only [List.mem_cons, List.not_mem_nil, or_false] at hp ⊢
        rcases hp with h | h | h | h | h <;> simp [h]), HO13.out⟩
    case rest =>
      rename World => wd
      obtain ⟨va, vc, hbf, hrow⟩ := hcut
      have HA2 := Lib.hid hbf
      have HRW := Lib.hid hrow
      have k1 := (HA1.out.lt (.head _)).2
      have k2 := (HA1.out.lt (.tail _ (.head _))).2
      have HRB : Hid (XB < wc.heap.size ∧ YB < wc.heap.size) := ⟨k1, k2⟩
      clear hbf hrow HA1 k1 k2
      have HRL : Hid (∀ g, (.slice va (nw + 1) vc : Value).ownBlock = some g → g < wd.heap.size) := fun g e => own_lt HRW.out e
      go_upto_region 5 with fail
      have HAX := Lib.hid (HA2.out.below (Below.refl wd.heap.size _).drew)
      have HYX : Hid (Below wd.heap.size wd wd.drew) := (Below.refl _ _).drew
      have HRX := Lib.hid (own_below HRW.out (Below.refl wd.heap.size _).drew)
      go_cut [] (fun we => ∃ vb vd, BF w we [(XB, #[.slice oa no oc, .slice va (nw + 1) vc, .slice ma nm mc], 25), (YB, #[.slice oa no oc, .slice na nw nc, .slice vb (nm + 1) vd], 25), (w.heap.size, #[.slice oa no oc, .slice na nw nc, .slice ma nm mc], 25), (EB, #[.int .i64 elo, .int .i64 ehi, erv, ecv, .int .i64 esx, env, .int .i64 epl], 77), (MB, #[.int .i64 ga, .int .i64 gb], 63)] ∧ we.ownsRow wd.heap.size 63 2 (.slice vb (nm + 1) vd) (nm + 1) xm2 ∧ we.ownsRow wc.heap.size 77 7 (.slice va (nw + 1) vc) (nw + 1) xn2)
      case first =>
        have l1 := (HA2.out.lt (.head _)).2
        have l2 := (HA2.out.lt (.tail _ (.head _))).2
        have l3 := (HA2.out.lt (.tail _ (.tail _ (.head _)))).2
        have l4 := (HA2.out.lt (.tail _ (.tail _ (.tail _ (.head _))))).2
        have l5 := (HA2.out.lt (.tail _ (.tail _ (.tail _ (.tail _ (.head _)))))).2
        have HBL : Hid (XB < wd.heap.size ∧ YB < wd.heap.size ∧ w.heap.size < wd.heap.size ∧ EB < wd.heap.size ∧ MB < wd.heap.size ∧ XB ≠ YB ∧ w.heap.size ≠ XB ∧ w.heap.size ≠ YB ∧ EB ≠ XB ∧ EB ≠ YB ∧ MB ≠ XB ∧ MB ≠ YB) := by
          exact ⟨l1, l2, l3, l4, l5, HXY.out⟩
        clear l1 l2 l3 l4 l5 HA2 HRW
        refine wp_region_Z (S := fun X => X.cell? ⟨w.heap.size, 0, none⟩ = some (.slice oa no oc) ∧ X.cell? ⟨w.heap.size, 1, none⟩ = some (.slice na nw nc) ∧ X.cell? ⟨w.heap.size, 2, none⟩ = some (.slice ma nm mc) ∧ X.cell? ⟨MB, 0, none⟩ = some (.int .i64 ga) ∧ X.cell? ⟨MB, 1, none⟩ = some (.int .i64 gb)) (by kernel_rfl) (⟨HAX.out.cell (.tail _ (.tail _ (.head _))) 0, HAX.out.cell (.tail _ (.tail _ (.head _))) 1, HAX.out.cell (.tail _ (.tail _ (.head _))) 2, HAX.out.cell (.tail _ (.tail _ (.tail _ (.tail _ (.head _))))) 0, HAX.out.cell (.tail _ (.tail _ (.tail _ (.tail _ (.head _))))) 1⟩) (fun hS => ?_)
        generalize wd.drew = X at *
        refine tk [1, 2, 4] ?_
        repeat (refine tkZ (oi := ⟨_, _, _, _, _, _⟩) (v := ?_) rfl (by kernel_rfl) (by rfl) (fun _ _ _ h => h) hS ?_ ?_; rotate_left; (· rintro W' ⟨z0, z1, z2, z3, z4⟩; go_simp; try with_reducible rfl); try simp only [Act.put, putA, putZ, putS])
        refine tk0 ?_
        refine wpAnyZ_next (rs := [0, 5]) (by kernel_rfl) (by simp) ?_
        refine NextZ.cons (o := ⟨some 36, _, _, _, _, _⟩) rfl (fun K hK => ?_) ?_
        ·
         go_simp
         have hzz0 := HYX.out.size
         have HOE0 := Lib.hid (own_empty X 63 2 wd.heap.size hzz0)
         have HAQ0 := Lib.hid (HAX.out.alloc #[] 63)
         have HRW0 := Lib.hid (own_below HRX.out (below_alloc X (.cells #[] 63)))
         have HY0 := Lib.hid (below_step HYX.out (below_alloc X (.cells #[] 63)))
         have HA0 : Hid (BF w (X.alloc (.cells #[] 63)) [(XB, #[.slice oa no oc, .slice va (nw + 1) vc, .slice ma nm mc], 25), (YB, #[.slice oa no oc, .slice na nw nc, .slice ma nm mc], 25), (w.heap.size, #[.slice oa no oc, .slice na nw nc, .slice ma nm mc], 25), (EB, #[.int .i64 elo, .int .i64 ehi, erv, ecv, .int .i64 esx, env, .int .i64 epl], 77), (MB, #[.int .i64 ga, .int .i64 gb], 63)]) := HAQ0.out.sub (fun p hp => .tail _ hp)
         clear HAQ0
         refine hK.out _ _ (⟨HA0.out.cell (.tail _ (.tail _ (.head _))) 0, HA0.out.cell (.tail _ (.tail _ (.head _))) 1, HA0.out.cell (.tail _ (.tail _ (.head _))) 2, HA0.out.cell (.tail _ (.tail _ (.tail _ (.tail _ (.head _))))) 0, HA0.out.cell (.tail _ (.tail _ (.tail _ (.tail _ (.head _))))) 1⟩) (fun hS => ?_)
         clear hK K
         try simp only [Act.put, putA, putZ, putS]
         generalize X.heap.size = BE at *
         generalize X.alloc (.cells #[] 63) = X0 at *
         have HO0 := HOE0
         clear HOE0
         refine wpAnyZ_next (rs := [3, 5]) (by kernel_rfl) (by simp) ?_
         refine NextZ.cons (o := ⟨some 39, _, _, _, _, _⟩) rfl (fun K hK => ?_) ?_
         ·
          refine step_append_src X0 (by rfl) (.tmp 36) (.tmp 38) 23 (by rfl) wd.heap.size 63 j0 (.agg #[.int .i64 0, .int .i64 0]) 2 16 Tryz.underlying23 hj0 hj1 hj2 hj3 rfl (by decide) (.slice (some ⟨BE, 0, none⟩) 0 0) 0 [] (by rfl) HO0.out ma nm mc xm (by rfl) (HSM.out _ HA0.out.fr) HUM.out ?c1 ?c2 ?c3 ?_
          case c1 => have := HBY.out; unfold maxLen; omega
          case c2 => have := HBY.out; omega
          case c3 => exact HY0.out.size
          intro v1 X1 hown hgr hat
          have HO1 := Lib.hid (own_cast hown (Nat.zero_add _) (List.nil_append _))
          have HA1 := Lib.hid (HA0.out.fro (Fr.grown hgr) (fun q hq e => by have h1 := own_low HO0.out e; have := HBL.out; omega) (fun p hp e => by
            simp only [List.mem_cons, List.not_mem_nil, or_false] at hp
            rcases hp with rfl | rfl | rfl | rfl | rfl
            · have h1 : wd.heap.size ≤ XB := own_low HO0.out e
              have := HBL.out
              omega
            · have h1 : wd.heap.size ≤ YB := own_low HO0.out e
              have := HBL.out
              omega
            · have h1 : wd.heap.size ≤ w.heap.size := own_low HO0.out e
              have := HBL.out
              omega
            · have h1 : wd.heap.size ≤ EB := own_low HO0.out e
              have := HBL.out
              omega
            · have h1 : wd.heap.size ≤ MB := own_low HO0.out e
              have := HBL.out
              omega))
          have HY1 : Hid (Below wd.heap.size wd X1) := HY0.out.trans ((Fr.grown hgr).low HY0.out.size (fun q hq e => by have h1 := own_low HO0.out e; omega))
          have HRW1 := Lib.hid (own_fr HRW0.out (Fr.grown hgr) (fun g cur e1 e2 _ e3 => by have h1 := own_low HO0.out e3; have h2 := HRL.out g e1; omega))
          clear hown hgr hat
          refine hK.out _ _ (⟨HA1.out.cell (.tail _ (.tail _ (.head _))) 0, HA1.out.cell (.tail _ (.tail _ (.head _))) 1, HA1.out.cell (.tail _ (.tail _ (.head _))) 2, HA1.out.cell (.tail _ (.tail _ (.tail _ (.tail _ (.head _))))) 0, HA1.out.cell (.tail _ (.tail _ (.tail _ (.tail _ (.head _))))) 1⟩) (fun hS => ?_)
          clear hK K
          try simp only [Act.put, putA, putZ, putS]
          obtain ⟨v1a, v1c, rfl⟩ := own_slice' HO1.out
          refine wpAnyZ_next (rs := [5]) (by kernel_rfl) (by simp) ?_
          refine NextZ.cons (o := ⟨some 41, _, _, _, _, _⟩) rfl (fun K hK => ?_) NextZ.nil
          go_simp
          have HA2 := Lib.hid (HA1.out.alloc #[.int .i64 ga, .int .i64 gb] 63)
          have hnX := (HA1.out.lt (.head _)).2
          have hnY := (HA1.out.lt (.tail _ (.head _))).2
          have hnF := (HA1.out.lt (.tail _ (.tail _ (.head _)))).2
          have hnE := (HA1.out.lt (.tail _ (.tail _ (.tail _ (.head _))))).2
          have hnM := (HA1.out.lt (.tail _ (.tail _ (.tail _ (.tail _ (.head _)))))).2
          have HO2 := Lib.hid (own_below HO1.out (below_alloc X1 (.cells #[.int .i64 ga, .int .i64 gb] 63)))
          have HRW2 := Lib.hid (own_below HRW1.out (below_alloc X1 (.cells #[.int .i64 ga, .int .i64 gb] 63)))
          have HY2 := Lib.hid (below_step HY1.out (below_alloc X1 (.cells #[.int .i64 ga, .int .i64 gb] 63)))
          refine hK.out _ _ (⟨HA2.out.cell (.tail _ (.tail _ (.tail _ (.head _)))) 0, HA2.out.cell (.tail _ (.tail _ (.tail _ (.head _)))) 1, HA2.out.cell (.tail _ (.tail _ (.tail _ (.head _)))) 2, HA2.out.cell (.tail _ (.tail _ (.tail _ (.tail _ (.tail _ (.head _)))))) 0, HA2.out.cell (.tail _ (.tail _ (.tail _ (.tail _ (.tail _ (.head _)))))) 1⟩) (fun hS => ?_)
          clear hK K
          try simp only [Act.put, putA, putZ, putS]
          generalize X1.heap.size = NB at *
          generalize X1.alloc (.cells #[.int .i64 ga, .int .i64 gb] 63) = X2 at *
          refine wpAnyZ_next (rs := [6]) (by kernel_rfl) (by simp) ?_
          refine NextZ.cons (o := ⟨some 42, _, _, _, _, _⟩) rfl (fun K hK => ?_) NextZ.nil
          refine step_append_src X2 (by rfl) (.tmp 39) (.tmp 41) 23 (by rfl) wd.heap.size 63 j0 (.agg #[.int .i64 0, .int .i64 0]) 2 16 Tryz.underlying23 hj0 hj1 hj2 hj3 rfl (by decide) (.slice v1a nm v1c) nm xm (by rfl) HO2.out (some ⟨NB, 0, none⟩) 1 1 [.int .i64 ga, .int .i64 gb] (by rfl) ⟨rfl, fun q u hu => ⟨_, rfl, World.news_of_block ((HA2.out.bk _ _ _ (.head _)).2) q u hu⟩⟩ (by simp [Value.oneCell']) ?c1 ?c2 ?c3 ?_
          case c1 => have := HBY.out; unfold maxLen; omega
          case c2 => have := HBY.out; omega
          case c3 => exact HY2.out.size
          intro v3 X3 hown hgr hat
          have HO3 : Hid (X3.ownsRow wd.heap.size 63 2 v3 (nm + 1) xm2) := by rw [← HEM.out]; exact hown
          have HA3 := Lib.hid ((HA2.out.sub (L' := [(XB, #[.slice oa no oc, .slice va (nw + 1) vc, .slice ma nm mc], 25), (YB, #[.slice oa no oc, .slice na nw nc, .slice ma nm mc], 25), (w.heap.size, #[.slice oa no oc, .slice na nw nc, .slice ma nm mc], 25), (EB, #[.int .i64 elo, .int .i64 ehi, erv, ecv, .int .i64 esx, env, .int .i64 epl], 77), (MB, #[.int .i64 ga, .int .i64 gb], 63)]) (fun p hp => by simp only [List.mem_cons, List.not_mem_nil, or_false] at hp ⊢; rcases hp with h | h | h | h | h <;> simp [h])).fro (Fr.grown hgr) (fun q hq e => by have h1 := own_low HO2.out e; have := HBL.out; omega) (fun p hp e => by
            simp only [List.mem_cons, List.not_mem_nil, or_false] at hp
            rcases hp with rfl | rfl | rfl | rfl | rfl
            · have h1 : wd.heap.size ≤ XB := own_low HO2.out e
              have := HBL.out
              omega
            · have h1 : wd.heap.size ≤ YB := own_low HO2.out e
              have := HBL.out
              omega
            · have h1 : wd.heap.size ≤ w.heap.size := own_low HO2.out e
              have := HBL.out
              omega
            · have h1 : wd.heap.size ≤ EB := own_low HO2.out e
              have := HBL.out
              omega
            · have h1 : wd.heap.size ≤ MB := own_low HO2.out e
              have := HBL.out
              omega))
          have HY3 : Hid (Below wd.heap.size wd X3) := HY2.out.trans ((Fr.grown hgr).low HY2.out.size (fun q hq e => by have h1 := own_low HO2.out e; omega))
          have HRW3 := Lib.hid (own_fr HRW2.out (Fr.grown hgr) (fun g cur e1 e2 _ e3 => by have h1 := own_low HO2.out e3; have h2 := HRL.out g e1; omega))
          clear hown hgr hat
          refine hK.out _ _ (⟨HA3.out.cell (.tail _ (.tail _ (.head _))) 0, HA3.out.cell (.tail _ (.tail _ (.head _))) 1, HA3.out.cell (.tail _ (.tail _ (.head _))) 2, HA3.out.cell (.tail _ (.tail _ (.tail _ (.tail _ (.head _))))) 0, HA3.out.cell (.tail _ (.tail _ (.tail _ (.tail _ (.head _))))) 1⟩) (fun hS => ?_)
          clear hK K
          try simp only [Act.put, putA, putZ, putS]
          obtain ⟨v3a, v3c, rfl⟩ := own_slice' HO3.out
          refine tZ 7 (oi := ⟨_, _, _, _, _, _⟩) (v := ?_) rfl (by kernel_rfl) (by rfl) (fun _ _ _ h => h) hS ?_ ?_
          rotate_left
          · rintro W' ⟨z0, z1, z2, z3, z4⟩; go_simp; try with_reducible rfl
          try simp only [Act.put, putA, putZ, putS]
          refine wpAnyZ_next (rs := [8]) (by kernel_rfl) (by simp) ?_
          refine NextZ.last (o := ⟨none, _, _, _, _, _⟩) rfl (by kernel_rfl) (fun K hK => ?_)
          have e0 := HA3.out.cell (.tail _ (.head _)) 2
          have f0 := HA3.out.thaw (.tail _ (.head _)) 2
          have hbl := HBL.out
          have HA4 := Lib.hid (BF.set1 (i := 2) (cs' := #[.slice oa no oc, .slice na nw nc, .slice v3a (nm + 1) v3c]) HA3.out (.tail _ (.head _)) (.slice v3a (nm + 1) v3c) (by simp) rfl (L' := [(XB, #[.slice oa no oc, .slice va (nw + 1) vc, .slice ma nm mc], 25), (w.heap.size, #[.slice oa no oc, .slice na nw nc, .slice ma nm mc], 25), (EB, #[.int .i64 elo, .int .i64 ehi, erv, ecv, .int .i64 esx, env, .int .i64 epl], 77), (MB, #[.int .i64 ga, .int .i64 gb], 63)]) (List.forall_mem_cons.2 ⟨⟨show XB ≠ YB by omega, (.head _)⟩, List.forall_mem_cons.2 ⟨⟨show w.heap.size ≠ YB by omega, (.tail _ (.tail _ (.head _)))⟩, List.forall_mem_cons.2 ⟨⟨show EB ≠ YB by omega, (.tail _ (.tail _ (.tail _ (.head _))))⟩, List.forall_mem_cons.2 ⟨⟨show MB ≠ YB by omega, (.tail _ (.tail _ (.tail _ (.tail _ (.head _)))))⟩, List.forall_mem_nil _⟩⟩⟩⟩))
          have HO4 := Lib.hid (own_fr HO3.out (Fr.set X3 YB 2 (.slice v3a (nm + 1) v3c)) (fun g cur e1 e2 _ e3 => by omega))
          have HRW4 := Lib.hid (own_fr HRW3.out (Fr.set X3 YB 2 (.slice v3a (nm + 1) v3c)) (fun g cur e1 e2 _ e3 => by have := HRB.out; omega))
          go_simp
          refine hK.out _ _ ?_
          clear hK K
          (try simp only [Act.put])
          clear e0 f0
          refine wpAnyZ_done (by kernel_rfl) ?_ _
          have HX2 := Lib.hid (HA4.out)
          go_wp2_with fail
          go_meet
          exact ⟨v3a, v3c, HX2.out.sub (fun p hp => by
            simp only [List.mem_cons, List.not_mem_nil, or_false] at hp ⊢
            rcases hp with h | h | h | h | h <;> simp [h]), HO4.out, HRW4.out⟩
         refine NextZ.cons (o := ⟨some 41, _, _, _, _, _⟩) rfl (fun K hK => ?_) NextZ.nil
         go_simp
         have HA5 := Lib.hid (HA0.out.alloc #[.int .i64 ga, .int .i64 gb] 63)
         have hnX := (HA0.out.lt (.head _)).2
         have hnY := (HA0.out.lt (.tail _ (.head _))).2
         have hnF := (HA0.out.lt (.tail _ (.tail _ (.head _)))).2
         have hnE := (HA0.out.lt (.tail _ (.tail _ (.tail _ (.head _))))).2
         have hnM := (HA0.out.lt (.tail _ (.tail _ (.tail _ (.tail _ (.head _)))))).2
         have hne5 : BE < X0.heap.size := own_lt HO0.out rfl
         have HO5 := Lib.hid (own_below HO0.out (below_alloc X0 (.cells #[.int .i64 ga, .int .i64 gb] 63)))
         have HRW5 := Lib.hid (own_below HRW0.out (below_alloc X0 (.cells #[.int .i64 ga, .int .i64 gb] 63)))
         have HY5 := Lib.hid (below_step HY0.out (below_alloc X0 (.cells #[.int .i64 ga, .int .i64 gb] 63)))
         refine hK.out _ _ (⟨HA5.out.cell (.tail _ (.tail _ (.tail _ (.head _)))) 0, HA5.out.cell (.tail _ (.tail _ (.tail _ (.head _)))) 1, HA5.out.cell (.tail _ (.tail _ (.tail _ (.head _)))) 2, HA5.out.cell (.tail _ (.tail _ (.tail _ (.tail _ (.tail _ (.head _)))))) 0, HA5.out.cell (.tail _ (.tail _ (.tail _ (.tail _ (.tail _ (.head _)))))) 1⟩) (fun hS => ?_)
         clear hK K
         try simp only [Act.put, putA, putZ, putS]
         generalize X0.heap.size = NB at *
         generalize X0.alloc (.cells #[.int .i64 ga, .int .i64 gb] 63) = X5 at *
         refine wpAnyZ_next (rs := [3]) (by kernel_rfl) (by simp) ?_
         refine NextZ.cons (o := ⟨some 39, _, _, _, _, _⟩) rfl (fun K hK => ?_) NextZ.nil
         refine step_append_src X5 (by rfl) (.tmp 36) (.tmp 38) 23 (by rfl) wd.heap.size 63 j0 (.agg #[.int .i64 0, .int .i64 0]) 2 16 Tryz.underlying23 hj0 hj1 hj2 hj3 rfl (by decide) (.slice (some ⟨BE, 0, none⟩) 0 0) 0 [] (by rfl) HO5.out ma nm mc xm (by rfl) (HSM.out _ HA5.out.fr) HUM.out ?c1 ?c2 ?c3 ?_
         case c1 => have := HBY.out; unfold maxLen; omega
         case c2 => have := HBY.out; omega
         case c3 => exact HY5.out.size
         intro v6 X6 hown hgr hat
         have HO6 := Lib.hid (own_cast hown (Nat.zero_add _) (List.nil_append _))
         have HA6 := Lib.hid (HA5.out.fro (Fr.grown hgr) (fun q hq e => by have h1 := own_low HO5.out e; have := HBL.out; omega) (fun p hp e => by
           simp only [List.mem_cons, List.not_mem_nil, or_false] at hp
           rcases hp with rfl | rfl | rfl | rfl | rfl | rfl
           · have e2 : some BE = some NB := e
             injection e2 with e3
             have := hne5
             omega
           · have h1 : wd.heap.size ≤ XB := own_low HO5.out e
             have := HBL.out
             omega
           · have h1 : wd.heap.size ≤ YB := own_low HO5.out e
             have := HBL.out
             omega
           · have h1 : wd.heap.size ≤ w.heap.size := own_low HO5.out e
             have := HBL.out
             omega
           · have h1 : wd.heap.size ≤ EB := own_low HO5.out e
             have := HBL.out
             omega
           · have h1 : wd.heap.size ≤ MB := own_low HO5.out e
             have := HBL.out
             omega))
         have HY6 : Hid (Below wd.heap.size wd X6) := HY5.out.trans ((Fr.grown hgr).low HY5.out.size (fun q hq e => by have h1 := own_low HO5.out e; omega))
         have HRW6 := Lib.hid (own_fr HRW5.out (Fr.grown hgr) (fun g cur e1 e2 _ e3 => by have h1 := own_low HO5.out e3; have h2 := HRL.out g e1; omega))
         clear hown hgr hat
         refine hK.out _ _ (⟨HA6.out.cell (.tail _ (.tail _ (.tail _ (.head _)))) 0, HA6.out.cell (.tail _ (.tail _ (.tail _ (.head _)))) 1, HA6.out.cell (.tail _ (.tail _ (.tail _ (.head _)))) 2, HA6.out.cell (.tail _ (.tail _ (.tail _ (.tail _ (.tail _ (.head _)))))) 0, HA6.out.cell (.tail _ (.tail _ (.tail _ (.tail _ (.tail _ (.head _)))))) 1⟩) (fun hS => ?_)
         clear hK K
         try simp only [Act.put, putA, putZ, putS]
         obtain ⟨v6a, v6c, rfl⟩ := own_slice' HO6.out
         refine wpAnyZ_next (rs := [6]) (by kernel_rfl) (by simp) ?_
         refine NextZ.cons (o := ⟨some 42, _, _, _, _, _⟩) rfl (fun K hK => ?_) NextZ.nil
         refine step_append_src X6 (by rfl) (.tmp 39) (.tmp 41) 23 (by rfl) wd.heap.size 63 j0 (.agg #[.int .i64 0, .int .i64 0]) 2 16 Tryz.underlying23 hj0 hj1 hj2 hj3 rfl (by decide) (.slice v6a nm v6c) nm xm (by rfl) HO6.out (some ⟨NB, 0, none⟩) 1 1 [.int .i64 ga, .int .i64 gb] (by rfl) ⟨rfl, fun q u hu => ⟨_, rfl, World.news_of_block ((HA6.out.bk _ _ _ (.head _)).2) q u hu⟩⟩ (by simp [Value.oneCell']) ?c1 ?c2 ?c3 ?_
         case c1 => have := HBY.out; unfold maxLen; omega
         case c2 => have := HBY.out; omega
         case c3 => exact HY6.out.size
         intro v7 X7 hown hgr hat
         have HO7 : Hid (X7.ownsRow wd.heap.size 63 2 v7 (nm + 1) xm2) := by rw [← HEM.out]; exact hown
         have HA7 := Lib.hid ((HA6.out.sub (L' := [(XB, #[.slice oa no oc, .slice va (nw + 1) vc, .slice ma nm mc], 25), (YB, #[.slice oa no oc, .slice na nw nc, .slice ma nm mc], 25), (w.heap.size, #[.slice oa no oc, .slice na nw nc, .slice ma nm mc], 25), (EB, #[.int .i64 elo, .int .i64 ehi, erv, ecv, .int .i64 esx, env, .int .i64 epl], 77), (MB, #[.int .i64 ga, .int .i64 gb], 63)]) (fun p hp => by simp only [List.mem_cons, List.not_mem_nil, or_false] at hp ⊢; rcases hp with h | h | h | h | h <;> simp [h])).fro (Fr.grown hgr) (fun q hq e => by have h1 := own_low HO6.out e; have := HBL.out; omega) (fun p hp e => by
           simp only [List.mem_cons, List.not_mem_nil, or_false] at hp
           rcases hp with rfl | rfl | rfl | rfl | rfl
           · have h1 : wd.heap.size ≤ XB := own_low HO6.out e
             have := HBL.out
             omega
           · have h1 : wd.heap.size ≤ YB := own_low HO6.out e
             have := HBL.out
             omega
           · have h1 : wd.heap.size ≤ w.heap.size := own_low HO6.out e
             have := HBL.out
             omega
           · have h1 : wd.heap.size ≤ EB := own_low HO6.out e
             have := HBL.out
             omega
           · have h1 : wd.heap.size ≤ MB := own_low HO6.out e
             have := HBL.out
             omega))
         have HY7 : Hid (Below wd.heap.size wd X7) := HY6.out.trans ((Fr.grown hgr).low HY6.out.size (fun q hq e => by have h1 := own_low HO6.out e; omega))
         have HRW7 := Lib.hid (own_fr HRW6.out (Fr.grown hgr) (fun g cur e1 e2 _ e3 => by have h1 := own_low HO6.out e3; have h2 := HRL.out g e1; omega))
         clear hown hgr hat
         refine hK.out _ _ (⟨HA7.out.cell (.tail _ (.tail _ (.head _))) 0, HA7.out.cell (.tail _ (.tail _ (.head _))) 1, HA7.out.cell (.tail _ (.tail _ (.head _))) 2, HA7.out.cell (.tail _ (.tail _ (.tail _ (.tail _ (.head _))))) 0, HA7.out.cell (.tail _ (.tail _ (.tail _ (.tail _ (.head _))))) 1⟩) (fun hS => ?_)
         clear hK K
         try simp only [Act.put, putA, putZ, putS]
         obtain ⟨v7a, v7c, rfl⟩ := own_slice' HO7.out
         refine tZ 7 (oi := ⟨_, _, _, _, _, _⟩) (v := ?_) rfl (by kernel_rfl) (by rfl) (fun _ _ _ h => h) hS ?_ ?_
         rotate_left
         · rintro W' ⟨z0, z1, z2, z3, z4⟩; go_simp; try with_reducible rfl
         try simp only [Act.put, putA, putZ, putS]
         refine wpAnyZ_next (rs := [8]) (by kernel_rfl) (by simp) ?_
         refine NextZ.last (o := ⟨none, _, _, _, _, _⟩) rfl (by kernel_rfl) (fun K hK => ?_)
         have e0 := HA7.out.cell (.tail _ (.head _)) 2
         have f0 := HA7.out.thaw (.tail _ (.head _)) 2
         have hbl := HBL.out
         have HA8 := Lib.hid (BF.set1 (i := 2) (cs' := #[.slice oa no oc, .slice na nw nc, .slice v7a (nm + 1) v7c]) HA7.out (.tail _ (.head _)) (.slice v7a (nm + 1) v7c) (by simp) rfl (L' := [(XB, #[.slice oa no oc, .slice va (nw + 1) vc, .slice ma nm mc], 25), (w.heap.size, #[.slice oa no oc, .slice na nw nc, .slice ma nm mc], 25), (EB, #[.int .i64 elo, .int .i64 ehi, erv, ecv, .int .i64 esx, env, .int .i64 epl], 77), (MB, #[.int .i64 ga, .int .i64 gb], 63)]) (List.forall_mem_cons.2 ⟨⟨show XB ≠ YB by omega, (.head _)⟩, List.forall_mem_cons.2 ⟨⟨show w.heap.size ≠ YB by omega, (.tail _ (.tail _ (.head _)))⟩, List.forall_mem_cons.2 ⟨⟨show EB ≠ YB by omega, (.tail _ (.tail _ (.tail _ (.head _))))⟩, List.forall_mem_cons.2 ⟨⟨show MB ≠ YB by omega, (.tail _ (.tail _ (.tail _ (.tail _ (.head _)))))⟩, List.forall_mem_nil _⟩⟩⟩⟩))
         have HO8 := Lib.hid (own_fr HO7.out (Fr.set X7 YB 2 (.slice v7a (nm + 1) v7c)) (fun g cur e1 e2 _ e3 => by omega))
         have HRW8 := Lib.hid (own_fr HRW7.out (Fr.set X7 YB 2 (.slice v7a (nm + 1) v7c)) (fun g cur e1 e2 _ e3 => by have := HRB.out; omega))
         go_simp
         refine hK.out _ _ ?_
         clear hK K
         (try simp only [Act.put])
         clear e0 f0
         refine wpAnyZ_done (by kernel_rfl) ?_ _
         have HX2 := Lib.hid (HA8.out)
         go_wp2_with fail
         go_meet
         exact ⟨v7a, v7c, HX2.out.sub (fun p hp => by
           simp only [List.mem_cons, List.not_mem_nil, or_false] at hp ⊢
           rcases hp with h | h | h | h | h <;> simp [h]), HO8.out, HRW8.out⟩
        refine NextZ.cons (o := ⟨some 41, _, _, _, _, _⟩) rfl (fun K hK => ?_) NextZ.nil
        go_simp
        have HA9 := Lib.hid (HAX.out.alloc #[.int .i64 ga, .int .i64 gb] 63)
        have hnX := (HAX.out.lt (.head _)).2
        have hnY := (HAX.out.lt (.tail _ (.head _))).2
        have hnF := (HAX.out.lt (.tail _ (.tail _ (.head _)))).2
        have hnE := (HAX.out.lt (.tail _ (.tail _ (.tail _ (.head _))))).2
        have hnM := (HAX.out.lt (.tail _ (.tail _ (.tail _ (.tail _ (.head _)))))).2
        have HRW9 := Lib.hid (own_below HRX.out (below_alloc X (.cells #[.int .i64 ga, .int .i64 gb] 63)))
        have HY9 := Lib.hid (below_step HYX.out (below_alloc X (.cells #[.int .i64 ga, .int .i64 gb] 63)))
        refine hK.out _ _ (⟨HA9.out.cell (.tail _ (.tail _ (.tail _ (.head _)))) 0, HA9.out.cell (.tail _ (.tail _ (.tail _ (.head _)))) 1, HA9.out.cell (.tail _ (.tail _ (.tail _ (.head _)))) 2, HA9.out.cell (.tail _ (.tail _ (.tail _ (.tail _ (.tail _ (.head _)))))) 0, HA9.out.cell (.tail _ (.tail _ (.tail _ (.tail _ (.tail _ (.head _)))))) 1⟩) (fun hS => ?_)
        clear hK K
        try simp only [Act.put, putA, putZ, putS]
        generalize X.heap.size = NB at *
        generalize X.alloc (.cells #[.int .i64 ga, .int .i64 gb] 63) = X9 at *
        refine wpAnyZ_next (rs := [0]) (by kernel_rfl) (by simp) ?_
        refine NextZ.cons (o := ⟨some 36, _, _, _, _, _⟩) rfl (fun K hK => ?_) NextZ.nil
        go_simp
        have hzz10 := HY9.out.size
        have HOE10 := Lib.hid (own_empty X9 63 2 wd.heap.size hzz10)
        have HAQ10 := Lib.hid (HA9.out.alloc #[] 63)
        have hne10 := (HA9.out.lt (.head _)).2
        have HRW10 := Lib.hid (own_below HRW9.out (below_alloc X9 (.cells #[] 63)))
        have HY10 := Lib.hid (below_step HY9.out (below_alloc X9 (.cells #[] 63)))
        have HA10 : Hid (BF w (X9.alloc (.cells #[] 63)) [(NB, #[.int .i64 ga, .int .i64 gb], 63), (XB, #[.slice oa no oc, .slice va (nw + 1) vc, .slice ma nm mc], 25), (YB, #[.slice oa no oc, .slice na nw nc, .slice ma nm mc], 25), (w.heap.size, #[.slice oa no oc, .slice na nw nc, .slice ma nm mc], 25), (EB, #[.int .i64 elo, .int .i64 ehi, erv, ecv, .int .i64 esx, env, .int .i64 epl], 77), (MB, #[.int .i64 ga, .int .i64 gb], 63)]) := HAQ10.out.sub (fun p hp => .tail _ hp)
        clear HAQ10
        refine hK.out _ _ (⟨HA10.out.cell (.tail _ (.tail _ (.tail _ (.head _)))) 0, HA10.out.cell (.tail _ (.tail _ (.tail _ (.head _)))) 1, HA10.out.cell (.tail _ (.tail _ (.tail _ (.head _)))) 2, HA10.out.cell (.tail _ (.tail _ (.tail _ (.tail _ (.tail _ (.head _)))))) 0, HA10.out.cell (.tail _ (.tail _ (.tail _ (.tail _ (.tail _ (.head _)))))) 1⟩) (fun hS => ?_)
        clear hK K
        try simp only [Act.put, putA, putZ, putS]
        generalize X9.heap.size = BE at *
        generalize X9.alloc (.cells #[] 63) = X10 at *
        have HO10 := HOE10
        clear HOE10
        refine wpAnyZ_next (rs := [3]) (by kernel_rfl) (by simp) ?_
        refine NextZ.cons (o := ⟨some 39, _, _, _, _, _⟩) rfl (fun K hK => ?_) NextZ.nil
        refine step_append_src X10 (by rfl) (.tmp 36) (.tmp 38) 23 (by rfl) wd.heap.size 63 j0 (.agg #[.int .i64 0, .int .i64 0]) 2 16 Tryz.underlying23 hj0 hj1 hj2 hj3 rfl (by decide) (.slice (some ⟨BE, 0, none⟩) 0 0) 0 [] (by rfl) HO10.out ma nm mc xm (by rfl) (HSM.out _ HA10.out.fr) HUM.out ?c1 ?c2 ?c3 ?_
        case c1 => have := HBY.out; unfold maxLen; omega
        case c2 => have := HBY.out; omega
        case c3 => exact HY10.out.size
        intro v11 X11 hown hgr hat
        have HO11 := Lib.hid (own_cast hown (Nat.zero_add _) (List.nil_append _))
        have HA11 := Lib.hid (HA10.out.fro (Fr.grown hgr) (fun q hq e => by have h1 := own_low HO10.out e; have := HBL.out; omega) (fun p hp e => by
          simp only [List.mem_cons, List.not_mem_nil, or_false] at hp
          rcases hp with rfl | rfl | rfl | rfl | rfl | rfl
          · have e2 : some BE = some NB := e
            injection e2 with e3
            have := hne10
            omega
          · have h1 : wd.heap.size ≤ XB := own_low HO10.out e
            have := HBL.out
            omega
          · have h1 : wd.heap.size ≤ YB := own_low HO10.out e
            have := HBL.out
            omega
          · have h1 : wd.heap.size ≤ w.heap.size := own_low HO10.out e
            have := HBL.out
            omega
          · have h1 : wd.heap.size ≤ EB := own_low HO10.out e
            have := HBL.out
            omega
          · have h1 : wd.heap.size ≤ MB := own_low HO10.out e
            have := HBL.out
            omega))
        have HY11 : Hid (Below wd.heap.size wd X11) := HY10.out.trans ((Fr.grown hgr).low HY10.out.size (fun q hq e => by have h1 := own_low HO10.out e; omega))
        have HRW11 := Lib.hid (own_fr HRW10.out (Fr.grown hgr) (fun g cur e1 e2 _ e3 => by have h1 := own_low HO10.out e3; have h2 := HRL.out g e1; omega))
        clear hown hgr hat
        refine hK.out _ _ (⟨HA11.out.cell (.tail _ (.tail _ (.tail _ (.head _)))) 0, HA11.out.cell (.tail _ (.tail _ (.tail _ (.head _)))) 1, HA11.out.cell (.tail _ (.tail _ (.tail _ (.head _)))) 2, HA11.out.cell (.tail _ (.tail _ (.tail _ (.tail _ (.tail _ (.head _)))))) 0, HA11.out.cell (.tail _ (.tail _ (.tail _ (.tail _ (.tail _ (.head _)))))) 1⟩) (fun hS => ?_)
        clear hK K
        try simp only [Act.put, putA, putZ, putS]
        obtain ⟨v11a, v11c, rfl⟩ := own_slice' HO11.out
        refine wpAnyZ_next (rs := [6]) (by kernel_rfl) (by simp) ?_
        refine NextZ.cons (o := ⟨some 42, _, _, _, _, _⟩) rfl (fun K hK => ?_) NextZ.nil
        refine step_append_src X11 (by rfl) (.tmp 39) (.tmp 41) 23 (by rfl) wd.heap.size 63 j0 (.agg #[.int .i64 0, .int .i64 0]) 2 16 Tryz.underlying23 hj0 hj1 hj2 hj3 rfl (by decide) (.slice v11a nm v11c) nm xm (by rfl) HO11.out (some ⟨NB, 0, none⟩) 1 1 [.int .i64 ga, .int .i64 gb] (by rfl) ⟨rfl, fun q u hu => ⟨_, rfl, World.news_of_block ((HA11.out.bk _ _ _ (.head _)).2) q u hu⟩⟩ (by simp [Value.oneCell']) ?c1 ?c2 ?c3 ?_
        case c1 => have := HBY.out; unfold maxLen; omega
        case c2 => have := HBY.out; omega
        case c3 => exact HY11.out.size
        intro v12 X12 hown hgr hat
        have HO12 : Hid (X12.ownsRow wd.heap.size 63 2 v12 (nm + 1) xm2) := by rw [← HEM.out]; exact hown
        have HA12 := Lib.hid ((HA11.out.sub (L' := [(XB, #[.slice oa no oc, .slice va (nw + 1) vc, .slice ma nm mc], 25), (YB, #[.slice oa no oc, .slice na nw nc, .slice ma nm mc], 25), (w.heap.size, #[.slice oa no oc, .slice na nw nc, .slice ma nm mc], 25), (EB, #[.int .i64 elo, .int .i64 ehi, erv, ecv, .int .i64 esx, env, .int .i64 epl], 77), (MB, #[.int .i64 ga, .int .i64 gb], 63)]) (fun p hp => by simp only [List.mem_cons, List.not_mem_nil, or_false] at hp ⊢; rcases hp with h | h | h | h | h <;> simp [h])).fro (Fr.grown hgr) (fun q hq e => by have h1 := own_low HO11.out e; have := HBL.out; omega) (fun p hp e => by
          simp only [List.mem_cons, List.not_mem_nil, or_false] at hp
          rcases hp with rfl | rfl | rfl | rfl | rfl
          · have h1 : wd.heap.size ≤ XB := own_low HO11.out e
            have := HBL.out
            omega
          · have h1 : wd.heap.size ≤ YB := own_low HO11.out e
            have := HBL.out
            omega
          · have h1 : wd.heap.size ≤ w.heap.size := own_low HO11.out e
            have := HBL.out
            omega
          · have h1 : wd.heap.size ≤ EB := own_low HO11.out e
            have := HBL.out
            omega
          · have h1 : wd.heap.size ≤ MB := own_low HO11.out e
            have := HBL.out
            omega))
        have HY12 : Hid (Below wd.heap.size wd X12) := HY11.out.trans ((Fr.grown hgr).low HY11.out.size (fun q hq e => by have h1 := own_low HO11.out e; omega))
        have HRW12 := Lib.hid (own_fr HRW11.out (Fr.grown hgr) (fun g cur e1 e2 _ e3 => by have h1 := own_low HO11.out e3; have h2 := HRL.out g e1; omega))
        clear hown hgr hat
        refine hK.out _ _ (⟨HA12.out.cell (.tail _ (.tail _ (.head _))) 0, HA12.out.cell (.tail _ (.tail _ (.head _))) 1, HA12.out.cell (.tail _ (.tail _ (.head _))) 2, HA12.out.cell (.tail _ (.tail _ (.tail _ (.tail _ (.head _))))) 0, HA12.out.cell (.tail _ (.tail _ (.tail _ (.tail _ (.head _))))) 1⟩) (fun hS => ?_)
        clear hK K
        try simp only [Act.put, putA, putZ, putS]
        obtain ⟨v12a, v12c, rfl⟩ := own_slice' HO12.out
        refine tZ 7 (oi := ⟨_, _, _, _, _, _⟩) (v := ?_) rfl (by kernel_rfl) (by rfl) (fun _ _ _ h => h) hS ?_ ?_
        rotate_left
        · rintro W' ⟨z0, z1, z2, z3, z4⟩; go_simp; try with_reducible rfl
        try simp only [Act.put, putA, putZ, putS]
        refine wpAnyZ_next (rs := [8]) (by kernel_rfl) (by simp) ?_
        refine NextZ.last (o := ⟨none, _, _, _, _, _⟩) rfl (by kernel_rfl) (fun K hK => ?_)
        have e0 := HA12.out.cell (.tail _ (.head _)) 2
        have f0 := HA12.out.thaw (.tail _ (.head _)) 2
        have hbl := HBL.out
        have HA13 := Lib.hid (BF.set1 (i := 2) (cs' := #[.slice oa no oc, .slice na nw nc, .slice v12a (nm + 1) v12c]) HA12.out (.tail _ (.head _)) (.slice v12a (nm + 1) v12c) (by simp) rfl (L' := [(XB, #[.slice oa no oc, .slice va (nw + 1) vc, .slice ma nm mc], 25), (w.heap.size, #[.slice oa no oc, .slice na nw nc, .slice ma nm mc], 25), (EB, #[.int .i64 elo, .int .i64 ehi, erv, ecv, .int .i64 esx, env, .int .i64 epl], 77), (MB, #[.int .i64 ga, .int .i64 gb], 63)]) (List.forall_mem_cons.2 ⟨⟨show XB ≠ YB by omega, (.head _)⟩, List.forall_mem_cons.2 ⟨⟨show w.heap.size ≠ YB by omega, (.tail _ (.tail _ (.head _)))⟩, List.forall_mem_cons.2 ⟨⟨show EB ≠ YB by omega, (.tail _ (.tail _ (.tail _ (.head _))))⟩, List.forall_mem_cons.2 ⟨⟨show MB ≠ YB by omega, (.tail _ (.tail _ (.tail _ (.tail _ (.head _)))))⟩, List.forall_mem_nil _⟩⟩⟩⟩))
        have HO13 := Lib.hid (own_fr HO12.out (Fr.set X12 YB 2 (.slice v12a (nm + 1) v12c)) (fun g cur e1 e2 _ e3 => by omega))
        have HRW13 := Lib.hid (own_fr HRW12.out (Fr.set X12 YB 2 (.slice v12a (nm + 1) v12c)) (fun g cur e1 e2 _ e3 => by have := HRB.out; omega))
        go_simp
        refine hK.out _ _ ?_
        clear hK K
        (try simp only [Act.put])
        clear e0 f0
        refine wpAnyZ_done (by kernel_rfl) ?_ _
        have HX2 := Lib.hid (HA13.out)
        go_wp2_with fail
        go_meet
        exact ⟨v12a, v12c, HX2.out.sub (fun p hp => by
          simp only [List.mem_cons, List.not_mem_nil, or_false] at hp ⊢
          rcases hp with h | h | h | h | h <;> simp [h]), HO13.out, HRW13.out⟩
      case rest =>
        clear HAX HYX HRX HRW HA2 HRB HRL HXY
        rename World => we
        obtain ⟨vb, vd, hbf, hrow2, hrow⟩ := hcut
        have HA := Lib.hid hbf
        have HCX := Lib.hid (HQX.out we wc.heap.size va vc hbf.fr hrow)
        have HCY := Lib.hid (HQY.out we wd.heap.size vb vd hbf.fr hrow2)
        clear hbf hrow hrow2 HQX HQY HSO HSN HSM HUO HUN HUM HU7 HES HEM
        have HX0 : Hid (Below we.heap.size we we) := Below.refl _ _
        have cF0 := HA.out.cell (.tail _ (.tail _ (.head _))) 0
        have cF1 := HA.out.cell (.tail _ (.tail _ (.head _))) 1
        have cF2 := HA.out.cell (.tail _ (.tail _ (.head _))) 2
        have cX0 := HA.out.cell (.head _) 0
        have cX1 := HA.out.cell (.head _) 1
        have cX2 := HA.out.cell (.head _) 2
        have cY0 := HA.out.cell (.tail _ (.head _)) 0
        have cY1 := HA.out.cell (.tail _ (.head _)) 1
        have cY2 := HA.out.cell (.tail _ (.head _)) 2
        go_wp2_with fail
        refine (HRF.out _ HA.out.fr).mono ?_
        rintro _ y1 ⟨rfl, hb⟩
        have HX0' := Lib.hid (HX0.out.trans (hb.mono HX0.out.size))
        clear HX0
        have HX0 := HX0'
        clear HX0'
        have HA' := Lib.hid (HA.out.below hb)
        clear HA
        have HA := HA'
        clear HA'
        clear hb cF0 cF1 cF2 cX0 cX1 cX2 cY0 cY1 cY2
        cases rf
        · go_wp2_with fail
          refine (awake5_any _).mono ?_
          rintro _ y2 ⟨rfl, hb⟩
          have HX0' := Lib.hid (HX0.out.trans (hb.mono HX0.out.size))
          clear HX0
          have HX0 := HX0'
          clear HX0'
          have HA' := Lib.hid (HA.out.below hb)
          clear HA
          have HA := HA'
          clear HA'
          clear hb
          go_wp2_with fail
          go_ret
          exact ⟨rfl, HA.out.fr⟩
        have cF0 := HA.out.cell (.tail _ (.tail _ (.head _))) 0
        have cF1 := HA.out.cell (.tail _ (.tail _ (.head _))) 1
        have cF2 := HA.out.cell (.tail _ (.tail _ (.head _))) 2
        have cX0 := HA.out.cell (.head _) 0
        have cX1 := HA.out.cell (.head _) 1
        have cX2 := HA.out.cell (.head _) 2
        have cY0 := HA.out.cell (.tail _ (.head _)) 0
        have cY1 := HA.out.cell (.tail _ (.head _)) 1
        have cY2 := HA.out.cell (.tail _ (.head _)) 2
        go_wp2_with fail
        refine (HCX.out.1 _ HX0.out).mono ?_
        rintro _ y2 ⟨rfl, hb⟩
        have HX0' := Lib.hid (HX0.out.trans (hb.mono HX0.out.size))
        clear HX0
        have HX0 := HX0'
        clear HX0'
        have HA' := Lib.hid (HA.out.below hb)
        clear HA
        have HA := HA'
        clear HA'
        clear hb cF0 cF1 cF2 cX0 cX1 cX2 cY0 cY1 cY2
        cases rx
        · go_wp2_with fail
          refine (awake5_any _).mono ?_
          rintro _ y3 ⟨rfl, hb⟩
          have HX0' := Lib.hid (HX0.out.trans (hb.mono HX0.out.size))
          clear HX0
          have HX0 := HX0'
          clear HX0'
          have HA' := Lib.hid (HA.out.below hb)
          clear HA
          have HA := HA'
          clear HA'
          clear hb
          go_wp2_with fail
          go_ret
          exact ⟨rfl, HA.out.fr⟩
        have cF0 := HA.out.cell (.tail _ (.tail _ (.head _))) 0
        have cF1 := HA.out.cell (.tail _ (.tail _ (.head _))) 1
        have cF2 := HA.out.cell (.tail _ (.tail _ (.head _))) 2
        have cX0 := HA.out.cell (.head _) 0
        have cX1 := HA.out.cell (.head _) 1
        have cX2 := HA.out.cell (.head _) 2
        have cY0 := HA.out.cell (.tail _ (.head _)) 0
        have cY1 := HA.out.cell (.tail _ (.head _)) 1
        have cY2 := HA.out.cell (.tail _ (.head _)) 2
        go_wp2_with fail
        refine (HCY.out.1 _ HX0.out).mono ?_
        rintro _ y3 ⟨rfl, hb⟩
        have HX0' := Lib.hid (HX0.out.trans (hb.mono HX0.out.size))
        clear HX0
        have HX0 := HX0'
        clear HX0'
        have HA' := Lib.hid (HA.out.below hb)
        clear HA
        have HA := HA'
        clear HA'
        clear hb cF0 cF1 cF2 cX0 cX1 cX2 cY0 cY1 cY2
        cases ry
        · go_wp2_with fail
          refine (awake5_any _).mono ?_
          rintro _ y4 ⟨rfl, hb⟩
          have HX0' := Lib.hid (HX0.out.trans (hb.mono HX0.out.size))
          clear HX0
          have HX0 := HX0'
          clear HX0'
          have HA' := Lib.hid (HA.out.below hb)
          clear HA
          have HA := HA'
          clear HA'
          clear hb
          go_wp2_with fail
          go_ret
          exact ⟨rfl, HA.out.fr⟩
        have hlw := HLW.out (by simp) (by simp) (by simp)
        have hm8 := HM8.out (by simp)
        have kw : IntKind.i64.wrap ((mf : Int) + 1) = (mf : Int) + 1 := IntWalk.i64_in _ (by omega)
        have q1 : (mf : Int) ≤ (mx : Int) := by omega
        have q2 : (mx : Int) ≤ (mf : Int) + 1 := by omega
        have q3 : (mf : Int) ≤ (my : Int) := by omega
        clear hm8
        have cF0 := HA.out.cell (.tail _ (.tail _ (.head _))) 0
        have cF1 := HA.out.cell (.tail _ (.tail _ (.head _))) 1
        have cF2 := HA.out.cell (.tail _ (.tail _ (.head _))) 2
        have cX0 := HA.out.cell (.head _) 0
        have cX1 := HA.out.cell (.head _) 1
        have cX2 := HA.out.cell (.head _) 2
        have cY0 := HA.out.cell (.tail _ (.head _)) 0
        have cY1 := HA.out.cell (.tail _ (.head _)) 1
        have cY2 := HA.out.cell (.tail _ (.head _)) 2
        go_wp2_with fail
        refine (HFF.out (by simp) _ HA.out.fr).mono ?_
        rintro _ y4 ⟨z, rfl, hq, hb⟩
        have HX0' := Lib.hid (HX0.out.trans (hb.mono HX0.out.size))
        clear HX0
        have HX0 := HX0'
        clear HX0'
        have HA' := Lib.hid (HA.out.below hb)
        clear HA
        have HA := HA'
        clear HA'
        have HQ := Lib.hid hq
        clear hq
        clear hb cF0 cF1 cF2 cX0 cX1 cX2 cY0 cY1 cY2
        go_wp2_with fail
        refine (HMF.out (by simp) z _ HQ.out).mono ?_
        rintro _ y5 ⟨rfl, hb⟩
        have HX0' := Lib.hid (HX0.out.trans (hb.mono HX0.out.size))
        clear HX0
        have HX0 := HX0'
        clear HX0'
        have HA' := Lib.hid (HA.out.below hb)
        clear HA
        have HA := HA'
        clear HA'
        clear hb
        clear HQ
        have cF0 := HA.out.cell (.tail _ (.tail _ (.head _))) 0
        have cF1 := HA.out.cell (.tail _ (.tail _ (.head _))) 1
        have cF2 := HA.out.cell (.tail _ (.tail _ (.head _))) 2
        have cX0 := HA.out.cell (.head _) 0
        have cX1 := HA.out.cell (.head _) 1
        have cX2 := HA.out.cell (.head _) 2
        have cY0 := HA.out.cell (.tail _ (.head _)) 0
        have cY1 := HA.out.cell (.tail _ (.head _)) 1
        have cY2 := HA.out.cell (.tail _ (.head _)) 2
        go_wp2_with fail
        refine (HCX.out.2 (by simp) _ HX0.out).mono ?_
        rintro _ y6 ⟨z, rfl, hq, hb⟩
        have HX0' := Lib.hid (HX0.out.trans (hb.mono HX0.out.size))
        clear HX0
        have HX0 := HX0'
        clear HX0'
        have HA' := Lib.hid (HA.out.below hb)
        clear HA
        have HA := HA'
        clear HA'
        have HQ := Lib.hid hq
        clear hq
        clear hb cF0 cF1 cF2 cX0 cX1 cX2 cY0 cY1 cY2
        go_wp2_with fail
        refine (HMX.out (by simp) z _ HQ.out).mono ?_
        rintro _ y7 ⟨rfl, hb⟩
        have HX0' := Lib.hid (HX0.out.trans (hb.mono HX0.out.size))
        clear HX0
        have HX0 := HX0'
        clear HX0'
        have HA' := Lib.hid (HA.out.below hb)
        clear HA
        have HA := HA'
        clear HA'
        clear hb
        clear HQ
        have cF0 := HA.out.cell (.tail _ (.tail _ (.head _))) 0
        have cF1 := HA.out.cell (.tail _ (.tail _ (.head _))) 1
        have cF2 := HA.out.cell (.tail _ (.tail _ (.head _))) 2
        have cX0 := HA.out.cell (.head _) 0
        have cX1 := HA.out.cell (.head _) 1
        have cX2 := HA.out.cell (.head _) 2
        have cY0 := HA.out.cell (.tail _ (.head _)) 0
        have cY1 := HA.out.cell (.tail _ (.head _)) 1
        have cY2 := HA.out.cell (.tail _ (.head _)) 2
        go_wp2_with fail
        refine (HCY.out.2 (by simp) _ HX0.out).mono ?_
        rintro _ y8 ⟨z, rfl, hq, hb⟩
        have HX0' := Lib.hid (HX0.out.trans (hb.mono HX0.out.size))
        clear HX0
        have HX0 := HX0'
        clear HX0'
        have HA' := Lib.hid (HA.out.below hb)
        clear HA
        have HA := HA'
        clear HA'
        have HQ := Lib.hid hq
        clear hq
        clear hb cF0 cF1 cF2 cX0 cX1 cX2 cY0 cY1 cY2
        go_wp2_with fail
        refine (HMY.out (by simp) z _ HQ.out).mono ?_
        rintro _ y9 ⟨rfl, hb⟩
        have HX0' := Lib.hid (HX0.out.trans (hb.mono HX0.out.size))
        clear HX0
        have HX0 := HX0'
        clear HX0'
        have HA' := Lib.hid (HA.out.below hb)
        clear HA
        have HA := HA'
        clear HA'
        clear hb
        clear HQ
        go_wp2_with fail
        refine (awake5_any _).mono ?_
        rintro _ y10 ⟨rfl, hb⟩
        have HX0' := Lib.hid (HX0.out.trans (hb.mono HX0.out.size))
        clear HX0
        have HX0 := HX0'
        clear HX0'
        have HA' := Lib.hid (HA.out.below hb)
        clear HA
        have HA := HA'
        clear HA'
        clear hb
        go_wp2_with fail
        go_ret
        exact ⟨rfl, HA.out.fr⟩
end Go.Proofs.YtgbdbikjckfgmaaGreat
