/- Link: LinkRemoved's walk. Printed by gen_ot.py. -/
import Derived.Test.YtgbdbikjckfgmaaGreatOS
namespace Go.Proofs.YtgbdbikjckfgmaaGreat
open Go.RowKit Go.Shelf

set_option maxRecDepth 100000 in
set_option maxHeartbeats 32000000 in
theorem linkRemoved_thick (x : FV) (f : Fl) (wn : Nat) (w : World) (h : FlQ QR w x f) (ht : f.rdy = false) :
    Calls Tryz.prog 10 #[.agg #[.slice x.oa f.no x.oc, .slice x.na f.nw x.nc, .slice x.ma f.nm x.mc], .int .u8 (wn : Int)] w fun e w' => e = .returned (.bool true) ∧ Below w.heap.size w w' := by
  obtain ⟨oa, oc, na, nc, ma, mc⟩ := x
  have HTH := Lib.hid (readyW ⟨oa, oc, na, nc, ma, mc⟩ f w h false ht)
  clear h ht
  dsimp only at HTH ⊢
  generalize f.no = no at *
  generalize f.nw = nw at *
  generalize f.nm = nm at *
  have HA := Lib.hid ((BF.base w).alloc #[.slice oa no oc, .slice na nw nc, .slice ma nm mc] 25)
  go_enter Tryz.func10, Tryz.ntmps10
  have c0 := HA.out.cell (.head _) 0
  have c1 := HA.out.cell (.head _) 1
  have c2 := HA.out.cell (.head _) 2
  go_wp2_with fail
  refine (HTH.out _ HA.out.fr).mono ?_
  rintro _ w1 ⟨rfl, hb⟩
  have HA' := Lib.hid (HA.out.below hb)
  clear HA
  have HA := HA'
  clear HA'
  clear hb c0 c1 c2
  go_wp2_with fail
  refine (awake5_any _).mono ?_
  rintro _ w2 ⟨rfl, hb⟩
  have HA' := Lib.hid (HA.out.below hb)
  clear HA
  have HA := HA'
  clear HA'
  clear hb
  go_wp2_with fail
  go_ret
  exact ⟨rfl, HA.out.fr⟩
set_option maxRecDepth 100000 in
set_option maxHeartbeats 32000000 in
theorem linkRemoved_none (x : FV) (f : Fl) (wn : Nat) (w : World) (h : FlQ QR w x f) (hr : f.rdy = true) (h0 : f.no + f.nw = 0) :
    Calls Tryz.prog 10 #[.agg #[.slice x.oa f.no x.oc, .slice x.na f.nw x.nc, .slice x.ma f.nm x.mc], .int .u8 (wn : Int)] w fun e w' => e = .returned (.bool true) ∧ Below w.heap.size w w' := by
  obtain ⟨oa, oc, na, nc, ma, mc⟩ := x
  have HTH := Lib.hid (readyW ⟨oa, oc, na, nc, ma, mc⟩ f w h true hr)
  clear h hr
  dsimp only at HTH ⊢
  generalize f.no = no at *
  generalize f.nw = nw at *
  generalize f.nm = nm at *
  obtain rfl : no = 0 := by omega
  obtain rfl : nw = 0 := by omega
  have HA := Lib.hid ((BF.base w).alloc #[.slice oa 0 oc, .slice na 0 nc, .slice ma nm mc] 25)
  go_enter Tryz.func10, Tryz.ntmps10
  have c0 := HA.out.cell (.head _) 0
  have c1 := HA.out.cell (.head _) 1
  have c2 := HA.out.cell (.head _) 2
  go_wp2_with fail
  refine (HTH.out _ HA.out.fr).mono ?_
  rintro _ w1 ⟨rfl, hb⟩
  have HA' := Lib.hid (HA.out.below hb)
  clear HA
  have HA := HA'
  clear HA'
  clear hb c0 c1 c2
  have c0 := HA.out.cell (.head _) 0
  have c1 := HA.out.cell (.head _) 1
  have c2 := HA.out.cell (.head _) 2
  go_wp2_with fail
  refine (awake5_any _).mono ?_
  rintro _ w2 ⟨rfl, hb⟩
  have HA' := Lib.hid (HA.out.below hb)
  clear HA
  have HA := HA'
  clear HA'
  clear hb
  go_wp2_with fail
  go_ret
  exact ⟨rfl, HA.out.fr⟩
set_option maxRecDepth 100000 in
set_option maxHeartbeats 32000000 in
theorem linkRemoved_old (x : FV) (f : Fl) (wn : Nat) (kk : Nat) (w : World) (h : FlQ QR w x f) (hr : f.rdy = true) (hco : f.no ≤ x.oc) (hcn : f.nw ≤ x.nc) (hmod : wn % (f.no + f.nw) = kk) (hwn : wn < 256) (hk : kk < f.no) :
    Calls Tryz.prog 10 #[.agg #[.slice x.oa f.no x.oc, .slice x.na f.nw x.nc, .slice x.ma f.nm x.mc], .int .u8 (wn : Int)] w fun e w' => e = .returned (.bool true) ∧ Below w.heap.size w w' := by
  obtain ⟨oa, oc, na, nc, ma, mc⟩ := x
  obtain ⟨ht, hf⟩ := Fl.rdy_yes hr
  have HTH := Lib.hid (readyW ⟨oa, oc, na, nc, ma, mc⟩ f w h true hr)
  have HFI := Lib.hid (fileW ⟨oa, oc, na, nc, ma, mc⟩ f w h ht)
  have OK := Lib.hid (Fl.ok hf)
  have hno := OK.out.no
  have hnw := OK.out.nw
  have HC1 : Hid (∀ (z : FV) X, FlQ QP X z f → Calls Tryz.prog 27 #[.agg #[.slice z.oa f.no z.oc, .slice z.na f.nw z.nc, .slice z.ma f.nm z.mc]] X (GivesA X (pickN f.alO f.no) (pickN f.alN f.nw))) := fun z X hq => alwaysF_ok z f X hq hf
  have HC2 : Hid (∀ (z : FV) X, FlQ QP X z f → Calls Tryz.prog 42 #[.agg #[.slice z.oa f.no z.oc, .slice z.na f.nw z.nc, .slice z.ma f.nm z.mc]] X fun e w' => e = .returned (.tuple #[.int .i64 (f.most : Int), .int .i64 0]) ∧ Below X.heap.size X w') := fun z X hq => mostF_ok z f X hq hf
  have hft := (OK.out.cutO kk).fault
  have HD2 : Hid (∀ (z : FV) X, FlQ QP X z (f.cutO kk) → Calls Tryz.prog 42 #[.agg #[.slice z.oa (f.no - 1) z.oc, .slice z.na f.nw z.nc, .slice z.ma f.nm z.mc]] X fun e w' => e = .returned (.tuple #[.int .i64 ((f.cutO kk).most : Int), .int .i64 0]) ∧ Below X.heap.size X w') := fun z X hq => mostF_ok z (f.cutO kk) X hq hft
  have HCU := Lib.hid (fun X (hX : Below w.heap.size w X) => cut_own oa f.no oc f.O kk w X hX h.o hk (by omega) hco)
  have HTF : Hid (∀ X b d, Below w.heap.size w X → EsQ QR X (.slice b (f.no - 1) d) (f.no - 1) (cutE f.O kk) → ∀ Y, Below X.heap.size X Y → Calls Tryz.prog 21 #[.agg #[.slice b (f.no - 1) d, .slice na f.nw nc, .slice ma f.nm mc]] Y fun e w' => ∃ z : FV, e = .returned (.agg #[.slice z.oa (f.no - 1) z.oc, .slice z.na f.nw z.nc, .slice z.ma f.nm z.mc]) ∧ FlQ QP w' z (f.cutO kk) ∧ Below Y.heap.size Y w') := fun X b d hX he Y hY => fileW ⟨b, d, na, nc, ma, mc⟩ (f.cutO kk) X ⟨he, (h.below QR.k hX).n, (h.below QR.k hX).m⟩ (Fl.cutO_thin kk ht) Y hY
  have HLW := Lib.hid (OK.out.cutO_law hk)
  have HHA : Hid (∀ a c X, IntsIn X (.slice a (pickN f.alO f.no).length c) (pickN f.alO f.no).length (nz (pickN f.alO f.no)) → Calls Tryz.prog 41 #[.slice a (pickN f.alO f.no).length c, .int .i64 (kk : Int)] X fun e w' => e = .returned (.bool (f.alO kk)) ∧ Below X.heap.size X w') := fun a c X hz => by
    have h := rHas_any a _ c _ (kk : Int) X hz (by have := pickN_len f.alO f.no; omega)
    rw [has_pick f.alO f.no kk hk] at h
    exact h
  have hms : f.most ≤ 8 := by
    have h1 := (mostR_bd f.g).2
    rw [OK.out.rMost] at h1; omega
  unfold GivesA at HC1
  clear h hr ht hf hft OK
  dsimp only at HTH HFI ⊢
  have hkk : kk < f.no + f.nw := by rw [← hmod]; exact Nat.mod_lt _ (by omega)
  have kw1 : IntKind.i64.wrap (wn : Int) = (wn : Int) := IntWalk.i64_in _ (by omega)
  have kt : (wn : Int).tmod ((f.no : Int) + (f.nw : Int)) = (kk : Int) := by
    rw [← hmod, show (f.no : Int) + (f.nw : Int) = ((f.no + f.nw : Nat) : Int) by omega, Int.tmod_eq_emod_of_nonneg (by omega)]; rfl
  have k0 : ¬ ((f.no : Int) + (f.nw : Int) = 0) := by omega
  have k0' : ((f.no : Int) + (f.nw : Int) == 0) = false := by simp; omega
  clear hmod
  generalize ((f.cutO kk).most : Int) = m2 at *
  generalize f.cutO kk = fx at *
  generalize f.most = m1 at *
  obtain ⟨al, hal⟩ : ∃ al, f.alO kk = al := ⟨_, rfl⟩
  rw [hal] at HLW HHA
  clear hal
  generalize f.alO = pO at *
  generalize f.alN = pN at *
  generalize f.O = fO at *
  generalize f.N = fN at *
  generalize f.no = no at *
  generalize f.nw = nw at *
  generalize f.nm = nm at *
  obtain ⟨n1, hn1⟩ : ∃ n1, no - 1 = n1 := ⟨_, rfl⟩
  rw [hn1] at HD2 HCU HTF
  clear hn1
  have HA := Lib.hid ((BF.base w).alloc #[.slice oa no oc, .slice na nw nc, .slice ma nm mc] 25)
  go_enter Tryz.func10, Tryz.ntmps10
  have c0 := HA.out.cell (.head _) 0
  have c1 := HA.out.cell (.head _) 1
  have c2 := HA.out.cell (.head _) 2
  go_wp2_with fail
  refine (HTH.out _ HA.out.fr).mono ?_
  rintro _ w1 ⟨rfl, hb⟩
  have HA' := Lib.hid (HA.out.below hb)
  clear HA
  have HA := HA'
  clear HA'
  clear hb c0 c1 c2
  have c0 := HA.out.cell (.head _) 0
  have c1 := HA.out.cell (.head _) 1
  have c2 := HA.out.cell (.head _) 2
  go_wp2_with fail
  refine (HFI.out _ HA.out.fr).mono ?_
  rintro _ w2 ⟨z, rfl, hq, hb⟩
  have HA' := Lib.hid (HA.out.below hb)
  clear HA
  have HA := HA'
  clear HA'
  have HQ := Lib.hid hq
  clear hq hb c0 c1 c2
  go_wp2_with fail
  refine (HC1.out z _ HQ.out).mono ?_
  rintro _ w3 ⟨a1, c1, a2, c2, rfl, ho, hn, hb⟩
  have HA' := Lib.hid (HA.out.below hb)
  clear HA
  have HA := HA'
  clear HA'
  have HO := Lib.hid ho
  clear ho
  have HN := Lib.hid hn
  clear hn
  clear hb
  clear HQ
  have c0 := HA.out.cell (.head _) 0
  have c1 := HA.out.cell (.head _) 1
  have c2 := HA.out.cell (.head _) 2
  have HA' := Lib.hid (HA.out.alloc #[.slice oa no oc, .slice na nw nc, .slice ma nm mc] 25)
  have HO' := Lib.hid (HO.out.below (below_alloc w3 (.cells #[.slice oa no oc, .slice na nw nc, .slice ma nm mc] 25)))
  have HN' := Lib.hid (HN.out.below (below_alloc w3 (.cells #[.slice oa no oc, .slice na nw nc, .slice ma nm mc] 25)))
  have hxl := (HA.out.lt (.head _)).2
  go_upto_region 6 with fail
  generalize w3.alloc (.cells #[.slice oa no oc, .slice na nw nc, .slice ma nm mc] 25) = ws at *
  generalize w3.heap.size = XB at *
  clear HA HO HN c0 c1 c2
  have HXB := Lib.hid hxl
  have HA := HA'
  have HO := HO'
  have HN := HN'
  clear HA' HO' HN'
  have c0 := HA.out.cell (.tail _ (.head _)) 0
  have c1 := HA.out.cell (.tail _ (.head _)) 1
  have kl : (kk : Int) < (no : Int) := by omega
  go_wp2_with fail
  refine (HCU.out _ HA.out.fr).mono ?_
  rintro _ y1 ⟨b, d, V, rfl, how, hqv, hb⟩
  have HQV := Lib.hid hqv
  have HW1 := Lib.hid how
  have hxs := (HA.out.lt (.head _)).2
  have HXS := Lib.hid hxs
  have HA' := Lib.hid (HA.out.below hb)
  clear HA
  have HA := HA'
  clear HA'
  have HO' := Lib.hid (HO.out.below hb)
  clear HO
  have HO := HO'
  clear HO'
  have HN' := Lib.hid (HN.out.below hb)
  clear HN
  have HN := HN'
  clear HN'
  clear hb how hqv c0 c1 hxs
  go_wp2_with fail
  refine (HHA.out _ _ _ HO.out).mono ?_
  rintro _ y2 ⟨rfl, hb⟩
  have HW2 := Lib.hid (own_below HW1.out hb)
  have HA' := Lib.hid (HA.out.below hb)
  clear HA
  have HA := HA'
  clear HA'
  clear hb HO HN HW1
  have e0 := HA.out.cell (.head _) 0
  have f0 := HA.out.thaw (.head _) 0
  have hxb := HXB.out
  have HA2 := Lib.hid (BF.set1 (i := 0) (cs' := #[.slice b n1 d, .slice na nw nc, .slice ma nm mc]) HA.out (.head _) (.slice b n1 d) (by simp) rfl (L' := [(w.heap.size, #[.slice oa no oc, .slice na nw nc, .slice ma nm mc], 25)]) (List.forall_mem_cons.2 ⟨⟨show w.heap.size ≠ XB by omega, (.tail _ (.head _))⟩, List.forall_mem_nil _⟩))
  have HW3 := Lib.hid (own_fr HW2.out (Fr.set y2 XB 0 (.slice b n1 d)) (fun g cur e1 e2 _ e3 => by have := HXS.out; omega))
  have HFX := Lib.hid (HTF.out _ b d HA2.out.fr (EsQ.own HW3.out (fun j hj => QR.k _ _ _ _ _ _ (HQV.out j hj) HA2.out.fr)))
  go_upto_region 10 with fail
  clear e0 f0 HW2 HW3 HQV HA HTF HCU HHA
  generalize y2.setCell ⟨XB, 0, none⟩ (.slice b n1 d) = y3 at *
  have HX0 : Hid (Below y3.heap.size y3 y3) := Below.refl _ _
  have c0 := HA2.out.cell (.tail _ (.head _)) 0
  have c1 := HA2.out.cell (.tail _ (.head _)) 1
  have c2 := HA2.out.cell (.tail _ (.head _)) 2
  have d0 := HA2.out.cell (.head _) 0
  have d1 := HA2.out.cell (.head _) 1
  have d2 := HA2.out.cell (.head _) 2
  go_wp2_with fail
  refine (HFI.out _ HA2.out.fr).mono ?_
  rintro _ x4 ⟨z, rfl, hq, hb⟩
  have HX0' := Lib.hid (HX0.out.trans (hb.mono HX0.out.size))
  clear HX0
  have HX0 := HX0'
  clear HX0'
  have HA2' := Lib.hid (HA2.out.below hb)
  clear HA2
  have HA2 := HA2'
  clear HA2'
  have HQ := Lib.hid hq
  clear hq
  clear hb c0 c1 c2 d0 d1 d2
  go_wp2_with fail
  refine (HC2.out z _ HQ.out).mono ?_
  rintro _ x5 ⟨rfl, hb⟩
  have HX0' := Lib.hid (HX0.out.trans (hb.mono HX0.out.size))
  clear HX0
  have HX0 := HX0'
  clear HX0'
  have HA2' := Lib.hid (HA2.out.below hb)
  clear HA2
  have HA2 := HA2'
  clear HA2'
  clear hb
  clear HQ
  have c0 := HA2.out.cell (.tail _ (.head _)) 0
  have c1 := HA2.out.cell (.tail _ (.head _)) 1
  have c2 := HA2.out.cell (.tail _ (.head _)) 2
  have d0 := HA2.out.cell (.head _) 0
  have d1 := HA2.out.cell (.head _) 1
  have d2 := HA2.out.cell (.head _) 2
  go_wp2_with fail
  refine (HFX.out _ HX0.out).mono ?_
  rintro _ x6 ⟨z, rfl, hq, hb⟩
  have HX0' := Lib.hid (HX0.out.trans (hb.mono HX0.out.size))
  clear HX0
  have HX0 := HX0'
  clear HX0'
  have HA2' := Lib.hid (HA2.out.below hb)
  clear HA2
  have HA2 := HA2'
  clear HA2'
  have HQ := Lib.hid hq
  clear hq
  clear hb c0 c1 c2 d0 d1 d2
  go_wp2_with fail
  refine (HD2.out z _ HQ.out).mono ?_
  rintro _ x7 ⟨rfl, hb⟩
  have HX0' := Lib.hid (HX0.out.trans (hb.mono HX0.out.size))
  clear HX0
  have HX0 := HX0'
  clear HX0'
  have HA2' := Lib.hid (HA2.out.below hb)
  clear HA2
  have HA2 := HA2'
  clear HA2'
  clear hb
  clear HQ
  cases al
  · have kf : ((m1 : Int) == m2) = true := by have h := HLW.out; simp at h; simp [h]
    clear HLW
    go_wp2_with fail
    refine (awake5_any _).mono ?_
    rintro _ w33 ⟨rfl, hb⟩
    have HA3 := Lib.hid (HA2.out.below hb)
    clear hb
    go_wp2_with fail
    go_ret
    exact ⟨rfl, HA3.out.fr⟩
  · have kf : ((m1 : Int) - 1 == m2) = true := by have h := HLW.out; simp at h; simp [h]
    have kw3 : IntKind.i64.wrap ((m1 : Int) - 1) = (m1 : Int) - 1 := IntWalk.i64_in _ (by omega)
    clear HLW
    go_wp2_with fail
    refine (awake5_any _).mono ?_
    rintro _ w33 ⟨rfl, hb⟩
    have HA3 := Lib.hid (HA2.out.below hb)
    clear hb
    go_wp2_with fail
    go_ret
    exact ⟨rfl, HA3.out.fr⟩
set_option maxRecDepth 100000 in
set_option maxHeartbeats 32000000 in
theorem linkRemoved_new (x : FV) (f : Fl) (wn : Nat) (kk kq : Nat) (w : World) (h : FlQ QR w x f) (hr : f.rdy = true) (hco : f.no ≤ x.oc) (hcn : f.nw ≤ x.nc) (hmod : wn % (f.no + f.nw) = kk) (hwn : wn < 256) (hk : kq < f.nw) (hkk2 : kk = f.no + kq) :
    Calls Tryz.prog 10 #[.agg #[.slice x.oa f.no x.oc, .slice x.na f.nw x.nc, .slice x.ma f.nm x.mc], .int .u8 (wn : Int)] w fun e w' => e = .returned (.bool true) ∧ Below w.heap.size w w' := by
  obtain ⟨oa, oc, na, nc, ma, mc⟩ := x
  obtain ⟨ht, hf⟩ := Fl.rdy_yes hr
  have HTH := Lib.hid (readyW ⟨oa, oc, na, nc, ma, mc⟩ f w h true hr)
  have HFI := Lib.hid (fileW ⟨oa, oc, na, nc, ma, mc⟩ f w h ht)
  have OK := Lib.hid (Fl.ok hf)
  have hno := OK.out.no
  have hnw := OK.out.nw
  have HC1 : Hid (∀ (z : FV) X, FlQ QP X z f → Calls Tryz.prog 27 #[.agg #[.slice z.oa f.no z.oc, .slice z.na f.nw z.nc, .slice z.ma f.nm z.mc]] X (GivesA X (pickN f.alO f.no) (pickN f.alN f.nw))) := fun z X hq => alwaysF_ok z f X hq hf
  have HC2 : Hid (∀ (z : FV) X, FlQ QP X z f → Calls Tryz.prog 42 #[.agg #[.slice z.oa f.no z.oc, .slice z.na f.nw z.nc, .slice z.ma f.nm z.mc]] X fun e w' => e = .returned (.tuple #[.int .i64 (f.most : Int), .int .i64 0]) ∧ Below X.heap.size X w') := fun z X hq => mostF_ok z f X hq hf
  have hft := (OK.out.cutN kq).fault
  have HD2 : Hid (∀ (z : FV) X, FlQ QP X z (f.cutN kq) → Calls Tryz.prog 42 #[.agg #[.slice z.oa f.no z.oc, .slice z.na (f.nw - 1) z.nc, .slice z.ma f.nm z.mc]] X fun e w' => e = .returned (.tuple #[.int .i64 ((f.cutN kq).most : Int), .int .i64 0]) ∧ Below X.heap.size X w') := fun z X hq => mostF_ok z (f.cutN kq) X hq hft
  have HCU := Lib.hid (fun X (hX : Below w.heap.size w X) => cut_own na f.nw nc f.N kq w X hX h.n hk (by omega) hcn)
  have HTF : Hid (∀ X b d, Below w.heap.size w X → EsQ QR X (.slice b (f.nw - 1) d) (f.nw - 1) (cutE f.N kq) → ∀ Y, Below X.heap.size X Y → Calls Tryz.prog 21 #[.agg #[.slice oa f.no oc, .slice b (f.nw - 1) d, .slice ma f.nm mc]] Y fun e w' => ∃ z : FV, e = .returned (.agg #[.slice z.oa f.no z.oc, .slice z.na (f.nw - 1) z.nc, .slice z.ma f.nm z.mc]) ∧ FlQ QP w' z (f.cutN kq) ∧ Below Y.heap.size Y w') := fun X b d hX he Y hY => fileW ⟨oa, oc, b, d, ma, mc⟩ (f.cutN kq) X ⟨(h.below QR.k hX).o, he, (h.below QR.k hX).m⟩ (Fl.cutN_thin kq ht) Y hY
  have HLW := Lib.hid (OK.out.cutN_law hk)
  have HHA : Hid (∀ a c X, IntsIn X (.slice a (pickN f.alN f.nw).length c) (pickN f.alN f.nw).length (nz (pickN f.alN f.nw)) → Calls Tryz.prog 41 #[.slice a (pickN f.alN f.nw).length c, .int .i64 (kq : Int)] X fun e w' => e = .returned (.bool (f.alN kq)) ∧ Below X.heap.size X w') := fun a c X hz => by
    have h := rHas_any a _ c _ (kq : Int) X hz (by have := pickN_len f.alN f.nw; omega)
    rw [has_pick f.alN f.nw kq hk] at h
    exact h
  have hms : f.most ≤ 8 := by
    have h1 := (mostR_bd f.g).2
    rw [OK.out.rMost] at h1; omega
  unfold GivesA at HC1
  clear h hr ht hf hft OK
  dsimp only at HTH HFI ⊢
  have hkk : kk < f.no + f.nw := by rw [← hmod]; exact Nat.mod_lt _ (by omega)
  have kw1 : IntKind.i64.wrap (wn : Int) = (wn : Int) := IntWalk.i64_in _ (by omega)
  have kt : (wn : Int).tmod ((f.no : Int) + (f.nw : Int)) = (kk : Int) := by
    rw [← hmod, show (f.no : Int) + (f.nw : Int) = ((f.no + f.nw : Nat) : Int) by omega, Int.tmod_eq_emod_of_nonneg (by omega)]; rfl
  have k0 : ¬ ((f.no : Int) + (f.nw : Int) = 0) := by omega
  have k0' : ((f.no : Int) + (f.nw : Int) == 0) = false := by simp; omega
  clear hmod
  have HKK := Lib.hid hkk2
  clear hkk2
  generalize ((f.cutN kq).most : Int) = m2 at *
  generalize f.cutN kq = fx at *
  generalize f.most = m1 at *
  obtain ⟨al, hal⟩ : ∃ al, f.alN kq = al := ⟨_, rfl⟩
  rw [hal] at HLW HHA
  clear hal
  generalize f.alO = pO at *
  generalize f.alN = pN at *
  generalize f.O = fO at *
  generalize f.N = fN at *
  generalize f.no = no at *
  generalize f.nw = nw at *
  generalize f.nm = nm at *
  obtain ⟨n1, hn1⟩ : ∃ n1, nw - 1 = n1 := ⟨_, rfl⟩
  rw [hn1] at HD2 HCU HTF
  clear hn1
  have HA := Lib.hid ((BF.base w).alloc #[.slice oa no oc, .slice na nw nc, .slice ma nm mc] 25)
  go_enter Tryz.func10, Tryz.ntmps10
  have c0 := HA.out.cell (.head _) 0
  have c1 := HA.out.cell (.head _) 1
  have c2 := HA.out.cell (.head _) 2
  go_wp2_with fail
  refine (HTH.out _ HA.out.fr).mono ?_
  rintro _ w1 ⟨rfl, hb⟩
  have HA' := Lib.hid (HA.out.below hb)
  clear HA
  have HA := HA'
  clear HA'
  clear hb c0 c1 c2
  have c0 := HA.out.cell (.head _) 0
  have c1 := HA.out.cell (.head _) 1
  have c2 := HA.out.cell (.head _) 2
  go_wp2_with fail
  refine (HFI.out _ HA.out.fr).mono ?_
  rintro _ w2 ⟨z, rfl, hq, hb⟩
  have HA' := Lib.hid (HA.out.below hb)
  clear HA
  have HA := HA'
  clear HA'
  have HQ := Lib.hid hq
  clear hq hb c0 c1 c2
  go_wp2_with fail
  refine (HC1.out z _ HQ.out).mono ?_
  rintro _ w3 ⟨a1, c1, a2, c2, rfl, ho, hn, hb⟩
  have HA' := Lib.hid (HA.out.below hb)
  clear HA
  have HA := HA'
  clear HA'
  have HO := Lib.hid ho
  clear ho
  have HN := Lib.hid hn
  clear hn
  clear hb
  clear HQ
  have c0 := HA.out.cell (.head _) 0
  have c1 := HA.out.cell (.head _) 1
  have c2 := HA.out.cell (.head _) 2
  have kq2 : IntKind.i64.wrap ((kk : Int) - (no : Int)) = (kq : Int) := (IntWalk.i64_in _ (by have := HKK.out; omega)).trans (by have := HKK.out; omega)
  have HA' := Lib.hid (HA.out.alloc #[.slice oa no oc, .slice na nw nc, .slice ma nm mc] 25)
  have HO' := Lib.hid (HO.out.below (below_alloc w3 (.cells #[.slice oa no oc, .slice na nw nc, .slice ma nm mc] 25)))
  have HN' := Lib.hid (HN.out.below (below_alloc w3 (.cells #[.slice oa no oc, .slice na nw nc, .slice ma nm mc] 25)))
  have hxl := (HA.out.lt (.head _)).2
  go_upto_region 6 with fail
  generalize w3.alloc (.cells #[.slice oa no oc, .slice na nw nc, .slice ma nm mc] 25) = ws at *
  generalize w3.heap.size = XB at *
  clear HA HO HN c0 c1 c2
  have HXB := Lib.hid hxl
  have HA := HA'
  have HO := HO'
  have HN := HN'
  clear HA' HO' HN'
  have c0 := HA.out.cell (.tail _ (.head _)) 0
  have c1 := HA.out.cell (.tail _ (.head _)) 1
  have kl : ¬ ((kk : Int) < (no : Int)) := by have := HKK.out; omega
  go_wp2_with fail
  refine (HCU.out _ HA.out.fr).mono ?_
  rintro _ y1 ⟨b, d, V, rfl, how, hqv, hb⟩
  have HQV := Lib.hid hqv
  have HW1 := Lib.hid how
  have hxs := (HA.out.lt (.head _)).2
  have HXS := Lib.hid hxs
  have HA' := Lib.hid (HA.out.below hb)
  clear HA
  have HA := HA'
  clear HA'
  have HO' := Lib.hid (HO.out.below hb)
  clear HO
  have HO := HO'
  clear HO'
  have HN' := Lib.hid (HN.out.below hb)
  clear HN
  have HN := HN'
  clear HN'
  clear hb how hqv c0 c1 hxs
  go_wp2_with fail
  refine (HHA.out _ _ _ HN.out).mono ?_
  rintro _ y2 ⟨rfl, hb⟩
  have HW2 := Lib.hid (own_below HW1.out hb)
  have HA' := Lib.hid (HA.out.below hb)
  clear HA
  have HA := HA'
  clear HA'
  clear hb HO HN HW1
  have e0 := HA.out.cell (.head _) 1
  have f0 := HA.out.thaw (.head _) 1
  have hxb := HXB.out
  have HA2 := Lib.hid (BF.set1 (i := 1) (cs' := #[.slice oa no oc, .slice b n1 d, .slice ma nm mc]) HA.out (.head _) (.slice b n1 d) (by simp) rfl (L' := [(w.heap.size, #[.slice oa no oc, .slice na nw nc, .slice ma nm mc], 25)]) (List.forall_mem_cons.2 ⟨⟨show w.heap.size ≠ XB by omega, (.tail _ (.head _))⟩, List.forall_mem_nil _⟩))
  have HW3 := Lib.hid (own_fr HW2.out (Fr.set y2 XB 1 (.slice b n1 d)) (fun g cur e1 e2 _ e3 => by have := HXS.out; omega))
  have HFX := Lib.hid (HTF.out _ b d HA2.out.fr (EsQ.own HW3.out (fun j hj => QR.k _ _ _ _ _ _ (HQV.out j hj) HA2.out.fr)))
  go_upto_region 10 with fail
  clear e0 f0 HW2 HW3 HQV HA HTF HCU HHA
  generalize y2.setCell ⟨XB, 1, none⟩ (.slice b n1 d) = y3 at *
  have HX0 : Hid (Below y3.heap.size y3 y3) := Below.refl _ _
  have c0 := HA2.out.cell (.tail _ (.head _)) 0
  have c1 := HA2.out.cell (.tail _ (.head _)) 1
  have c2 := HA2.out.cell (.tail _ (.head _)) 2
  have d0 := HA2.out.cell (.head _) 0
  have d1 := HA2.out.cell (.head _) 1
  have d2 := HA2.out.cell (.head _) 2
  go_wp2_with fail
  refine (HFI.out _ HA2.out.fr).mono ?_
  rintro _ x4 ⟨z, rfl, hq, hb⟩
  have HX0' := Lib.hid (HX0.out.trans (hb.mono HX0.out.size))
  clear HX0
  have HX0 := HX0'
  clear HX0'
  have HA2' := Lib.hid (HA2.out.below hb)
  clear HA2
  have HA2 := HA2'
  clear HA2'
  have HQ := Lib.hid hq
  clear hq
  clear hb c0 c1 c2 d0 d1 d2
  go_wp2_with fail
  refine (HC2.out z _ HQ.out).mono ?_
  rintro _ x5 ⟨rfl, hb⟩
  have HX0' := Lib.hid (HX0.out.trans (hb.mono HX0.out.size))
  clear HX0
  have HX0 := HX0'
  clear HX0'
  have HA2' := Lib.hid (HA2.out.below hb)
  clear HA2
  have HA2 := HA2'
  clear HA2'
  clear hb
  clear HQ
  have c0 := HA2.out.cell (.tail _ (.head _)) 0
  have c1 := HA2.out.cell (.tail _ (.head _)) 1
  have c2 := HA2.out.cell (.tail _ (.head _)) 2
  have d0 := HA2.out.cell (.head _) 0
  have d1 := HA2.out.cell (.head _) 1
  have d2 := HA2.out.cell (.head _) 2
  go_wp2_with fail
  refine (HFX.out _ HX0.out).mono ?_
  rintro _ x6 ⟨z, rfl, hq, hb⟩
  have HX0' := Lib.hid (HX0.out.trans (hb.mono HX0.out.size))
  clear HX0
  have HX0 := HX0'
  clear HX0'
  have HA2' := Lib.hid (HA2.out.below hb)
  clear HA2
  have HA2 := HA2'
  clear HA2'
  have HQ := Lib.hid hq
  clear hq
  clear hb c0 c1 c2 d0 d1 d2
  go_wp2_with fail
  refine (HD2.out z _ HQ.out).mono ?_
  rintro _ x7 ⟨rfl, hb⟩
  have HX0' := Lib.hid (HX0.out.trans (hb.mono HX0.out.size))
  clear HX0
  have HX0 := HX0'
  clear HX0'
  have HA2' := Lib.hid (HA2.out.below hb)
  clear HA2
  have HA2 := HA2'
  clear HA2'
  clear hb
  clear HQ
  cases al
  · have kf : ((m1 : Int) == m2) = true := by have h := HLW.out; simp at h; simp [h]
    clear HLW
    go_wp2_with fail
    refine (awake5_any _).mono ?_
    rintro _ w33 ⟨rfl, hb⟩
    have HA3 := Lib.hid (HA2.out.below hb)
    clear hb
    go_wp2_with fail
    go_ret
    exact ⟨rfl, HA3.out.fr⟩
  · have kf : ((m1 : Int) - 1 == m2) = true := by have h := HLW.out; simp at h; simp [h]
    have kw3 : IntKind.i64.wrap ((m1 : Int) - 1) = (m1 : Int) - 1 := IntWalk.i64_in _ (by omega)
    clear HLW
    go_wp2_with fail
    refine (awake5_any _).mono ?_
    rintro _ w33 ⟨rfl, hb⟩
    have HA3 := Lib.hid (HA2.out.below hb)
    clear hb
    go_wp2_with fail
    go_ret
    exact ⟨rfl, HA3.out.fr⟩
theorem linkRemoved_walk (x : FV) (f : Fl) (wn : Nat) (hwn : wn < 256) (w : World) (h : FlLaw w x f) : Calls Tryz.prog 10 #[.agg #[.slice x.oa f.no x.oc, .slice x.na f.nw x.nc, .slice x.ma f.nm x.mc], .int .u8 (wn : Int)] w fun e w' => e = .returned (.bool true) ∧ Below w.heap.size w w' := by
  cases hr : f.rdy
  · exact linkRemoved_thick x f wn w h.l hr
  · by_cases h0 : f.no + f.nw = 0
    · exact linkRemoved_none x f wn w h.l hr h0
    · have hm := Nat.mod_lt wn (show 0 < f.no + f.nw by omega)
      by_cases hk : wn % (f.no + f.nw) < f.no
      · exact linkRemoved_old x f wn _ w h.l hr h.co h.cn rfl hwn hk
      · exact linkRemoved_new x f wn _ (wn % (f.no + f.nw) - f.no) w h.l hr h.co h.cn rfl hwn (by omega) (by omega)
end Go.Proofs.YtgbdbikjckfgmaaGreat
