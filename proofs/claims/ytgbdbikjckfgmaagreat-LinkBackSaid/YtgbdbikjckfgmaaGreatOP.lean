/- Link: the law's turned; LinkBack's walk. Printed by gen_op.py. -/
import Derived.Test.YtgbdbikjckfgmaaGreatOO
namespace Go.Proofs.YtgbdbikjckfgmaaGreat
open Go.RowKit Go.Shelf

set_option maxRecDepth 100000 in
set_option maxHeartbeats 8000000 in
theorem turned_yes (L1 L2 : List (Int × Int)) (a b : Option Addr) (c d : Nat) (w : World) (h1 : SkIn w (.slice a L1.length c) L1) (h2 : SkIn w (.slice b L2.length d) L2) (hl : L1.length = L2.length) (hs : ∀ x, x ∈ L1 → (x.2, x.1) ∈ L2) (hn : L1.length ≤ 100000) :
    Calls Tryz.prog 39 #[.slice a L1.length c, .slice b L2.length d] w fun e w' => e = .returned (.bool true) ∧ Below w.heap.size w w' := by
  have HS := Lib.hid h1
  have HHA := Lib.hid (fun o k X (hX : Below w.heap.size w X) => has_list L2 b d o k X (h2.below hX) (by omega))
  have HM : Hid (∀ j, j < L1.length → ((L1.getD j (0, 0)).2, (L1.getD j (0, 0)).1) ∈ L2) := fun j hj => hs _ (by rw [List.getD_eq_getElem?_getD, List.getElem?_eq_getElem hj]; exact List.getElem_mem hj)
  have kl : ((L1.length : Int) == (L2.length : Int)) = true := by rw [hl]; simp
  clear h1 h2 hl hs
  go_enter Tryz.func39, Tryz.ntmps39
  go_wp2_with fail
  go_loopw [5] (fun v wr => ∃ j : Nat, v = .int .i64 (j : Int) ∧ j ≤ L1.length ∧ Below w.heap.size w wr) (fun v _ => L1.length - (intOf v).toNat)
  case atStart => exact ⟨0, rfl, Nat.zero_le _, Below.refl _ _⟩
  case round =>
    obtain ⟨j, rfl, hj, hbl⟩ := hrel
    rename World => wx
    have HAB : Hid (BF w wx []) := (BF.base w).below hbl
    clear hbl
    by_cases hlt : j < L1.length
    · obtain ⟨lb, lo, rfl, hlb, hx0, hx1⟩ := RsIn.at HS.out hlt
      have HH := Lib.hid (fun X (hX : Below w.heap.size w X) => HHA.out (L1.getD j (0, 0)).2 (L1.getD j (0, 0)).1 X hX)
      rw [decide_eq_true (HM.out j hlt)] at HH
      generalize (L1.getD j (0, 0)).1 = o at *
      generalize (L1.getD j (0, 0)).2 = k at *
      have HLC : Hid (∀ X, Below w.heap.size w X → X.cell? ⟨lb, lo + j * 2, none⟩ = some (.int .i64 o) ∧ X.cell? ⟨lb, lo + j * 2 + 1, none⟩ = some (.int .i64 k)) := fun X hX => ⟨kept hX hlb hx0, kept hX hlb hx1⟩
      clear hx0 hx1
      have ki : (0 : Int) ≤ (j : Int) := by omega
      have kj : (j : Int) < (L1.length : Int) := by omega
      go_upto_region 4 with fail
      have HAX : Hid (BF w wx.drew []) := HAB.out.below (Below.refl _ _).drew
      clear HAB
      refine wp_region_Z (S := fun X => X.cell? ⟨lb, lo + j * 2, none⟩ = some (.int .i64 o) ∧ X.cell? ⟨lb, lo + j * 2 + 1, none⟩ = some (.int .i64 k)) (by kernel_rfl) (⟨(HLC.out _ HAX.out.fr).1, (HLC.out _ HAX.out.fr).2⟩) (fun hS => ?_)
      generalize wx.drew = X at *
      refine wpAnyZ_take (i := 0) (oi := ⟨some 12, _, _, _, _, _⟩) (v := ?_) rfl (by kernel_rfl) (by kernel_rfl) (by kernel_rfl) (fun _ _ _ h => h) (Or.inl ⟨by rfl, ?_⟩) hS ?_
      rotate_left
      · rintro W' ⟨z0, z1⟩; go_simp; try with_reducible rfl
      try simp only [Act.put, putA, putZ, putS]
      refine wpAnyZ_take (i := 1) (oi := ⟨some 13, _, _, _, _, _⟩) (v := ?_) rfl (by kernel_rfl) (by kernel_rfl) (by kernel_rfl) (fun _ _ _ h => h) (Or.inl ⟨by rfl, ?_⟩) hS ?_
      rotate_left
      · rintro W' ⟨z0, z1⟩; go_simp; try with_reducible rfl
      try simp only [Act.put, putA, putZ, putS]
      refine wpAnyZ_take (i := 2) (oi := ⟨some 14, _, _, _, _, _⟩) (v := ?_) rfl (by kernel_rfl) (by kernel_rfl) (by kernel_rfl) (fun _ _ _ h => h) (Or.inl ⟨by rfl, ?_⟩) hS ?_
      rotate_left
      · rintro W' ⟨z0, z1⟩; go_simp; try with_reducible rfl
      try simp only [Act.put, putA, putZ, putS]
      refine wpAnyZ_take (i := 3) (oi := ⟨some 15, _, _, _, _, _⟩) (v := ?_) rfl (by kernel_rfl) (by kernel_rfl) (by kernel_rfl) (fun _ _ _ h => h) (Or.inl ⟨by rfl, ?_⟩) hS ?_
      rotate_left
      · rintro W' ⟨z0, z1⟩; go_simp; try with_reducible rfl
      try simp only [Act.put, putA, putZ, putS]
      refine wpAnyZ_take (i := 4) (oi := ⟨some 16, _, _, _, _, _⟩) (v := ?_) rfl (by kernel_rfl) (by kernel_rfl) (by kernel_rfl) (fun _ _ _ h => h) (Or.inl ⟨by rfl, ?_⟩) hS ?_
      rotate_left
      · rintro W' ⟨z0, z1⟩; go_simp; try with_reducible rfl
      try simp only [Act.put, putA, putZ, putS]
      refine wpAnyZ_take (i := 5) (oi := ⟨some 17, _, _, _, _, _⟩) (v := ?_) rfl (by kernel_rfl) (by kernel_rfl) (by kernel_rfl) (fun _ _ _ h => h) (Or.inl ⟨by rfl, ?_⟩) hS ?_
      rotate_left
      · rintro W' ⟨z0, z1⟩; go_simp; try with_reducible rfl
      try simp only [Act.put, putA, putZ, putS]
      refine wpAnyZ_take (i := 6) (oi := ⟨some 18, _, _, _, _, _⟩) (v := ?_) rfl (by kernel_rfl) (by kernel_rfl) (by kernel_rfl) (fun _ _ _ h => h) (Or.inl ⟨by rfl, ?_⟩) hS ?_
      rotate_left
      · rintro W' ⟨z0, z1⟩; go_simp; try with_reducible rfl
      try simp only [Act.put, putA, putZ, putS]
      refine wpAnyZ_take (i := 7) (oi := ⟨some 19, _, _, _, _, _⟩) (v := ?_) rfl (by kernel_rfl) (by kernel_rfl) (by kernel_rfl) (fun _ _ _ h => h) (Or.inl ⟨by rfl, ?_⟩) hS ?_
      rotate_left
      · rintro W' ⟨z0, z1⟩; go_simp; try with_reducible rfl
      try simp only [Act.put, putA, putZ, putS]
      refine wpAnyZ_take (i := 8) (oi := ⟨some 20, _, _, _, _, _⟩) (v := ?_) rfl (by kernel_rfl) (by kernel_rfl) (by kernel_rfl) (fun _ _ _ h => h) (Or.inl ⟨by rfl, ?_⟩) hS ?_
      rotate_left
      · rintro W' ⟨z0, z1⟩; go_simp; try with_reducible rfl
      try simp only [Act.put, putA, putZ, putS]
      refine wpAnyZ_take (i := 9) (oi := ⟨some 21, _, _, _, _, _⟩) (v := ?_) rfl (by kernel_rfl) (by kernel_rfl) (by kernel_rfl) (fun _ _ _ h => h) (Or.inl ⟨by rfl, ?_⟩) hS ?_
      rotate_left
      · rintro W' ⟨z0, z1⟩; go_simp; try with_reducible rfl
      try simp only [Act.put, putA, putZ, putS]
      refine wpAnyZ_take (i := 10) (oi := ⟨some 22, _, _, _, _, _⟩) (v := ?_) rfl (by kernel_rfl) (by kernel_rfl) (by kernel_rfl) (fun _ _ _ h => h) (Or.inl ⟨by rfl, ?_⟩) hS ?_
      rotate_left
      · rintro W' ⟨z0, z1⟩; go_simp; try with_reducible rfl
      try simp only [Act.put, putA, putZ, putS]
      refine wpAnyZ_next (rs := [11]) (by kernel_rfl) (by simp) ?_
      refine NextZ.cons (o := ⟨some 23, _, _, _, _, _⟩) rfl (fun K hK => ?_) ?_
      ·
       go_simp
       refine (HH.out _ HAX.out.fr).mono ?_
       rintro _ X0 ⟨rfl, hb0⟩
       (try go_wp2_with fail)
       have HA0 := Lib.hid (HAX.out.below hb0)
       refine hK.out _ _ (⟨(HLC.out _ HA0.out.fr).1, (HLC.out _ HA0.out.fr).2⟩) (fun hS => ?_)
       clear hK K
       try simp only [Act.put, putA, putZ, putS]
       clear hb0
       refine wpAnyZ_take (i := 12) (oi := ⟨some 24, _, _, _, _, _⟩) (v := ?_) rfl (by kernel_rfl) (by kernel_rfl) (by kernel_rfl) (fun _ _ _ h => h) (Or.inl ⟨by rfl, ?_⟩) hS ?_
       rotate_left
       · rintro W' ⟨z0, z1⟩; go_simp; try with_reducible rfl
       try simp only [Act.put, putA, putZ, putS]
       refine wpAnyZ_done (by kernel_rfl) ?_ _
       have HX2 := Lib.hid (HA0.out)
       go_wp2_with fail
       go_roundw
       case rel => exact ⟨j + 1, by go_num, by omega, HX2.out.fr⟩
       case measure => simp [intOf]; omega
      exact NextZ.nil
    · go_wp2_with fail
      go_ret
      exact ⟨rfl, HAB.out.fr⟩
set_option maxRecDepth 100000 in
set_option maxHeartbeats 32000000 in
theorem linkBack_thick (x : FV) (f : Fl) (w : World) (h : FlQ QR w x f) (ht : f.rdy = false) :
    Calls Tryz.prog 8 #[.agg #[.slice x.oa f.no x.oc, .slice x.na f.nw x.nc, .slice x.ma f.nm x.mc]] w fun e w' => e = .returned (.bool true) ∧ Below w.heap.size w w' := by
  obtain ⟨oa, oc, na, nc, ma, mc⟩ := x
  have HTH := Lib.hid (readyW ⟨oa, oc, na, nc, ma, mc⟩ f w h false ht)
  clear h ht
  dsimp only at HTH ⊢
  generalize f.no = no at *
  generalize f.nw = nw at *
  generalize f.nm = nm at *
  have HA := Lib.hid ((BF.base w).alloc #[.slice oa no oc, .slice na nw nc, .slice ma nm mc] 25)
  go_enter Tryz.func8, Tryz.ntmps8
  have c0 := HA.out.cell (.head _) 0
  have c1 := HA.out.cell (.head _) 1
  have c2 := HA.out.cell (.head _) 2
  go_wp2_with fail
  refine (HTH.out _ HA.out.fr).mono ?_
  rintro _ w1 ⟨rfl, hb⟩
  have HA' := Lib.hid (HA.out.below hb)
  clear HA
  have HA := HA'
  clear HA'
  clear hb c0 c1 c2
  go_wp2_with fail
  refine (awake5_any _).mono ?_
  rintro _ w2 ⟨rfl, hb⟩
  have HA' := Lib.hid (HA.out.below hb)
  clear HA
  have HA := HA'
  clear HA'
  clear hb
  go_wp2_with fail
  go_ret
  exact ⟨rfl, HA.out.fr⟩
theorem Tryz.infoRMove : (Tryz.prog.info? 63).map (fun i => (i.zero, i.size, i.bytes)) = some (some (.agg #[.int .i64 0, .int .i64 0]), 2, 16) := by kernel_rfl
set_option maxRecDepth 100000 in
set_option maxHeartbeats 32000000 in
theorem linkBack_ok (x : FV) (f : Fl) (w : World) (h : FlQ QR w x f) (hr : f.rdy = true) :
    Calls Tryz.prog 8 #[.agg #[.slice x.oa f.no x.oc, .slice x.na f.nw x.nc, .slice x.ma f.nm x.mc]] w fun e w' => e = .returned (.bool true) ∧ Below w.heap.size w w' := by
  obtain ⟨oa, oc, na, nc, ma, mc⟩ := x
  obtain ⟨ht, hf⟩ := Fl.rdy_yes hr
  have HTH := Lib.hid (readyW ⟨oa, oc, na, nc, ma, mc⟩ f w h true hr)
  have HFI := Lib.hid (fileW ⟨oa, oc, na, nc, ma, mc⟩ f w h ht)
  have OK := Lib.hid (Fl.ok hf)
  have hno := OK.out.no
  have hnw := OK.out.nw
  have hnm := OK.out.nm
  obtain ⟨i0, hi0, hz0, hz1, hz2⟩ := info_parts Tryz.infoRMove
  have HC1 : Hid (∀ (z : FV) X, FlQ QP X z f → Calls Tryz.prog 22 #[.agg #[.slice z.oa f.no z.oc, .slice z.na f.nw z.nc, .slice z.ma f.nm z.mc]] X (GivesP X (dL f.g f.nw f.no))) := fun z X hq => by rw [dL_g]; exact pairs_ok z f X hq hf
  have HC2 : Hid (∀ (z : FV) X, FlQ QP X z f → Calls Tryz.prog 37 #[.agg #[.slice z.oa f.no z.oc, .slice z.na f.nw z.nc, .slice z.ma f.nm z.mc]] X (GivesP X (dL f.qS f.nw f.no))) := fun z X hq => by rw [← chL_S]; exact sureF_ok z f X hq hf
  have HC3 : Hid (∀ (z : FV) X, FlQ QP X z f → Calls Tryz.prog 35 #[.agg #[.slice z.oa f.no z.oc, .slice z.na f.nw z.nc, .slice z.ma f.nm z.mc]] X (GivesP X (dL f.qP f.nw f.no))) := fun z X hq => by rw [← chL_P]; exact possF_ok z f X hq hf
  have hft := OK.out.turn.fault
  have HD1 : Hid (∀ (z : FV) X, FlQ QP X z f.turn → Calls Tryz.prog 22 #[.agg #[.slice z.oa f.nw z.oc, .slice z.na f.no z.nc, .slice z.ma f.nm z.mc]] X (GivesP X (dL f.turn.g f.no f.nw))) := fun z X hq => by have h := pairs_ok z f.turn X hq hft; rw [← dL_g] at h; exact h
  have HD2 : Hid (∀ (z : FV) X, FlQ QP X z f.turn → Calls Tryz.prog 37 #[.agg #[.slice z.oa f.nw z.oc, .slice z.na f.no z.nc, .slice z.ma f.nm z.mc]] X (GivesP X (dL f.turn.qS f.no f.nw))) := fun z X hq => by have h := sureF_ok z f.turn X hq hft; rw [chL_S] at h; exact h
  have HD3 : Hid (∀ (z : FV) X, FlQ QP X z f.turn → Calls Tryz.prog 35 #[.agg #[.slice z.oa f.nw z.oc, .slice z.na f.no z.nc, .slice z.ma f.nm z.mc]] X (GivesP X (dL f.turn.qP f.no f.nw))) := fun z X hq => by have h := possF_ok z f.turn X hq hft; rw [chL_P] at h; exact h
  have HTF : Hid (∀ X va vc, Below w.heap.size w X → RsIn X (.slice va f.nm vc) f.nm f.mt f.mf → ∀ Y, Below X.heap.size X Y → Calls Tryz.prog 21 #[.agg #[.slice na f.nw nc, .slice oa f.no oc, .slice va f.nm vc]] Y fun e w' => ∃ z : FV, e = .returned (.agg #[.slice z.oa f.nw z.oc, .slice z.na f.no z.nc, .slice z.ma f.nm z.mc]) ∧ FlQ QP w' z f.turn ∧ Below Y.heap.size Y w') := fun X va vc hX hm Y hY => fileW ⟨na, nc, oa, oc, va, vc⟩ f.turn X ⟨(h.below QR.k hX).n, (h.below QR.k hX).o, hm⟩ (Fl.turn_thin ht) Y hY
  have HMV : Hid (∀ X, Below w.heap.size w X → RsIn X (.slice ma f.nm mc) f.nm f.mf f.mt) := fun X hX => (h.below QR.k hX).m
  have HL1 : Hid (∀ i k, f.turn.g k i = f.g i k) := fun i k => by rw [OK.out.turn_g]; rfl
  have HL2 := Lib.hid (fun i k => OK.out.turn_qS i k)
  have HL3 := Lib.hid (fun i k => OK.out.turn_qP i k)
  have HB1 := Lib.hid (dL_len f.g f.nw f.no)
  have HB2 := Lib.hid (dL_len f.qS f.nw f.no)
  have HB3 := Lib.hid (dL_len f.qP f.nw f.no)
  have hm8 : f.nw * f.no ≤ 8 * 8 := Nat.mul_le_mul hnw hno
  unfold GivesP at HC1 HC2 HC3 HD1 HD2 HD3
  clear h hr ht hf hft OK
  dsimp only at HTH HFI ⊢
  generalize f.turn.g = g' at *
  generalize f.turn.qS = s' at *
  generalize f.turn.qP = p' at *
  generalize f.turn = ft at *
  generalize f.g = g at *
  generalize f.qS = s at *
  generalize f.qP = p at *
  generalize f.mf = mf at *
  generalize f.mt = mt at *
  generalize f.no = no at *
  generalize f.nw = nw at *
  generalize f.nm = nm at *
  have HA := Lib.hid ((BF.base w).alloc #[.slice oa no oc, .slice na nw nc, .slice ma nm mc] 25)
  go_enter Tryz.func8, Tryz.ntmps8
  have c0 := HA.out.cell (.head _) 0
  have c1 := HA.out.cell (.head _) 1
  have c2 := HA.out.cell (.head _) 2
  go_wp2_with fail
  refine (HTH.out _ HA.out.fr).mono ?_
  rintro _ w1 ⟨rfl, hb⟩
  have HA' := Lib.hid (HA.out.below hb)
  clear HA
  have HA := HA'
  clear HA'
  clear hb c0 c1 c2
  have c0 := HA.out.cell (.head _) 0
  have c1 := HA.out.cell (.head _) 1
  have c2 := HA.out.cell (.head _) 2
  go_wp2_with fail
  have HA0 := Lib.hid (HA.out.alloc #[.slice na nw nc, .slice oa no oc, .slice none 0 0] 25)
  have hxl := (HA.out.lt (.head _)).2
  generalize w1.alloc (.cells #[.slice na nw nc, .slice oa no oc, .slice none 0 0] 25) = ws at *
  have hxs := (HA0.out.lt (.head _)).2
  generalize w1.heap.size = XB at *
  obtain ⟨bs, hbs⟩ : ∃ bs, ws.heap.size = bs := ⟨_, rfl⟩
  rw [hbs] at hxs
  have HXB : Hid (XB < bs ∧ w.heap.size < XB) := ⟨hxs, hxl⟩
  have HSZ : Hid (bs ≤ ws.heap.size) := Nat.le_of_eq hbs.symm
  clear hbs hxs hxl HA c0 c1 c2 HTH
  go_loopw [4] (fun v wr => ∃ (i : Nat) (va : Option Addr) (vc : Nat), v = .int .i64 (i : Int) ∧ i ≤ nm ∧ BF w wr [(XB, #[.slice na nw nc, .slice oa no oc, .slice va i vc], 25), (w.heap.size, #[.slice oa no oc, .slice na nw nc, .slice ma nm mc], 25)] ∧ wr.ownsRow bs 63 2 (.slice va i vc) i (mvL mt mf i) ∧ bs ≤ wr.heap.size) (fun v _ => nm - (intOf v).toNat)
  case atStart => exact ⟨0, none, 0, rfl, Nat.zero_le _, HA0.out, World.ownsRow_nil _ _ _ _, HSZ.out⟩
  case round =>
    clear HA0 HSZ
    obtain ⟨i, va, vc, rfl, hi, hbf, hown, hsb⟩ := hrel
    rename World => wx
    have HA := Lib.hid hbf
    have HO0 := Lib.hid hown
    have HSB0 := Lib.hid hsb
    clear hbf hown hsb
    have c2 := HA.out.cell (.tail _ (.head _)) 2
    by_cases hlt : i < nm
    · obtain ⟨mb, mo, rfl, hmb, _, _⟩ := (HMV.out _ (Below.refl _ _)).at hlt
      have HMC0 : Hid (∀ X, Below w.heap.size w X → X.cell? ⟨mb, mo + i * 2, none⟩ = some (.int .i64 (mf i)) ∧ X.cell? ⟨mb, mo + i * 2 + 1, none⟩ = some (.int .i64 (mt i))) := fun X hX => by
        obtain ⟨b', o', e, _, q0, q1⟩ := (HMV.out X hX).at hlt
        cases e
        exact ⟨q0, q1⟩
      obtain ⟨mfi, hmf⟩ : ∃ v, mf i = v := ⟨_, rfl⟩
      obtain ⟨mti, hmt⟩ : ∃ v, mt i = v := ⟨_, rfl⟩
      have HMI : Hid (mt i = mti ∧ mf i = mfi) := ⟨hmt, hmf⟩
      have HMC := HMC0
      rw [hmf, hmt] at HMC
      clear hmf hmt HMC0
      have ki : (0 : Int) ≤ (i : Int) := by omega
      have kj : (i : Int) < (nm : Int) := by omega
      go_upto_region 7 with fail
      have HAX := Lib.hid (HA.out.below (Below.refl wx.heap.size _).drew)
      have HO := Lib.hid (own_below HO0.out (Below.refl wx.heap.size _).drew)
      have HSB : Hid (bs ≤ wx.drew.heap.size) := Nat.le_trans HSB0.out (Below.refl wx.heap.size wx).drew.size
      clear HO0 HA HSB0 c2
      refine wp_region_Z (S := fun X => X.cell? ⟨XB, 2, none⟩ = some (.slice va i vc) ∧ X.cell? ⟨w.heap.size, 2, none⟩ = some (.slice (some ⟨mb, mo, none⟩) nm mc) ∧ X.cell? ⟨mb, mo + i * 2, none⟩ = some (.int .i64 mfi) ∧ X.cell? ⟨mb, mo + i * 2 + 1, none⟩ = some (.int .i64 mti)) (by kernel_rfl) (⟨HAX.out.cell (.head _) 2, HAX.out.cell (.tail _ (.head _)) 2, (HMC.out _ HAX.out.fr).1, (HMC.out _ HAX.out.fr).2⟩) (fun hS => ?_)
      generalize wx.drew = X at *
      refine wpAnyZ_take (i := 0) (oi := ⟨some 33, _, _, _, _, _⟩) (v := ?_) rfl (by kernel_rfl) (by kernel_rfl) (by kernel_rfl) (fun _ _ _ h => h) (Or.inl ⟨by rfl, ?_⟩) hS ?_
      rotate_left
      · rintro W' ⟨z0, z1, z2, z3⟩; go_simp; try with_reducible rfl
      try simp only [Act.put, putA, putZ, putS]
      refine wpAnyZ_take (i := 1) (oi := ⟨some 34, _, _, _, _, _⟩) (v := ?_) rfl (by kernel_rfl) (by kernel_rfl) (by kernel_rfl) (fun _ _ _ h => h) (Or.inl ⟨by rfl, ?_⟩) hS ?_
      rotate_left
      · rintro W' ⟨z0, z1, z2, z3⟩; go_simp; try with_reducible rfl
      try simp only [Act.put, putA, putZ, putS]
      refine wpAnyZ_take (i := 2) (oi := ⟨some 35, _, _, _, _, _⟩) (v := ?_) rfl (by kernel_rfl) (by kernel_rfl) (by kernel_rfl) (fun _ _ _ h => h) (Or.inl ⟨by rfl, ?_⟩) hS ?_
      rotate_left
      · rintro W' ⟨z0, z1, z2, z3⟩; go_simp; try with_reducible rfl
      try simp only [Act.put, putA, putZ, putS]
      refine wpAnyZ_take (i := 3) (oi := ⟨some 36, _, _, _, _, _⟩) (v := ?_) rfl (by kernel_rfl) (by kernel_rfl) (by kernel_rfl) (fun _ _ _ h => h) (Or.inl ⟨by rfl, ?_⟩) hS ?_
      rotate_left
      · rintro W' ⟨z0, z1, z2, z3⟩; go_simp; try with_reducible rfl
      try simp only [Act.put, putA, putZ, putS]
      refine wpAnyZ_take (i := 4) (oi := ⟨some 37, _, _, _, _, _⟩) (v := ?_) rfl (by kernel_rfl) (by kernel_rfl) (by kernel_rfl) (fun _ _ _ h => h) (Or.inl ⟨by rfl, ?_⟩) hS ?_
      rotate_left
      · rintro W' ⟨z0, z1, z2, z3⟩; go_simp; try with_reducible rfl
      try simp only [Act.put, putA, putZ, putS]
      refine wpAnyZ_take (i := 5) (oi := ⟨some 38, _, _, _, _, _⟩) (v := ?_) rfl (by kernel_rfl) (by kernel_rfl) (by kernel_rfl) (fun _ _ _ h => h) (Or.inl ⟨by rfl, ?_⟩) hS ?_
      rotate_left
      · rintro W' ⟨z0, z1, z2, z3⟩; go_simp; try with_reducible rfl
      try simp only [Act.put, putA, putZ, putS]
      refine wpAnyZ_take (i := 6) (oi := ⟨some 39, _, _, _, _, _⟩) (v := ?_) rfl (by kernel_rfl) (by kernel_rfl) (by kernel_rfl) (fun _ _ _ h => h) (Or.inl ⟨by rfl, ?_⟩) hS ?_
      rotate_left
      · rintro W' ⟨z0, z1, z2, z3⟩; go_simp; try with_reducible rfl
      try simp only [Act.put, putA, putZ, putS]
      refine wpAnyZ_take (i := 7) (oi := ⟨some 40, _, _, _, _, _⟩) (v := ?_) rfl (by kernel_rfl) (by kernel_rfl) (by kernel_rfl) (fun _ _ _ h => h) (Or.inl ⟨by rfl, ?_⟩) hS ?_
      rotate_left
      · rintro W' ⟨z0, z1, z2, z3⟩; go_simp; try with_reducible rfl
      try simp only [Act.put, putA, putZ, putS]
      refine wpAnyZ_take (i := 8) (oi := ⟨some 41, _, _, _, _, _⟩) (v := ?_) rfl (by kernel_rfl) (by kernel_rfl) (by kernel_rfl) (fun _ _ _ h => h) (Or.inl ⟨by rfl, ?_⟩) hS ?_
      rotate_left
      · rintro W' ⟨z0, z1, z2, z3⟩; go_simp; try with_reducible rfl
      try simp only [Act.put, putA, putZ, putS]
      refine wpAnyZ_take (i := 9) (oi := ⟨some 42, _, _, _, _, _⟩) (v := ?_) rfl (by kernel_rfl) (by kernel_rfl) (by kernel_rfl) (fun _ _ _ h => h) (Or.inl ⟨by rfl, ?_⟩) hS ?_
      rotate_left
      · rintro W' ⟨z0, z1, z2, z3⟩; go_simp; try with_reducible rfl
      try simp only [Act.put, putA, putZ, putS]
      refine wpAnyZ_take (i := 10) (oi := ⟨some 43, _, _, _, _, _⟩) (v := ?_) rfl (by kernel_rfl) (by kernel_rfl) (by kernel_rfl) (fun _ _ _ h => h) (Or.inl ⟨by rfl, ?_⟩) hS ?_
      rotate_left
      · rintro W' ⟨z0, z1, z2, z3⟩; go_simp; try with_reducible rfl
      try simp only [Act.put, putA, putZ, putS]
      refine wpAnyZ_take (i := 11) (oi := ⟨some 44, _, _, _, _, _⟩) (v := ?_) rfl (by kernel_rfl) (by kernel_rfl) (by kernel_rfl) (fun _ _ _ h => h) (Or.inl ⟨by rfl, ?_⟩) hS ?_
      rotate_left
      · rintro W' ⟨z0, z1, z2, z3⟩; go_simp; try with_reducible rfl
      try simp only [Act.put, putA, putZ, putS]
      refine wpAnyZ_take (i := 12) (oi := ⟨some 45, _, _, _, _, _⟩) (v := ?_) rfl (by kernel_rfl) (by kernel_rfl) (by kernel_rfl) (fun _ _ _ h => h) (Or.inl ⟨by rfl, ?_⟩) hS ?_
      rotate_left
      · rintro W' ⟨z0, z1, z2, z3⟩; go_simp; try with_reducible rfl
      try simp only [Act.put, putA, putZ, putS]
      refine wpAnyZ_take (i := 13) (oi := ⟨some 46, _, _, _, _, _⟩) (v := ?_) rfl (by kernel_rfl) (by kernel_rfl) (by kernel_rfl) (fun _ _ _ h => h) (Or.inl ⟨by rfl, ?_⟩) hS ?_
      rotate_left
      · rintro W' ⟨z0, z1, z2, z3⟩; go_simp; try with_reducible rfl
      try simp only [Act.put, putA, putZ, putS]
      refine wpAnyZ_take (i := 14) (oi := ⟨some 47, _, _, _, _, _⟩) (v := ?_) rfl (by kernel_rfl) (by kernel_rfl) (by kernel_rfl) (fun _ _ _ h => h) (Or.inl ⟨by rfl, ?_⟩) hS ?_
      rotate_left
      · rintro W' ⟨z0, z1, z2, z3⟩; go_simp; try with_reducible rfl
      try simp only [Act.put, putA, putZ, putS]
      refine wpAnyZ_next (rs := [15]) (by kernel_rfl) (by simp) ?_
      refine NextZ.cons (o := ⟨some 48, _, _, _, _, _⟩) rfl (fun K hK => ?_) ?_
      ·
       go_simp
       have HO1 := Lib.hid (World.ownsRow.alloc HO.out (.cells #[.int .i64 mti, .int .i64 mfi] 63))
       have HN := Lib.hid (World.news_of_block (heap_alloc_new X (.cells #[.int .i64 mti, .int .i64 mfi] 63)))
       have HA1 := Lib.hid (HAX.out.below (below_alloc X (.cells #[.int .i64 mti, .int .i64 mfi] 63)))
       have hs1 := HAX.out.lt (.head _)
       have hsb := HSB.out
       refine hK.out _ _ (⟨HA1.out.cell (.head _) 2, HA1.out.cell (.tail _ (.head _)) 2, (HMC.out _ HA1.out.fr).1, (HMC.out _ HA1.out.fr).2⟩) (fun hS => ?_)
       clear hK K HO HAX
       try simp only [Act.put, putA, putZ, putS]
       refine wpAnyZ_next (rs := [16]) (by kernel_rfl) (by simp) ?_
       refine NextZ.cons (o := ⟨some 49, _, _, _, _, _⟩) rfl (fun K hK => ?_) ?_
       ·
        refine step_append_src _ (by rfl) (.tmp 34) (.tmp 48) 23 (by rfl) bs 63 i0 (.agg #[.int .i64 0, .int .i64 0]) 2 16 Tryz.underlying23 hi0 hz0 hz1 hz2 rfl (by decide) (.slice va i vc) i (mvL mt mf i) (by rfl) HO1.out (some ⟨X.heap.size, 0, none⟩) 1 1 [.int .i64 mti, .int .i64 mfi] (by rfl) ⟨rfl, fun q u hu => ⟨_, rfl, HN.out q u hu⟩⟩ (by simp [Value.oneCell']) ?d1 ?d2 ?d3 ?_
        case d1 => unfold maxLen; omega
        case d2 => omega
        case d3 => rw [World.size_alloc]; omega
        intro v1 X2 hown hgr hat
        have HO2 : Hid (X2.ownsRow bs 63 2 v1 (i + 1) (mvL mt mf (i + 1))) := by unfold Hid; rw [mvL_succ, HMI.out.1, HMI.out.2]; exact hown
        have HA2 := Lib.hid (HA1.out.fro (Fr.grown hgr) (fun q hq e => by have h1 := own_low HO1.out e; have h2 := HXB.out.1; have h3 := HXB.out.2; omega) (fun p hp e => by
          have h1 := own_low HO1.out e
          have h2 := HXB.out.1
          have h3 := HXB.out.2
          simp only [List.mem_cons, List.not_mem_nil, or_false] at hp
          rcases hp with rfl | rfl
          · exact absurd h1 (by show ¬ bs ≤ XB; omega)
          · exact absurd h1 (by show ¬ bs ≤ w.heap.size; omega)))
        have HSB2 : Hid (bs ≤ X2.heap.size) := by have h1 := hgr.size; rw [World.size_alloc] at h1; unfold Hid; omega
        clear hown hgr hat HO1 HA1 HN
        refine hK.out _ _ (⟨HA2.out.cell (.head _) 2, HA2.out.cell (.tail _ (.head _)) 2, (HMC.out _ HA2.out.fr).1, (HMC.out _ HA2.out.fr).2⟩) (fun hS => ?_)
        clear hK K
        try simp only [Act.put, putA, putZ, putS]
        obtain ⟨v1a, v1c, rfl⟩ := own_slice' HO2.out
        refine wpAnyZ_take (i := 17) (oi := ⟨some 50, _, _, _, _, _⟩) (v := ?_) rfl (by kernel_rfl) (by kernel_rfl) (by kernel_rfl) (fun _ _ _ h => h) (Or.inl ⟨by rfl, ?_⟩) hS ?_
        rotate_left
        · rintro W' ⟨z0, z1, z2, z3⟩; go_simp; try with_reducible rfl
        try simp only [Act.put, putA, putZ, putS]
        refine wpAnyZ_next (rs := [18]) (by kernel_rfl) (by simp) ?_
        refine NextZ.last (o := ⟨none, _, _, _, _, _⟩) rfl (by kernel_rfl) (fun K hK => ?_)
        have e0 := HA2.out.cell (.head _) 2
        have f0 := HA2.out.thaw (.head _) 2
        have hxb1 := HXB.out.1
        have hxb2 := HXB.out.2
        have HA3 := Lib.hid (BF.set1 (i := 2) (cs' := #[.slice na nw nc, .slice oa no oc, .slice v1a (i + 1) v1c]) HA2.out (.head _) (.slice v1a (i + 1) v1c) (by simp) rfl (L' := [(w.heap.size, #[.slice oa no oc, .slice na nw nc, .slice (some ⟨mb, mo, none⟩) nm mc], 25)]) (List.forall_mem_cons.2 ⟨⟨show w.heap.size ≠ XB by omega, (.tail _ (.head _))⟩, List.forall_mem_nil _⟩))
        have HO3 := Lib.hid (own_fr HO2.out (Fr.set X2 XB 2 (.slice v1a (i + 1) v1c)) (fun q cur e1 e2 _ e3 => by omega))
        have HSB3 : Hid (bs ≤ (X2.setCell ⟨XB, 2, none⟩ (.slice v1a (i + 1) v1c)).heap.size) := by have h1 := (Fr.set X2 XB 2 (.slice v1a (i + 1) v1c)).size; have h2 := HSB2.out; unfold Hid; omega
        go_simp
        refine hK.out _ _ ?_
        clear hK K
        (try simp only [Act.put])
        clear e0 f0
        refine wpAnyZ_done (by kernel_rfl) ?_ _
        go_wp2_with fail
        go_roundw
        case rel => exact ⟨i + 1, v1a, v1c, by go_num, by omega, HA3.out, HO3.out, HSB3.out⟩
        case measure => simp [intOf]; omega
       exact NextZ.nil
      exact NextZ.nil
    · obtain rfl : nm = i := by omega
      have HMX := Lib.hid (mvL_own HO0.out)
      have HFX := Lib.hid (HTF.out wx va vc HA.out.fr HMX.out)
      have HX0 : Hid (Below wx.heap.size wx wx) := Below.refl _ _
      clear HTF HMX HO0 HSB0 HMV
      clear c2
      have c0 := HA.out.cell (.tail _ (.head _)) 0
      have c1 := HA.out.cell (.tail _ (.head _)) 1
      have c2 := HA.out.cell (.tail _ (.head _)) 2
      have d0 := HA.out.cell (.head _) 0
      have d1 := HA.out.cell (.head _) 1
      have d2 := HA.out.cell (.head _) 2
      go_wp2_with fail
      refine (HFI.out _ HA.out.fr).mono ?_
      rintro _ y2 ⟨z, rfl, hq, hb⟩
      have HA' := Lib.hid (HA.out.below hb)
      clear HA
      have HA := HA'
      clear HA'
      have HX0' := Lib.hid (HX0.out.trans (hb.mono HX0.out.size))
      clear HX0
      have HX0 := HX0'
      clear HX0'
      have HQ := Lib.hid hq
      clear hq
      clear hb c0 c1 c2 d0 d1 d2
      go_wp2_with fail
      refine (HC1.out z _ HQ.out).mono ?_
      rintro _ y3 ⟨a1, ac1, rfl, hl, hb⟩
      have HA' := Lib.hid (HA.out.below hb)
      clear HA
      have HA := HA'
      clear HA'
      have HX0' := Lib.hid (HX0.out.trans (hb.mono HX0.out.size))
      clear HX0
      have HX0 := HX0'
      clear HX0'
      have HR1 := Lib.hid hl
      clear hl
      clear hb
      clear HQ
      have c0 := HA.out.cell (.tail _ (.head _)) 0
      have c1 := HA.out.cell (.tail _ (.head _)) 1
      have c2 := HA.out.cell (.tail _ (.head _)) 2
      have d0 := HA.out.cell (.head _) 0
      have d1 := HA.out.cell (.head _) 1
      have d2 := HA.out.cell (.head _) 2
      go_wp2_with fail
      refine (HFX.out _ HX0.out).mono ?_
      rintro _ y4 ⟨z, rfl, hq, hb⟩
      have HA' := Lib.hid (HA.out.below hb)
      clear HA
      have HA := HA'
      clear HA'
      have HX0' := Lib.hid (HX0.out.trans (hb.mono HX0.out.size))
      clear HX0
      have HX0 := HX0'
      clear HX0'
      have HR1' := Lib.hid (HR1.out.below hb)
      clear HR1
      have HR1 := HR1'
      clear HR1'
      have HQ := Lib.hid hq
      clear hq
      clear hb c0 c1 c2 d0 d1 d2
      go_wp2_with fail
      refine (HD1.out z _ HQ.out).mono ?_
      rintro _ y5 ⟨b1, bc1, rfl, hl, hb⟩
      have HA' := Lib.hid (HA.out.below hb)
      clear HA
      have HA := HA'
      clear HA'
      have HX0' := Lib.hid (HX0.out.trans (hb.mono HX0.out.size))
      clear HX0
      have HX0 := HX0'
      clear HX0'
      have HR1' := Lib.hid (HR1.out.below hb)
      clear HR1
      have HR1 := HR1'
      clear HR1'
      have HS1 := Lib.hid hl
      clear hl
      clear hb
      clear HQ
      have c0 := HA.out.cell (.tail _ (.head _)) 0
      have c1 := HA.out.cell (.tail _ (.head _)) 1
      have c2 := HA.out.cell (.tail _ (.head _)) 2
      have d0 := HA.out.cell (.head _) 0
      have d1 := HA.out.cell (.head _) 1
      have d2 := HA.out.cell (.head _) 2
      go_wp2_with fail
      refine (HFI.out _ HA.out.fr).mono ?_
      rintro _ y6 ⟨z, rfl, hq, hb⟩
      have HA' := Lib.hid (HA.out.below hb)
      clear HA
      have HA := HA'
      clear HA'
      have HX0' := Lib.hid (HX0.out.trans (hb.mono HX0.out.size))
      clear HX0
      have HX0 := HX0'
      clear HX0'
      have HR1' := Lib.hid (HR1.out.below hb)
      clear HR1
      have HR1 := HR1'
      clear HR1'
      have HS1' := Lib.hid (HS1.out.below hb)
      clear HS1
      have HS1 := HS1'
      clear HS1'
      have HQ := Lib.hid hq
      clear hq
      clear hb c0 c1 c2 d0 d1 d2
      go_wp2_with fail
      refine (HC2.out z _ HQ.out).mono ?_
      rintro _ y7 ⟨a2, ac2, rfl, hl, hb⟩
      have HA' := Lib.hid (HA.out.below hb)
      clear HA
      have HA := HA'
      clear HA'
      have HX0' := Lib.hid (HX0.out.trans (hb.mono HX0.out.size))
      clear HX0
      have HX0 := HX0'
      clear HX0'
      have HR1' := Lib.hid (HR1.out.below hb)
      clear HR1
      have HR1 := HR1'
      clear HR1'
      have HS1' := Lib.hid (HS1.out.below hb)
      clear HS1
      have HS1 := HS1'
      clear HS1'
      have HR2 := Lib.hid hl
      clear hl
      clear hb
      clear HQ
      have c0 := HA.out.cell (.tail _ (.head _)) 0
      have c1 := HA.out.cell (.tail _ (.head _)) 1
      have c2 := HA.out.cell (.tail _ (.head _)) 2
      have d0 := HA.out.cell (.head _) 0
      have d1 := HA.out.cell (.head _) 1
      have d2 := HA.out.cell (.head _) 2
      go_wp2_with fail
      refine (HFX.out _ HX0.out).mono ?_
      rintro _ y8 ⟨z, rfl, hq, hb⟩
      have HA' := Lib.hid (HA.out.below hb)
      clear HA
      have HA := HA'
      clear HA'
      have HX0' := Lib.hid (HX0.out.trans (hb.mono HX0.out.size))
      clear HX0
      have HX0 := HX0'
      clear HX0'
      have HR1' := Lib.hid (HR1.out.below hb)
      clear HR1
      have HR1 := HR1'
      clear HR1'
      have HS1' := Lib.hid (HS1.out.below hb)
      clear HS1
      have HS1 := HS1'
      clear HS1'
      have HR2' := Lib.hid (HR2.out.below hb)
      clear HR2
      have HR2 := HR2'
      clear HR2'
      have HQ := Lib.hid hq
      clear hq
      clear hb c0 c1 c2 d0 d1 d2
      go_wp2_with fail
      refine (HD2.out z _ HQ.out).mono ?_
      rintro _ y9 ⟨b2, bc2, rfl, hl, hb⟩
      have HA' := Lib.hid (HA.out.below hb)
      clear HA
      have HA := HA'
      clear HA'
      have HX0' := Lib.hid (HX0.out.trans (hb.mono HX0.out.size))
      clear HX0
      have HX0 := HX0'
      clear HX0'
      have HR1' := Lib.hid (HR1.out.below hb)
      clear HR1
      have HR1 := HR1'
      clear HR1'
      have HS1' := Lib.hid (HS1.out.below hb)
      clear HS1
      have HS1 := HS1'
      clear HS1'
      have HR2' := Lib.hid (HR2.out.below hb)
      clear HR2
      have HR2 := HR2'
      clear HR2'
      have HS2 := Lib.hid hl
      clear hl
      clear hb
      clear HQ
      have c0 := HA.out.cell (.tail _ (.head _)) 0
      have c1 := HA.out.cell (.tail _ (.head _)) 1
      have c2 := HA.out.cell (.tail _ (.head _)) 2
      have d0 := HA.out.cell (.head _) 0
      have d1 := HA.out.cell (.head _) 1
      have d2 := HA.out.cell (.head _) 2
      go_wp2_with fail
      refine (HFI.out _ HA.out.fr).mono ?_
      rintro _ y10 ⟨z, rfl, hq, hb⟩
      have HA' := Lib.hid (HA.out.below hb)
      clear HA
      have HA := HA'
      clear HA'
      have HX0' := Lib.hid (HX0.out.trans (hb.mono HX0.out.size))
      clear HX0
      have HX0 := HX0'
      clear HX0'
      have HR1' := Lib.hid (HR1.out.below hb)
      clear HR1
      have HR1 := HR1'
      clear HR1'
      have HS1' := Lib.hid (HS1.out.below hb)
      clear HS1
      have HS1 := HS1'
      clear HS1'
      have HR2' := Lib.hid (HR2.out.below hb)
      clear HR2
      have HR2 := HR2'
      clear HR2'
      have HS2' := Lib.hid (HS2.out.below hb)
      clear HS2
      have HS2 := HS2'
      clear HS2'
      have HQ := Lib.hid hq
      clear hq
      clear hb c0 c1 c2 d0 d1 d2
      go_wp2_with fail
      refine (HC3.out z _ HQ.out).mono ?_
      rintro _ y11 ⟨a3, ac3, rfl, hl, hb⟩
      have HA' := Lib.hid (HA.out.below hb)
      clear HA
      have HA := HA'
      clear HA'
      have HX0' := Lib.hid (HX0.out.trans (hb.mono HX0.out.size))
      clear HX0
      have HX0 := HX0'
      clear HX0'
      have HR1' := Lib.hid (HR1.out.below hb)
      clear HR1
      have HR1 := HR1'
      clear HR1'
      have HS1' := Lib.hid (HS1.out.below hb)
      clear HS1
      have HS1 := HS1'
      clear HS1'
      have HR2' := Lib.hid (HR2.out.below hb)
      clear HR2
      have HR2 := HR2'
      clear HR2'
      have HS2' := Lib.hid (HS2.out.below hb)
      clear HS2
      have HS2 := HS2'
      clear HS2'
      have HR3 := Lib.hid hl
      clear hl
      clear hb
      clear HQ
      have c0 := HA.out.cell (.tail _ (.head _)) 0
      have c1 := HA.out.cell (.tail _ (.head _)) 1
      have c2 := HA.out.cell (.tail _ (.head _)) 2
      have d0 := HA.out.cell (.head _) 0
      have d1 := HA.out.cell (.head _) 1
      have d2 := HA.out.cell (.head _) 2
      go_wp2_with fail
      refine (HFX.out _ HX0.out).mono ?_
      rintro _ y12 ⟨z, rfl, hq, hb⟩
      have HA' := Lib.hid (HA.out.below hb)
      clear HA
      have HA := HA'
      clear HA'
      have HX0' := Lib.hid (HX0.out.trans (hb.mono HX0.out.size))
      clear HX0
      have HX0 := HX0'
      clear HX0'
      have HR1' := Lib.hid (HR1.out.below hb)
      clear HR1
      have HR1 := HR1'
      clear HR1'
      have HS1' := Lib.hid (HS1.out.below hb)
      clear HS1
      have HS1 := HS1'
      clear HS1'
      have HR2' := Lib.hid (HR2.out.below hb)
      clear HR2
      have HR2 := HR2'
      clear HR2'
      have HS2' := Lib.hid (HS2.out.below hb)
      clear HS2
      have HS2 := HS2'
      clear HS2'
      have HR3' := Lib.hid (HR3.out.below hb)
      clear HR3
      have HR3 := HR3'
      clear HR3'
      have HQ := Lib.hid hq
      clear hq
      clear hb c0 c1 c2 d0 d1 d2
      go_wp2_with fail
      refine (HD3.out z _ HQ.out).mono ?_
      rintro _ y13 ⟨b3, bc3, rfl, hl, hb⟩
      have HA' := Lib.hid (HA.out.below hb)
      clear HA
      have HA := HA'
      clear HA'
      have HX0' := Lib.hid (HX0.out.trans (hb.mono HX0.out.size))
      clear HX0
      have HX0 := HX0'
      clear HX0'
      have HR1' := Lib.hid (HR1.out.below hb)
      clear HR1
      have HR1 := HR1'
      clear HR1'
      have HS1' := Lib.hid (HS1.out.below hb)
      clear HS1
      have HS1 := HS1'
      clear HS1'
      have HR2' := Lib.hid (HR2.out.below hb)
      clear HR2
      have HR2 := HR2'
      clear HR2'
      have HS2' := Lib.hid (HS2.out.below hb)
      clear HS2
      have HS2 := HS2'
      clear HS2'
      have HR3' := Lib.hid (HR3.out.below hb)
      clear HR3
      have HR3 := HR3'
      clear HR3'
      have HS3 := Lib.hid hl
      clear hl
      clear hb
      clear HQ
      clear HFI HFX HC1 HC2 HC3 HD1 HD2 HD3
      go_wp2_with fail
      refine (turned_yes (dL g nw no) (dL g' no nw) _ _ _ _ _ HR1.out HS1.out (swap_len HL1.out) (fun x hx => swap_mem HL1.out hx) (by have := HB1.out; omega)).mono ?_
      rintro _ y14 ⟨rfl, hb⟩
      have HA' := Lib.hid (HA.out.below hb)
      clear HA
      have HA := HA'
      clear HA'
      have HX0' := Lib.hid (HX0.out.trans (hb.mono HX0.out.size))
      clear HX0
      have HX0 := HX0'
      clear HX0'
      have HR1' := Lib.hid (HR1.out.below hb)
      clear HR1
      have HR1 := HR1'
      clear HR1'
      have HS1' := Lib.hid (HS1.out.below hb)
      clear HS1
      have HS1 := HS1'
      clear HS1'
      have HR2' := Lib.hid (HR2.out.below hb)
      clear HR2
      have HR2 := HR2'
      clear HR2'
      have HS2' := Lib.hid (HS2.out.below hb)
      clear HS2
      have HS2 := HS2'
      clear HS2'
      have HR3' := Lib.hid (HR3.out.below hb)
      clear HR3
      have HR3 := HR3'
      clear HR3'
      have HS3' := Lib.hid (HS3.out.below hb)
      clear HS3
      have HS3 := HS3'
      clear HS3'
      clear hb
      go_wp2_with fail
      refine (turned_yes (dL s nw no) (dL s' no nw) _ _ _ _ _ HR2.out HS2.out (swap_len HL2.out) (fun x hx => swap_mem HL2.out hx) (by have := HB2.out; omega)).mono ?_
      rintro _ y15 ⟨rfl, hb⟩
      have HA' := Lib.hid (HA.out.below hb)
      clear HA
      have HA := HA'
      clear HA'
      have HX0' := Lib.hid (HX0.out.trans (hb.mono HX0.out.size))
      clear HX0
      have HX0 := HX0'
      clear HX0'
      have HR1' := Lib.hid (HR1.out.below hb)
      clear HR1
      have HR1 := HR1'
      clear HR1'
      have HS1' := Lib.hid (HS1.out.below hb)
      clear HS1
      have HS1 := HS1'
      clear HS1'
      have HR2' := Lib.hid (HR2.out.below hb)
      clear HR2
      have HR2 := HR2'
      clear HR2'
      have HS2' := Lib.hid (HS2.out.below hb)
      clear HS2
      have HS2 := HS2'
      clear HS2'
      have HR3' := Lib.hid (HR3.out.below hb)
      clear HR3
      have HR3 := HR3'
      clear HR3'
      have HS3' := Lib.hid (HS3.out.below hb)
      clear HS3
      have HS3 := HS3'
      clear HS3'
      clear hb
      go_wp2_with fail
      refine (turned_yes (dL p nw no) (dL p' no nw) _ _ _ _ _ HR3.out HS3.out (swap_len HL3.out) (fun x hx => swap_mem HL3.out hx) (by have := HB3.out; omega)).mono ?_
      rintro _ y16 ⟨rfl, hb⟩
      have HA' := Lib.hid (HA.out.below hb)
      clear HA
      have HA := HA'
      clear HA'
      have HX0' := Lib.hid (HX0.out.trans (hb.mono HX0.out.size))
      clear HX0
      have HX0 := HX0'
      clear HX0'
      have HR1' := Lib.hid (HR1.out.below hb)
      clear HR1
      have HR1 := HR1'
      clear HR1'
      have HS1' := Lib.hid (HS1.out.below hb)
      clear HS1
      have HS1 := HS1'
      clear HS1'
      have HR2' := Lib.hid (HR2.out.below hb)
      clear HR2
      have HR2 := HR2'
      clear HR2'
      have HS2' := Lib.hid (HS2.out.below hb)
      clear HS2
      have HS2 := HS2'
      clear HS2'
      have HR3' := Lib.hid (HR3.out.below hb)
      clear HR3
      have HR3 := HR3'
      clear HR3'
      have HS3' := Lib.hid (HS3.out.below hb)
      clear HS3
      have HS3 := HS3'
      clear HS3'
      clear hb
      go_wp2_with fail
      refine (awake5_any _).mono ?_
      rintro _ y17 ⟨rfl, hb⟩
      have HA' := Lib.hid (HA.out.below hb)
      clear HA
      have HA := HA'
      clear HA'
      have HX0' := Lib.hid (HX0.out.trans (hb.mono HX0.out.size))
      clear HX0
      have HX0 := HX0'
      clear HX0'
      have HR1' := Lib.hid (HR1.out.below hb)
      clear HR1
      have HR1 := HR1'
      clear HR1'
      have HS1' := Lib.hid (HS1.out.below hb)
      clear HS1
      have HS1 := HS1'
      clear HS1'
      have HR2' := Lib.hid (HR2.out.below hb)
      clear HR2
      have HR2 := HR2'
      clear HR2'
      have HS2' := Lib.hid (HS2.out.below hb)
      clear HS2
      have HS2 := HS2'
      clear HS2'
      have HR3' := Lib.hid (HR3.out.below hb)
      clear HR3
      have HR3 := HR3'
      clear HR3'
      have HS3' := Lib.hid (HS3.out.below hb)
      clear HS3
      have HS3 := HS3'
      clear HS3'
      clear hb
      go_wp2_with fail
      go_ret
      exact ⟨rfl, HA.out.fr⟩
theorem linkBack_walk (x : FV) (f : Fl) (w : World) (h : FlLaw w x f) : Calls Tryz.prog 8 #[.agg #[.slice x.oa f.no x.oc, .slice x.na f.nw x.nc, .slice x.ma f.nm x.mc]] w fun e w' => e = .returned (.bool true) ∧ Below w.heap.size w w' := by
  cases hr : f.rdy
  · exact linkBack_thick x f w h.l hr
  · exact linkBack_ok x f w h.l hr
end Go.Proofs.YtgbdbikjckfgmaaGreat
