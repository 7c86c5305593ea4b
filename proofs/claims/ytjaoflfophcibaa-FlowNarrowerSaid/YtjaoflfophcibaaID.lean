/- FlowNarrower: the walk. Printed by gen_id.py. -/
import Derived.Test.YtjaoflfophcibaaIC
import Derived.Test.YtjaoflfophcibaaGO
import Derived.Deep.CutBlock
namespace Go.Proofs.Ytjaoflfophcibaa
open Go.RowKit Go.Shelf

theorem LvR.wrong {W : World} {t : Tb} {nw : Nat} {z : Nat → Int} {bits : Int} {T1 T2 T3 : Value} (h : LvR W t nw z bits T1 T2 T3) : ∃ (y : Tb) (u : WV), T1 = .agg #[u.cv y, u.bv y, u.rv y, u.nv y] ∧ WLi W u y ∧ y.small ∧ y.fault = 0 ∧ ∃ l, y.leave = some l := by
  obtain ⟨u, y, x, sa, sc, rfl, _, _, hw, _, _, hf, hg, _, _, _, hc⟩ := h.ex
  have ht := Okt.of_fault h.ft
  exact ⟨_, u, rfl, hw, cnted_small ht x nw z bits, hf, leave_ex ht hg hc hf⟩
def agE (t : Tb) : Int := if t.agree off0 = true then 0 else 9
theorem bounds_two (x : WV) (t : Tb) (hs : t.small) (w : World) (hl : WL w x t) (hf : t.fault = 0) :
    Calls Try.prog 39 #[.agg #[x.cv t, x.bv t, x.rv t, x.nv t]] w fun e w' => ∃ a m c, e = .returned (.tuple #[.slice a m c, .int .i64 (agE t)]) ∧ (t.agree off0 = true → RowsAt w' (.slice a m c) t.nc (fun _ => t.ng) (bndR t off0)) ∧ Below w.heap.size w w' := by
  have hng := (Okt.of_fault hf).ng2
  cases ha : t.agree off0
  · refine (Bounds_fail x t hs w hl hf ha).mono ?_
    rintro _ w' ⟨rfl, hb⟩
    exact ⟨none, 0, 0, by unfold agE; rw [ha]; rfl, fun h => (by cases h), hb⟩
  · refine (Bounds_ok x t hs w hl hf ha (fun c g hc hg => agree_ne ha (by omega) c g hc hg)).mono ?_
    rintro _ w' ⟨v, rfl, hr, hb⟩
    obtain ⟨a, c, rfl⟩ := hr.slice
    exact ⟨a, t.nc, c, by unfold agE; rw [ha]; rfl, fun _ => hr, hb⟩
theorem leave_two (x : WV) (t : Tb) (hs : t.small) (w : World) (hl : WL w x t) (hf : t.fault = 0) :
    Calls Try.prog 33 #[.agg #[x.cv t, x.bv t, x.rv t, x.nv t]] w fun e w' => ∃ a c, e = .returned (.tuple #[.slice a (t.leave.getD []).length c, .int .i64 (if t.leave.isSome = true then 0 else 9)]) ∧ Below w.heap.size w w' := by
  refine (Leave_ok x t hs w hl hf).mono ?_
  rintro e w' ⟨⟨v, rfl, hc⟩, hb⟩
  obtain ⟨a, c, rfl⟩ := hc.slice
  have h : (cellsOf t.ng (t.leave.getD [])).length = (t.leave.getD []).length := by unfold cellsOf; rw [List.length_map]
  rw [h]
  exact ⟨a, c, rfl, hb⟩
theorem rows5_ty {y : Tb} {vb vc nb nc2 : Nat} {F : Nat → Value} {v1 v2 v3 : Value} {n1 n2 n3 : Nat} {x1 x2 x3 R0 : List Value} {T : TypeId} (h1 : T ≠ 43) (h2 : T ≠ 23) : ∀ p, p ∈ rows5 y vb vc nb nc2 F v1 v2 v3 n1 n2 n3 x1 x2 x3 R0 → T ≠ p.T :=
  List.forall_mem_cons.2 ⟨h1, List.forall_mem_cons.2 ⟨h1, List.forall_mem_cons.2 ⟨h1, List.forall_mem_cons.2 ⟨h1, List.forall_mem_cons.2 ⟨h2, List.forall_mem_nil _⟩⟩⟩⟩⟩
theorem tmod_nat {a : Int} {n : Nat} (h : 0 ≤ a) (hn : 0 < n) : ∃ g : Nat, a.tmod (n : Int) = (g : Int) ∧ g < n := by
  have h1 := Int.emod_nonneg a (show (n : Int) ≠ 0 by omega)
  have h2 := Int.emod_lt_of_pos a (show (0 : Int) < (n : Int) by omega)
  exact ⟨(a % (n : Int)).toNat, by rw [Int.tmod_eq_emod_of_nonneg h]; omega, by omega⟩
set_option maxRecDepth 100000 in
set_option maxHeartbeats 8000000 in
theorem flowNarrower_walk (u : WV) (t : Tb) (wv : Value) (nw : Nat) (z : Nat → Int) (bits wh bY : Int) (w : World) (h0 : TbLaw w u t) (hw : WordsIn w wv nw z) (hn : nw ≤ maxLen) (hb0 : 0 ≤ bits) (hb1 : bits ≤ 65535) (hw0 : 0 ≤ wh) (hw1 : wh ≤ 255) (hy0 : 0 ≤ bY) (hy1 : bY ≤ 255) :
    Calls Try.prog 9 #[.agg #[u.cv t, u.bv t, u.rv t, u.nv t], wv, .int .u16 bits, .int .u8 wh, .int .u8 bY] w fun e w' => e = .returned (.bool true) ∧ Below w.heap.size w w' := by
  have LV0 := Lib.hid (fun (X : World) (hX : Below w.heap.size w X) => lives_any u t wv nw z bits h0.big h0.z X (h0.l.below hX) h0.cc h0.cb (hw.below hX) hn hb0 hb1)
  have HAW := Lib.hid awake_any
  obtain ⟨i0, hi0, hz0, hz1, hz2⟩ := info_parts Try.infoRangeR
  obtain ⟨wa, wc, rfl⟩ := hw.len
  clear h0 hw hn
  simp only [WV.cv, WV.bv, WV.rv, WV.nv] at LV0 ⊢
  have HA0 : Hid (BF w (w.alloc (.cells #[.slice u.ca t.nc u.cc, .slice u.ba t.nb u.bc, .slice u.ra t.nr u.rc, .slice u.na t.nn u.nc] 25)) [(w.heap.size, #[.slice u.ca t.nc u.cc, .slice u.ba t.nb u.bc, .slice u.ra t.nr u.rc, .slice u.na t.nn u.nc], 25)]) := (BF.base w).alloc _ _
  go_enter Try.func9, Try.ntmps9
  go_wp2_with fail
  refine (LV0.out _ HA0.out.fr).mono ?_
  rintro _ w5 ⟨V1, U1, T3, b, rfl, hb5, hlv⟩
  have HB5 := Lib.hid (HA0.out.below hb5).fr
  have HLR := Lib.hid hlv
  clear hb5 hlv HA0 LV0
  cases b
  · go_wp2_with (go_at_call 18; refine (HAW.out _).mono ?_; rintro _ w9 ⟨rfl, hb9⟩; have HB9 := Lib.hid (below_step (HB5.out.trans ((below_step (below_alloc w5 (.cells #[.slice V1.p0 V1.l0 V1.c0, .slice V1.p1 V1.l1 V1.c1, .slice V1.p2 V1.l2 V1.c2, .slice V1.p3 V1.l3 V1.c3] 25)) (below_alloc _ (.cells #[.slice U1.p0 U1.l0 U1.c0, .slice U1.p1 U1.l1 U1.c1, .slice U1.p2 U1.l2 U1.c2, .slice U1.p3 U1.l3 U1.c3] 75))).mono HB5.out.size)) hb9); clear hb9)
    go_ret
    exact ⟨rfl, HB9.out⟩
  obtain ⟨y, v, hv, hwl, hys, hyf, ll, hyl⟩ := (HLR.out rfl).wrong
  obtain ⟨p0, l0, e0, p1, l1, e1, p2, l2, e2, p3, l3, e3⟩ := V1
  simp only [WV.cv, WV.bv, WV.rv, WV.nv, Value.agg.injEq, Value.slice.injEq, Array.mk.injEq, List.cons.injEq, and_true] at hv
  obtain ⟨⟨rfl, rfl, rfl⟩, ⟨rfl, rfl, rfl⟩, ⟨rfl, rfl, rfl⟩, rfl, rfl, rfl⟩ := hv
  have hok := Okt.of_fault hyf
  have yng2 := hok.ng2; have yng4 := hok.ng4; have ync4 := hok.nc4; have ync1 := hok.nc1; have nc0 : 0 < y.nc := ync1; have nb9 : y.nb ≤ 9 := by have := hok.nb; omega
  have nr9 : y.nr ≤ 9 := by rw [hok.nr]; omega
  have nn9 : y.nn ≤ 9 := by rw [hok.nn]; omega
  have ng0 : 0 < y.ng := by omega
  have HNB := Lib.hid hok.nb; have HNR := Lib.hid hok.nr; have HNN := Lib.hid hok.nn
  obtain ⟨o1, o2, hCT⟩ : ∃ o1 o2, y.ct 0 0 = (o1, o2) := ⟨_, _, rfl⟩
  obtain ⟨cb, co, ra1, rc, hca, hcb, hx1, hr1⟩ := hwl.1.at (k := 0) (by omega)
  obtain ⟨rb, ro, rfl, hrb, x1, x2⟩ := hr1.at (k := 0) (by rw [hok.rl 0 (by omega)]; omega)
  rw [hCT] at x1 x2
  rw [hok.rl 0 (by omega)] at hx1
  simp only [Nat.zero_mul, Nat.add_zero] at x1 x2 hx1
  obtain ⟨vca, vcc, vba, vbc, vra, vrc, vna, vnc⟩ := v
  simp only at hca hwl
  subst hca
  have HOK := Lib.hid hok
  have HL := Lib.hid hwl
  have HYL := Lib.hid hyl
  have HTB : Hid (∀ X, Below w5.heap.size w5 X → Calls Try.prog 20 #[.agg #[.slice (some ⟨cb, co, none⟩) y.nc vcc, .slice vba y.nb vbc, .slice vra y.nr vrc, .slice vna y.nn vnc]] X fun e w' => ∃ v' : WV, e = .returned (.agg #[v'.cv y, v'.bv y, v'.rv y, v'.nv y]) ∧ WL w' v' y ∧ Below X.heap.size X w') := fun X hX => table_any ⟨some ⟨cb, co, none⟩, vcc, vba, vbc, vra, vrc, vna, vnc⟩ y hys X (hwl.below hX)
  have HGR : Hid (∀ X, Below w5.heap.size w5 X → Calls Try.prog 23 #[.agg #[.slice (some ⟨cb, co, none⟩) y.nc vcc, .slice vba y.nb vbc, .slice vra y.nr vrc, .slice vna y.nn vnc]] X fun e w' => e = .returned (.int .i64 (y.ng : Nat)) ∧ Below X.heap.size X w') := fun X hX => rgroups_any _ y X (hwl.below hX).tb hys
  have HBD : Hid (∀ (X : World) (v' : WV), WL X v' y → Calls Try.prog 39 #[.agg #[v'.cv y, v'.bv y, v'.rv y, v'.nv y]] X fun e w' => ∃ a m c, e = .returned (.tuple #[.slice a m c, .int .i64 (agE y)]) ∧ (y.agree off0 = true → RowsAt w' (.slice a m c) y.nc (fun _ => y.ng) (bndR y off0)) ∧ Below X.heap.size X w') := fun X v' h => bounds_two v' y hys X h hyf
  have HLE : Hid (∀ (X : World) (v' : WV), WL X v' y → Calls Try.prog 33 #[.agg #[v'.cv y, v'.bv y, v'.rv y, v'.nv y]] X fun e w' => ∃ a c, e = .returned (.tuple #[.slice a ll.length c, .int .i64 0]) ∧ Below X.heap.size X w') := fun X v' h => by
    have := leave_two v' y hys X h hyf
    rw [hyl] at this
    exact this
  have HWI : Hid (∀ X, Below w5.heap.size w5 X → Calls Try.prog 40 #[.agg #[.slice (some ⟨cb, co, none⟩) y.nc vcc, .slice vba y.nb vbc, .slice vra y.nr vrc, .slice vna y.nn vnc], .int .i64 0, .int .i64 0, .agg #[.int .i64 o1, .int .i64 o2]] X fun e w' => ∃ vb vc nb nc2 F, e = .returned (.agg #[.slice (some ⟨vb, 0, none⟩) y.nc vc, .slice vba y.nb vbc, .slice vra y.nr vrc, .slice vna y.nn vnc]) ∧
      Rws w5.heap.size w' (rows5 y vb vc nb nc2 F (.slice none 0 0) (.slice none 0 0) (.slice none 0 0) 0 0 0 [] [] [] (flatR (y.ct 0) y.ng)) ∧ (∀ j, j < y.nc → RsIn w5 (F j) y.ng (y.ct j)) ∧ Below X.heap.size X w') := fun X hX => with_same ⟨some ⟨cb, co, none⟩, vcc, vba, vbc, vra, vrc, vna, vnc⟩ y o1 o2 w5 X hwl hX hok hCT
  simp only [WV.cv, WV.bv, WV.rv, WV.nv] at HTB HBD HLE
  have HX := Lib.hid (And.intro hx1 (And.intro x1 x2))
  have k0' : ∀ g, g < y.ng → -50 ≤ (y.ct 0 g).1 ∧ (y.ct 0 g).1 ≤ (y.ct 0 g).2 ∧ (y.ct 0 g).2 ≤ 1000 := fun g hg => by have := hok.ct 0 g (by omega) hg; omega
  have k1' : ∀ g, g < y.nb → -50 ≤ (y.b g).1 ∧ (y.b g).1 ≤ (y.b g).2 ∧ (y.b g).2 ≤ 1000 := fun g hg => by have := hok.b g hg; omega
  have k2' : ∀ g, g < y.nr → -50 ≤ (y.r g).1 ∧ (y.r g).1 ≤ (y.r g).2 ∧ (y.r g).2 ≤ 1000 := fun g hg => by have := hok.r g hg; omega
  have k3' : ∀ g, g < y.nn → -50 ≤ (y.n g).1 ∧ (y.n g).1 ≤ (y.n g).2 ∧ (y.n g).2 ≤ 1000 := fun g hg => by have := hok.n g hg; omega
  have HK := Lib.hid (And.intro k0' (And.intro k1' (And.intro k2' k3')))
  have HYF := Lib.hid hyf; have HYS := Lib.hid hys
  clear k0' k1' k2' k3' hx1 x1 x2 hr1 hwl hok hyl hyf hys HLR hCT
  have HA6 : Hid (BF w5 ((w5.alloc (.cells #[.slice (some ⟨cb, co, none⟩) y.nc vcc, .slice vba y.nb vbc, .slice vra y.nr vrc, .slice vna y.nn vnc] 25)).alloc (.cells #[.slice U1.p0 U1.l0 U1.c0, .slice U1.p1 U1.l1 U1.c1, .slice U1.p2 U1.l2 U1.c2, .slice U1.p3 U1.l3 U1.c3] 75)) [(w5.heap.size, #[.slice (some ⟨cb, co, none⟩) y.nc vcc, .slice vba y.nb vbc, .slice vra y.nr vrc, .slice vna y.nn vnc], 25)]) := (((BF.base w5).alloc #[.slice (some ⟨cb, co, none⟩) y.nc vcc, .slice vba y.nb vbc, .slice vra y.nr vrc, .slice vna y.nn vnc] 25).below (below_alloc _ _)).sub (List.forall_mem_cons.2 ⟨.head _, List.forall_mem_nil _⟩)
  go_wp2_with fail
  generalize ((w5.alloc (.cells #[.slice (some ⟨cb, co, none⟩) y.nc vcc, .slice vba y.nb vbc, .slice vra y.nr vrc, .slice vna y.nn vnc] 25)).alloc (.cells #[.slice U1.p0 U1.l0 U1.c0, .slice U1.p1 U1.l1 U1.c1, .slice U1.p2 U1.l2 U1.c2, .slice U1.p3 U1.l3 U1.c3] 75)) = w6 at *
  go_cut [15] (fun s15 wx => ∃ xb vb vc nb nc2 F, s15 = .pointer (some ⟨xb, 0, none⟩) ∧ BF w5 wx [(xb, #[.slice (some ⟨vb, 0, none⟩) y.nc vc, .slice vba y.nb vbc, .slice vra y.nr vrc, .slice vna y.nn vnc], 25), (w5.heap.size, #[.slice (some ⟨cb, co, none⟩) y.nc vcc, .slice vba y.nb vbc, .slice vra y.nr vrc, .slice vna y.nn vnc], 25)] ∧ Rws w5.heap.size wx (rows5 y vb vc nb nc2 F (.slice none 0 0) (.slice none 0 0) (.slice none 0 0) 0 0 0 [] [] [] (flatR (y.ct 0) y.ng)) ∧ (∀ j, j < y.nc → RsIn w5 (F j) y.ng (y.ct j)) ∧ w5.heap.size < xb)
  case first => as_aux_lemma =>
    have HAX := Lib.hid (HA6.out.below (Below.refl _ w6).drew)
    refine wp_region_Z (S := fun X => X.cell? ⟨cb, co, none⟩ = some (.slice (some ⟨rb, ro, none⟩) y.ng rc) ∧ X.cell? ⟨rb, ro, none⟩ = some (.int .i64 o1) ∧ X.cell? ⟨rb, ro + 1, none⟩ = some (.int .i64 o2) ∧ X.cell? ⟨w5.heap.size, 0, none⟩ = some (.slice (some ⟨cb, co, none⟩) y.nc vcc) ∧ X.cell? ⟨w5.heap.size, 1, none⟩ = some (.slice vba y.nb vbc) ∧ X.cell? ⟨w5.heap.size, 2, none⟩ = some (.slice vra y.nr vrc) ∧ X.cell? ⟨w5.heap.size, 3, none⟩ = some (.slice vna y.nn vnc)) (by kernel_rfl) (⟨kept HAX.out.fr hcb HX.out.1, kept HAX.out.fr hrb HX.out.2.1, kept HAX.out.fr hrb HX.out.2.2, HAX.out.cell (.head _) 0, HAX.out.cell (.head _) 1, HAX.out.cell (.head _) 2, HAX.out.cell (.head _) 3⟩) (fun hS => ?_)
    generalize w6.drew = X at *
    refine tk [0, 1, 2, 3, 4, 5, 6] ?_
    repeat (refine tkZ (oi := ⟨_, _, _, _, _, _⟩) (v := ?_) rfl (by kernel_rfl) (by rfl) (fun _ _ _ h => h) hS ?_ ?_; rotate_left; (· rintro W' ⟨z0, z1, z2, z3, z4, z5, z6⟩; go_simp; try with_reducible rfl); try simp only [Act.put, putA, putZ, putS])
    refine tk0 ?_
    refine wpAnyZ_next (rs := [7, 8]) (by kernel_rfl) (by simp) ?_
    refine NextZ.cons (o := ⟨some 44, _, _, _, _, _⟩) rfl (fun K hK => ?_) ?_
    ·
     go_simp
     refine (HWI.out _ HAX.out.fr).mono ?_
     rintro _ X0 ⟨vb, vc, nb, nc2, F, rfl, hr, hF, hb⟩
     have HF := Lib.hid hF
     have HR0 := Lib.hid hr
     have HA0 := Lib.hid (HAX.out.below hb)
     clear hr hF hb
     (try go_wp2_with fail)
     refine hK.out _ _ (⟨kept HA0.out.fr hcb HX.out.1, kept HA0.out.fr hrb HX.out.2.1, kept HA0.out.fr hrb HX.out.2.2, HA0.out.cell (.head _) 0, HA0.out.cell (.head _) 1, HA0.out.cell (.head _) 2, HA0.out.cell (.head _) 3⟩) (fun hS => ?_)
     clear hK K
     try simp only [Act.put, putA, putZ, putS]
     refine wpAnyZ_next (rs := [8]) (by kernel_rfl) (by simp) ?_
     refine NextZ.cons (o := ⟨some 15, _, _, _, _, _⟩) rfl (fun K hK => ?_) NextZ.nil
     go_simp
     have HA1 := Lib.hid (HA0.out.alloc #[.slice none 0 0, .slice none 0 0, .slice none 0 0, .slice none 0 0] 25)
     have hny1 := (HA0.out.lt (.head _)).2
     have HR1 : Hid (Rws w5.heap.size (X0.alloc (.cells #[.slice none 0 0, .slice none 0 0, .slice none 0 0, .slice none 0 0] 25)) (rows5 y vb vc nb nc2 F (.slice none 0 0) (.slice none 0 0) (.slice none 0 0) (0) (0) (0) ([]) ([]) ([]) (flatR (y.ct 0) y.ng))) := HR0.out.below (below_alloc _ _)
     refine hK.out _ _ (⟨kept HA1.out.fr hcb HX.out.1, kept HA1.out.fr hrb HX.out.2.1, kept HA1.out.fr hrb HX.out.2.2, HA1.out.cell (.tail _ (.head _)) 0, HA1.out.cell (.tail _ (.head _)) 1, HA1.out.cell (.tail _ (.head _)) 2, HA1.out.cell (.tail _ (.head _)) 3⟩) (fun hS => ?_)
     clear hK K
     try simp only [Act.put, putA, putZ, putS]
     obtain ⟨xb, hxb⟩ : ∃ q, X0.heap.size = q := ⟨_, rfl⟩
     rw [hxb] at HA1 hny1 ⊢
     clear hxb
     generalize (X0.alloc (.cells #[.slice none 0 0, .slice none 0 0, .slice none 0 0, .slice none 0 0] 25)) = X1 at *
     refine wpAnyZ_next (rs := [9]) (by kernel_rfl) (by simp) ?_
     refine NextZ.last (o := ⟨none, _, _, _, _, _⟩) rfl (by kernel_rfl) (fun K hK => ?_)
     have e0 := HA1.out.cell (.head _) 0
     have f0 := HA1.out.thaw (.head _) 0
     have e1 := HA1.out.cell (.head _) 1
     have f1 := HA1.out.thaw (.head _) 1
     have e2 := HA1.out.cell (.head _) 2
     have f2 := HA1.out.thaw (.head _) 2
     have e3 := HA1.out.cell (.head _) 3
     have f3 := HA1.out.thaw (.head _) 3
     have HA2 := Lib.hid (BF.set4 HA1.out (.head _) (.slice (some ⟨vb, 0, none⟩) y.nc vc) (.slice vba y.nb vbc) (.slice vra y.nr vrc) (.slice vna y.nn vnc) (L' := [(w5.heap.size, #[.slice (some ⟨cb, co, none⟩) y.nc vcc, .slice vba y.nb vbc, .slice vra y.nr vrc, .slice vna y.nn vnc], 25)]) (List.forall_mem_cons.2 ⟨⟨show w5.heap.size ≠ xb by omega, (.tail _ (.head _))⟩, List.forall_mem_nil _⟩))
     have HR2 : Hid (Rws w5.heap.size ((((X1.setCell ⟨xb, 0, none⟩ (.slice (some ⟨vb, 0, none⟩) y.nc vc)).setCell ⟨xb, 1, none⟩ (.slice vba y.nb vbc)).setCell ⟨xb, 2, none⟩ (.slice vra y.nr vrc)).setCell ⟨xb, 3, none⟩ (.slice vna y.nn vnc)) (rows5 y vb vc nb nc2 F (.slice none 0 0) (.slice none 0 0) (.slice none 0 0) (0) (0) (0) ([]) ([]) ([]) (flatR (y.ct 0) y.ng))) := HR1.out.tab (HA1.out.bk _ _ _ (.head _)).2 (rows5_ty (by decide) (by decide)) (fr4 _ _ _ _ _ _)
     go_simp
     refine hK.out _ _ ?_
     clear hK K
     (try simp only [Act.put])
     refine wpAnyZ_done (by kernel_rfl) ?_ _
     go_wp2_with fail
     go_meet
     exact ⟨xb, vb, vc, nb, nc2, F, rfl, HA2.out, HR2.out, HF.out, by omega⟩
    refine NextZ.cons (o := ⟨some 15, _, _, _, _, _⟩) rfl (fun K hK => ?_) NextZ.nil
    go_simp
    have HA3 := Lib.hid (HAX.out.alloc #[.slice none 0 0, .slice none 0 0, .slice none 0 0, .slice none 0 0] 25)
    have hny3 := (HAX.out.lt (.head _)).2
    refine hK.out _ _ (⟨kept HA3.out.fr hcb HX.out.1, kept HA3.out.fr hrb HX.out.2.1, kept HA3.out.fr hrb HX.out.2.2, HA3.out.cell (.tail _ (.head _)) 0, HA3.out.cell (.tail _ (.head _)) 1, HA3.out.cell (.tail _ (.head _)) 2, HA3.out.cell (.tail _ (.head _)) 3⟩) (fun hS => ?_)
    clear hK K
    try simp only [Act.put, putA, putZ, putS]
    obtain ⟨xb, hxb⟩ : ∃ q, X.heap.size = q := ⟨_, rfl⟩
    rw [hxb] at HA3 hny3 ⊢
    clear hxb
    generalize (X.alloc (.cells #[.slice none 0 0, .slice none 0 0, .slice none 0 0, .slice none 0 0] 25)) = X3 at *
    refine wpAnyZ_next (rs := [7]) (by kernel_rfl) (by simp) ?_
    refine NextZ.cons (o := ⟨some 44, _, _, _, _, _⟩) rfl (fun K hK => ?_) NextZ.nil
    go_simp
    refine (HWI.out _ HA3.out.fr).mono ?_
    rintro _ X4 ⟨vb, vc, nb, nc2, F, rfl, hr, hF, hb⟩
    have HF := Lib.hid hF
    have HR4 := Lib.hid hr
    have HA4 := Lib.hid (HA3.out.below hb)
    clear hr hF hb
    (try go_wp2_with fail)
    refine hK.out _ _ (⟨kept HA4.out.fr hcb HX.out.1, kept HA4.out.fr hrb HX.out.2.1, kept HA4.out.fr hrb HX.out.2.2, HA4.out.cell (.tail _ (.head _)) 0, HA4.out.cell (.tail _ (.head _)) 1, HA4.out.cell (.tail _ (.head _)) 2, HA4.out.cell (.tail _ (.head _)) 3⟩) (fun hS => ?_)
    clear hK K
    try simp only [Act.put, putA, putZ, putS]
    refine wpAnyZ_next (rs := [9]) (by kernel_rfl) (by simp) ?_
    refine NextZ.last (o := ⟨none, _, _, _, _, _⟩) rfl (by kernel_rfl) (fun K hK => ?_)
    have e0 := HA4.out.cell (.head _) 0
    have f0 := HA4.out.thaw (.head _) 0
    have e1 := HA4.out.cell (.head _) 1
    have f1 := HA4.out.thaw (.head _) 1
    have e2 := HA4.out.cell (.head _) 2
    have f2 := HA4.out.thaw (.head _) 2
    have e3 := HA4.out.cell (.head _) 3
    have f3 := HA4.out.thaw (.head _) 3
    have HA5 := Lib.hid (BF.set4 HA4.out (.head _) (.slice (some ⟨vb, 0, none⟩) y.nc vc) (.slice vba y.nb vbc) (.slice vra y.nr vrc) (.slice vna y.nn vnc) (L' := [(w5.heap.size, #[.slice (some ⟨cb, co, none⟩) y.nc vcc, .slice vba y.nb vbc, .slice vra y.nr vrc, .slice vna y.nn vnc], 25)]) (List.forall_mem_cons.2 ⟨⟨show w5.heap.size ≠ xb by omega, (.tail _ (.head _))⟩, List.forall_mem_nil _⟩))
    have HR5 : Hid (Rws w5.heap.size ((((X4.setCell ⟨xb, 0, none⟩ (.slice (some ⟨vb, 0, none⟩) y.nc vc)).setCell ⟨xb, 1, none⟩ (.slice vba y.nb vbc)).setCell ⟨xb, 2, none⟩ (.slice vra y.nr vrc)).setCell ⟨xb, 3, none⟩ (.slice vna y.nn vnc)) (rows5 y vb vc nb nc2 F (.slice none 0 0) (.slice none 0 0) (.slice none 0 0) (0) (0) (0) ([]) ([]) ([]) (flatR (y.ct 0) y.ng))) := HR4.out.tab (HA4.out.bk _ _ _ (.head _)).2 (rows5_ty (by decide) (by decide)) (fr4 _ _ _ _ _ _)
    go_simp
    refine hK.out _ _ ?_
    clear hK K
    (try simp only [Act.put])
    refine wpAnyZ_done (by kernel_rfl) ?_ _
    go_wp2_with fail
    go_meet
    exact ⟨xb, vb, vc, nb, nc2, F, rfl, HA5.out, HR5.out, HF.out, by omega⟩
  rename World => w7
  obtain ⟨xb, vb, vc, nb, nc2, F, rfl, hbf, hrw, hF, hxb⟩ := hcut
  have HA7 := Lib.hid hbf; have HR7 := Lib.hid hrw; have HF := Lib.hid hF
  clear hbf hrw hF HA6 HWI HX
  go_wp2_with fail
  go_cut [] (fun wx => ∃ qa0 qc0 qa1 qc1 qa2 qc2, BF w5 wx [(xb, #[.slice (some ⟨vb, 0, none⟩) y.nc vc, .slice qa0 y.nb qc0, .slice qa1 y.nr qc1, .slice qa2 y.nn qc2], 25), (w5.heap.size, #[.slice (some ⟨cb, co, none⟩) y.nc vcc, .slice vba y.nb vbc, .slice vra y.nr vrc, .slice vna y.nn vnc], 25)] ∧ Rws w5.heap.size wx (rows5 y vb vc nb nc2 F (.slice qa0 y.nb qc0) (.slice qa1 y.nr qc1) (.slice qa2 y.nn qc2) (y.nb) (y.nr) (y.nn) (flatR y.b y.nb) (flatR y.r y.nr) (flatR y.n y.nn) (flatR (y.ct 0) y.ng)))
  case first => as_aux_lemma =>
    have HAX := Lib.hid (HA7.out.below (Below.refl _ w7).drew)
    have HRX := Lib.hid (HR7.out.below (Below.refl _ w7).drew)
    refine wp_region_Z (S := fun X => X.cell? ⟨w5.heap.size, 1, none⟩ = some (.slice vba y.nb vbc) ∧ X.cell? ⟨w5.heap.size, 2, none⟩ = some (.slice vra y.nr vrc) ∧ X.cell? ⟨w5.heap.size, 3, none⟩ = some (.slice vna y.nn vnc)) (by kernel_rfl) (⟨HAX.out.cell (.tail _ (.head _)) 1, HAX.out.cell (.tail _ (.head _)) 2, HAX.out.cell (.tail _ (.head _)) 3⟩) (fun hS => ?_)
    generalize w7.drew = X at *
    refine tk [1, 2, 5, 6, 9, 10] ?_
    repeat (refine tkZ (oi := ⟨_, _, _, _, _, _⟩) (v := ?_) rfl (by kernel_rfl) (by rfl) (fun _ _ _ h => h) hS ?_ ?_; rotate_left; (· rintro W' ⟨z0, z1, z2⟩; go_simp; try with_reducible rfl); try simp only [Act.put, putA, putZ, putS])
    refine tk0 ?_
    refine wpAnyZ_next (rs := [0, 4, 8]) (by kernel_rfl) (by simp) ?_
    refine NextZ.cons (o := ⟨some 45, _, _, _, _, _⟩) rfl (fun K hK => ?_) ?_
    ·
     go_simp
     have HA0 := Lib.hid (HAX.out.below (below_alloc X (.cells #[] 43)))
     have HR0 : Hid (Rws w5.heap.size (X.alloc (.cells #[] 43)) (rows5 y vb vc nb nc2 F (.slice (some ⟨X.heap.size, 0, none⟩) 0 0) (.slice none 0 0) (.slice none 0 0) (0) (0) (0) ([]) ([]) ([]) (flatR (y.ct 0) y.ng))) := HRX.out.made HAX.out.fr.size 1 43 2
     refine hK.out _ _ (⟨HA0.out.cell (.tail _ (.head _)) 1, HA0.out.cell (.tail _ (.head _)) 2, HA0.out.cell (.tail _ (.head _)) 3⟩) (fun hS => ?_)
     clear hK K
     try simp only [Act.put, putA, putZ, putS]
     generalize X.heap.size = J0 at *
     generalize (X.alloc (.cells #[] 43)) = X0 at *
     refine wpAnyZ_next (rs := [3, 4, 8]) (by kernel_rfl) (by simp) ?_
     refine NextZ.cons (o := ⟨some 48, _, _, _, _, _⟩) rfl (fun K hK => ?_) ?_
     ·
      refine step_append_src X0 (by rfl) (.tmp 45) (.tmp 47) 23 (by rfl) w5.heap.size 43 i0 (.agg #[.int .i64 0, .int .i64 0]) 2 16 Try.underlying23 hi0 hz0 hz1 hz2 rfl (by decide) (.slice (some ⟨J0, 0, none⟩) 0 0) 0 [] (by rfl) (HR0.out.own 1 _ rfl) vba y.nb vbc (flatR y.b y.nb) (by rfl) ((HL.out.2.1.below HA0.out.fr).src) (flatR_one _ _) (by unfold maxLen; omega) (by omega) HA0.out.fr.size ?_
      intro v1 X1 hown hgr hl
      rw [Nat.zero_add, List.nil_append] at hown
      obtain ⟨qa0, qc0, rfl⟩ := own_slice' hown
      have HA1 := Lib.hid (BF.grow HA0.out HR0.out (i := 1) rfl (List.forall_mem_cons.2 ⟨(show 25 ≠ 43 by decide), List.forall_mem_cons.2 ⟨(show 25 ≠ 43 by decide), List.forall_mem_nil _⟩⟩) (Nat.le_refl _) hgr)
      have HR1 : Hid (Rws w5.heap.size X1 (rows5 y vb vc nb nc2 F (.slice qa0 y.nb qc0) (.slice none 0 0) (.slice none 0 0) (y.nb) (0) (0) (flatR y.b y.nb) ([]) ([]) (flatR (y.ct 0) y.ng))) := HR0.out.app (i := 1) rfl hown hgr hl
      clear hown hgr hl
      refine hK.out _ _ (⟨HA1.out.cell (.tail _ (.head _)) 1, HA1.out.cell (.tail _ (.head _)) 2, HA1.out.cell (.tail _ (.head _)) 3⟩) (fun hS => ?_)
      clear hK K
      try simp only [Act.put, putA, putZ, putS]
      refine tZ 12 (oi := ⟨_, _, _, _, _, _⟩) (v := ?_) rfl (by kernel_rfl) (by rfl) (fun _ _ _ h => h) hS ?_ ?_
      rotate_left
      · rintro W' ⟨z0, z1, z2⟩; go_simp; try with_reducible rfl
      try simp only [Act.put, putA, putZ, putS]
      refine wpAnyZ_next (rs := [4, 8]) (by kernel_rfl) (by simp) ?_
      refine NextZ.cons (o := ⟨some 49, _, _, _, _, _⟩) rfl (fun K hK => ?_) ?_
      ·
       go_simp
       have HA2 := Lib.hid (HA1.out.below (below_alloc X1 (.cells #[] 43)))
       have HR2 : Hid (Rws w5.heap.size (X1.alloc (.cells #[] 43)) (rows5 y vb vc nb nc2 F (.slice qa0 y.nb qc0) (.slice (some ⟨X1.heap.size, 0, none⟩) 0 0) (.slice none 0 0) (y.nb) (0) (0) (flatR y.b y.nb) ([]) ([]) (flatR (y.ct 0) y.ng))) := HR1.out.made HA1.out.fr.size 2 43 2
       refine hK.out _ _ (⟨HA2.out.cell (.tail _ (.head _)) 1, HA2.out.cell (.tail _ (.head _)) 2, HA2.out.cell (.tail _ (.head _)) 3⟩) (fun hS => ?_)
       clear hK K
       try simp only [Act.put, putA, putZ, putS]
       generalize X1.heap.size = J1 at *
       generalize (X1.alloc (.cells #[] 43)) = X2 at *
       refine wpAnyZ_next (rs := [7, 8]) (by kernel_rfl) (by simp) ?_
       refine NextZ.cons (o := ⟨some 52, _, _, _, _, _⟩) rfl (fun K hK => ?_) ?_
       ·
        refine step_append_src X2 (by rfl) (.tmp 49) (.tmp 51) 23 (by rfl) w5.heap.size 43 i0 (.agg #[.int .i64 0, .int .i64 0]) 2 16 Try.underlying23 hi0 hz0 hz1 hz2 rfl (by decide) (.slice (some ⟨J1, 0, none⟩) 0 0) 0 [] (by rfl) (HR2.out.own 2 _ rfl) vra y.nr vrc (flatR y.r y.nr) (by rfl) ((HL.out.2.2.1.below HA2.out.fr).src) (flatR_one _ _) (by unfold maxLen; omega) (by omega) HA2.out.fr.size ?_
        intro v3 X3 hown hgr hl
        rw [Nat.zero_add, List.nil_append] at hown
        obtain ⟨qa1, qc1, rfl⟩ := own_slice' hown
        have HA3 := Lib.hid (BF.grow HA2.out HR2.out (i := 2) rfl (List.forall_mem_cons.2 ⟨(show 25 ≠ 43 by decide), List.forall_mem_cons.2 ⟨(show 25 ≠ 43 by decide), List.forall_mem_nil _⟩⟩) (Nat.le_refl _) hgr)
        have HR3 : Hid (Rws w5.heap.size X3 (rows5 y vb vc nb nc2 F (.slice qa0 y.nb qc0) (.slice qa1 y.nr qc1) (.slice none 0 0) (y.nb) (y.nr) (0) (flatR y.b y.nb) (flatR y.r y.nr) ([]) (flatR (y.ct 0) y.ng))) := HR2.out.app (i := 2) rfl hown hgr hl
        clear hown hgr hl
        refine hK.out _ _ (⟨HA3.out.cell (.tail _ (.head _)) 1, HA3.out.cell (.tail _ (.head _)) 2, HA3.out.cell (.tail _ (.head _)) 3⟩) (fun hS => ?_)
        clear hK K
        try simp only [Act.put, putA, putZ, putS]
        refine wpAnyZ_next (rs := [8]) (by kernel_rfl) (by simp) ?_
        refine NextZ.cons (o := ⟨some 53, _, _, _, _, _⟩) rfl (fun K hK => ?_) NextZ.nil
        go_simp
        have HA4 := Lib.hid (HA3.out.below (below_alloc X3 (.cells #[] 43)))
        have HR4 : Hid (Rws w5.heap.size (X3.alloc (.cells #[] 43)) (rows5 y vb vc nb nc2 F (.slice qa0 y.nb qc0) (.slice qa1 y.nr qc1) (.slice (some ⟨X3.heap.size, 0, none⟩) 0 0) (y.nb) (y.nr) (0) (flatR y.b y.nb) (flatR y.r y.nr) ([]) (flatR (y.ct 0) y.ng))) := HR3.out.made HA3.out.fr.size 3 43 2
        refine hK.out _ _ (⟨HA4.out.cell (.tail _ (.head _)) 1, HA4.out.cell (.tail _ (.head _)) 2, HA4.out.cell (.tail _ (.head _)) 3⟩) (fun hS => ?_)
        clear hK K
        try simp only [Act.put, putA, putZ, putS]
        generalize X3.heap.size = J2 at *
        generalize (X3.alloc (.cells #[] 43)) = X4 at *
        refine wpAnyZ_next (rs := [11]) (by kernel_rfl) (by simp) ?_
        refine NextZ.cons (o := ⟨some 56, _, _, _, _, _⟩) rfl (fun K hK => ?_) NextZ.nil
        refine step_append_src X4 (by rfl) (.tmp 53) (.tmp 55) 23 (by rfl) w5.heap.size 43 i0 (.agg #[.int .i64 0, .int .i64 0]) 2 16 Try.underlying23 hi0 hz0 hz1 hz2 rfl (by decide) (.slice (some ⟨J2, 0, none⟩) 0 0) 0 [] (by rfl) (HR4.out.own 3 _ rfl) vna y.nn vnc (flatR y.n y.nn) (by rfl) ((HL.out.2.2.2.below HA4.out.fr).src) (flatR_one _ _) (by unfold maxLen; omega) (by omega) HA4.out.fr.size ?_
        intro v5 X5 hown hgr hl
        rw [Nat.zero_add, List.nil_append] at hown
        obtain ⟨qa2, qc2, rfl⟩ := own_slice' hown
        have HA5 := Lib.hid (BF.grow HA4.out HR4.out (i := 3) rfl (List.forall_mem_cons.2 ⟨(show 25 ≠ 43 by decide), List.forall_mem_cons.2 ⟨(show 25 ≠ 43 by decide), List.forall_mem_nil _⟩⟩) (Nat.le_refl _) hgr)
        have HR5 : Hid (Rws w5.heap.size X5 (rows5 y vb vc nb nc2 F (.slice qa0 y.nb qc0) (.slice qa1 y.nr qc1) (.slice qa2 y.nn qc2) (y.nb) (y.nr) (y.nn) (flatR y.b y.nb) (flatR y.r y.nr) (flatR y.n y.nn) (flatR (y.ct 0) y.ng))) := HR4.out.app (i := 3) rfl hown hgr hl
        clear hown hgr hl
        refine hK.out _ _ (⟨HA5.out.cell (.tail _ (.head _)) 1, HA5.out.cell (.tail _ (.head _)) 2, HA5.out.cell (.tail _ (.head _)) 3⟩) (fun hS => ?_)
        clear hK K
        try simp only [Act.put, putA, putZ, putS]
        refine wpAnyZ_next (rs := [13]) (by kernel_rfl) (by simp) ?_
        refine NextZ.cons (o := ⟨none, _, _, _, _, _⟩) rfl (fun K hK => ?_) NextZ.nil
        have e0 := HA5.out.cell (.head _) 1
        have f0 := HA5.out.thaw (.head _) 1
        have HA6 := Lib.hid (BF.set1 (i := 1) (cs' := #[.slice (some ⟨vb, 0, none⟩) y.nc vc, .slice qa0 y.nb qc0, .slice vra y.nr vrc, .slice vna y.nn vnc]) HA5.out (.head _) (.slice qa0 y.nb qc0) (by simp) rfl (L' := [(w5.heap.size, #[.slice (some ⟨cb, co, none⟩) y.nc vcc, .slice vba y.nb vbc, .slice vra y.nr vrc, .slice vna y.nn vnc], 25)]) (List.forall_mem_cons.2 ⟨⟨show w5.heap.size ≠ xb by omega, (.tail _ (.head _))⟩, List.forall_mem_nil _⟩))
        have HR6 : Hid (Rws w5.heap.size (X5.setCell ⟨xb, 1, none⟩ (.slice qa0 y.nb qc0)) (rows5 y vb vc nb nc2 F (.slice qa0 y.nb qc0) (.slice qa1 y.nr qc1) (.slice qa2 y.nn qc2) (y.nb) (y.nr) (y.nn) (flatR y.b y.nb) (flatR y.r y.nr) (flatR y.n y.nn) (flatR (y.ct 0) y.ng))) := HR5.out.tab (HA5.out.bk _ _ _ (.head _)).2 (rows5_ty (by decide) (by decide)) (Fr.set _ _ _ _)
        go_simp
        refine hK.out _ _ (⟨HA6.out.cell (.tail _ (.head _)) 1, HA6.out.cell (.tail _ (.head _)) 2, HA6.out.cell (.tail _ (.head _)) 3⟩) (fun hS => ?_)
        clear hK K
        (try simp only [Act.put])
        clear e0 f0
        refine tZ 14 (oi := ⟨_, _, _, _, _, _⟩) (v := ?_) rfl (by kernel_rfl) (by rfl) (fun _ _ _ h => h) hS ?_ ?_
        rotate_left
        · rintro W' ⟨z0, z1, z2⟩; go_simp; try with_reducible rfl
        try simp only [Act.put, putA, putZ, putS]
        refine wpAnyZ_next (rs := [15]) (by kernel_rfl) (by simp) ?_
        refine NextZ.cons (o := ⟨none, _, _, _, _, _⟩) rfl (fun K hK => ?_) NextZ.nil
        have e0 := HA6.out.cell (.head _) 2
        have f0 := HA6.out.thaw (.head _) 2
        have HA7 := Lib.hid (BF.set1 (i := 2) (cs' := #[.slice (some ⟨vb, 0, none⟩) y.nc vc, .slice qa0 y.nb qc0, .slice qa1 y.nr qc1, .slice vna y.nn vnc]) HA6.out (.head _) (.slice qa1 y.nr qc1) (by simp) rfl (L' := [(w5.heap.size, #[.slice (some ⟨cb, co, none⟩) y.nc vcc, .slice vba y.nb vbc, .slice vra y.nr vrc, .slice vna y.nn vnc], 25)]) (List.forall_mem_cons.2 ⟨⟨show w5.heap.size ≠ xb by omega, (.tail _ (.head _))⟩, List.forall_mem_nil _⟩))
        have HR7 : Hid (Rws w5.heap.size ((X5.setCell ⟨xb, 1, none⟩ (.slice qa0 y.nb qc0)).setCell ⟨xb, 2, none⟩ (.slice qa1 y.nr qc1)) (rows5 y vb vc nb nc2 F (.slice qa0 y.nb qc0) (.slice qa1 y.nr qc1) (.slice qa2 y.nn qc2) (y.nb) (y.nr) (y.nn) (flatR y.b y.nb) (flatR y.r y.nr) (flatR y.n y.nn) (flatR (y.ct 0) y.ng))) := HR6.out.tab (HA6.out.bk _ _ _ (.head _)).2 (rows5_ty (by decide) (by decide)) (Fr.set _ _ _ _)
        go_simp
        refine hK.out _ _ (⟨HA7.out.cell (.tail _ (.head _)) 1, HA7.out.cell (.tail _ (.head _)) 2, HA7.out.cell (.tail _ (.head _)) 3⟩) (fun hS => ?_)
        clear hK K
        (try simp only [Act.put])
        clear e0 f0
        refine tZ 16 (oi := ⟨_, _, _, _, _, _⟩) (v := ?_) rfl (by kernel_rfl) (by rfl) (fun _ _ _ h => h) hS ?_ ?_
        rotate_left
        · rintro W' ⟨z0, z1, z2⟩; go_simp; try with_reducible rfl
        try simp only [Act.put, putA, putZ, putS]
        refine wpAnyZ_next (rs := [17]) (by kernel_rfl) (by simp) ?_
        refine NextZ.last (o := ⟨none, _, _, _, _, _⟩) rfl (by kernel_rfl) (fun K hK => ?_)
        have e0 := HA7.out.cell (.head _) 3
        have f0 := HA7.out.thaw (.head _) 3
        have HA8 := Lib.hid (BF.set1 (i := 3) (cs' := #[.slice (some ⟨vb, 0, none⟩) y.nc vc, .slice qa0 y.nb qc0, .slice qa1 y.nr qc1, .slice qa2 y.nn qc2]) HA7.out (.head _) (.slice qa2 y.nn qc2) (by simp) rfl (L' := [(w5.heap.size, #[.slice (some ⟨cb, co, none⟩) y.nc vcc, .slice vba y.nb vbc, .slice vra y.nr vrc, .slice vna y.nn vnc], 25)]) (List.forall_mem_cons.2 ⟨⟨show w5.heap.size ≠ xb by omega, (.tail _ (.head _))⟩, List.forall_mem_nil _⟩))
        have HR8 : Hid (Rws w5.heap.size (((X5.setCell ⟨xb, 1, none⟩ (.slice qa0 y.nb qc0)).setCell ⟨xb, 2, none⟩ (.slice qa1 y.nr qc1)).setCell ⟨xb, 3, none⟩ (.slice qa2 y.nn qc2)) (rows5 y vb vc nb nc2 F (.slice qa0 y.nb qc0) (.slice qa1 y.nr qc1) (.slice qa2 y.nn qc2) (y.nb) (y.nr) (y.nn) (flatR y.b y.nb) (flatR y.r y.nr) (flatR y.n y.nn) (flatR (y.ct 0) y.ng))) := HR7.out.tab (HA7.out.bk _ _ _ (.head _)).2 (rows5_ty (by decide) (by decide)) (Fr.set _ _ _ _)
        go_simp
        refine hK.out _ _ ?_
        clear hK K
        (try simp only [Act.put])
        clear e0 f0
        refine wpAnyZ_done (by kernel_rfl) ?_ _
        go_wp2_with fail
        go_meet
        exact ⟨qa0, qc0, qa1, qc1, qa2, qc2, HA8.out, HR8.out⟩
       refine NextZ.cons (o := ⟨some 53, _, _, _, _, _⟩) rfl (fun K hK => ?_) NextZ.nil
       go_simp
       have HA9 := Lib.hid (HA2.out.below (below_alloc X2 (.cells #[] 43)))
       have HR9 : Hid (Rws w5.heap.size (X2.alloc (.cells #[] 43)) (rows5 y vb vc nb nc2 F (.slice qa0 y.nb qc0) (.slice (some ⟨J1, 0, none⟩) 0 0) (.slice (some ⟨X2.heap.size, 0, none⟩) 0 0) (y.nb) (0) (0) (flatR y.b y.nb) ([]) ([]) (flatR (y.ct 0) y.ng))) := HR2.out.made HA2.out.fr.size 3 43 2
       refine hK.out _ _ (⟨HA9.out.cell (.tail _ (.head _)) 1, HA9.out.cell (.tail _ (.head _)) 2, HA9.out.cell (.tail _ (.head _)) 3⟩) (fun hS => ?_)
       clear hK K
       try simp only [Act.put, putA, putZ, putS]
       generalize X2.heap.size = J2 at *
       generalize (X2.alloc (.cells #[] 43)) = X9 at *
       refine wpAnyZ_next (rs := [7]) (by kernel_rfl) (by simp) ?_
       refine NextZ.cons (o := ⟨some 52, _, _, _, _, _⟩) rfl (fun K hK => ?_) NextZ.nil
       refine step_append_src X9 (by rfl) (.tmp 49) (.tmp 51) 23 (by rfl) w5.heap.size 43 i0 (.agg #[.int .i64 0, .int .i64 0]) 2 16 Try.underlying23 hi0 hz0 hz1 hz2 rfl (by decide) (.slice (some ⟨J1, 0, none⟩) 0 0) 0 [] (by rfl) (HR9.out.own 2 _ rfl) vra y.nr vrc (flatR y.r y.nr) (by rfl) ((HL.out.2.2.1.below HA9.out.fr).src) (flatR_one _ _) (by unfold maxLen; omega) (by omega) HA9.out.fr.size ?_
       intro v10 X10 hown hgr hl
       rw [Nat.zero_add, List.nil_append] at hown
       obtain ⟨qa1, qc1, rfl⟩ := own_slice' hown
       have HA10 := Lib.hid (BF.grow HA9.out HR9.out (i := 2) rfl (List.forall_mem_cons.2 ⟨(show 25 ≠ 43 by decide), List.forall_mem_cons.2 ⟨(show 25 ≠ 43 by decide), List.forall_mem_nil _⟩⟩) (Nat.le_refl _) hgr)
       have HR10 : Hid (Rws w5.heap.size X10 (rows5 y vb vc nb nc2 F (.slice qa0 y.nb qc0) (.slice qa1 y.nr qc1) (.slice (some ⟨J2, 0, none⟩) 0 0) (y.nb) (y.nr) (0) (flatR y.b y.nb) (flatR y.r y.nr) ([]) (flatR (y.ct 0) y.ng))) := HR9.out.app (i := 2) rfl hown hgr hl
       clear hown hgr hl
       refine hK.out _ _ (⟨HA10.out.cell (.tail _ (.head _)) 1, HA10.out.cell (.tail _ (.head _)) 2, HA10.out.cell (.tail _ (.head _)) 3⟩) (fun hS => ?_)
       clear hK K
       try simp only [Act.put, putA, putZ, putS]
       refine wpAnyZ_next (rs := [11]) (by kernel_rfl) (by simp) ?_
       refine NextZ.cons (o := ⟨some 56, _, _, _, _, _⟩) rfl (fun K hK => ?_) NextZ.nil
       refine step_append_src X10 (by rfl) (.tmp 53) (.tmp 55) 23 (by rfl) w5.heap.size 43 i0 (.agg #[.int .i64 0, .int .i64 0]) 2 16 Try.underlying23 hi0 hz0 hz1 hz2 rfl (by decide) (.slice (some ⟨J2, 0, none⟩) 0 0) 0 [] (by rfl) (HR10.out.own 3 _ rfl) vna y.nn vnc (flatR y.n y.nn) (by rfl) ((HL.out.2.2.2.below HA10.out.fr).src) (flatR_one _ _) (by unfold maxLen; omega) (by omega) HA10.out.fr.size ?_
       intro v11 X11 hown hgr hl
       rw [Nat.zero_add, List.nil_append] at hown
       obtain ⟨qa2, qc2, rfl⟩ := own_slice' hown
       have HA11 := Lib.hid (BF.grow HA10.out HR10.out (i := 3) rfl (List.forall_mem_cons.2 ⟨(show 25 ≠ 43 by decide), List.forall_mem_cons.2 ⟨(show 25 ≠ 43 by decide), List.forall_mem_nil _⟩⟩) (Nat.le_refl _) hgr)
       have HR11 : Hid (Rws w5.heap.size X11 (rows5 y vb vc nb nc2 F (.slice qa0 y.nb qc0) (.slice qa1 y.nr qc1) (.slice qa2 y.nn qc2) (y.nb) (y.nr) (y.nn) (flatR y.b y.nb) (flatR y.r y.nr) (flatR y.n y.nn) (flatR (y.ct 0) y.ng))) := HR10.out.app (i := 3) rfl hown hgr hl
       clear hown hgr hl
       refine hK.out _ _ (⟨HA11.out.cell (.tail _ (.head _)) 1, HA11.out.cell (.tail _ (.head _)) 2, HA11.out.cell (.tail _ (.head _)) 3⟩) (fun hS => ?_)
       clear hK K
       try simp only [Act.put, putA, putZ, putS]
       refine wpAnyZ_next (rs := [13]) (by kernel_rfl) (by simp) ?_
       refine NextZ.cons (o := ⟨none, _, _, _, _, _⟩) rfl (fun K hK => ?_) NextZ.nil
       have e0 := HA11.out.cell (.head _) 1
       have f0 := HA11.out.thaw (.head _) 1
       have HA12 := Lib.hid (BF.set1 (i := 1) (cs' := #[.slice (some ⟨vb, 0, none⟩) y.nc vc, .slice qa0 y.nb qc0, .slice vra y.nr vrc, .slice vna y.nn vnc]) HA11.out (.head _) (.slice qa0 y.nb qc0) (by simp) rfl (L' := [(w5.heap.size, #[.slice (some ⟨cb, co, none⟩) y.nc vcc, .slice vba y.nb vbc, .slice vra y.nr vrc, .slice vna y.nn vnc], 25)]) (List.forall_mem_cons.2 ⟨⟨show w5.heap.size ≠ xb by omega, (.tail _ (.head _))⟩, List.forall_mem_nil _⟩))
       have HR12 : Hid (Rws w5.heap.size (X11.setCell ⟨xb, 1, none⟩ (.slice qa0 y.nb qc0)) (rows5 y vb vc nb nc2 F (.slice qa0 y.nb qc0) (.slice qa1 y.nr qc1) (.slice qa2 y.nn qc2) (y.nb) (y.nr) (y.nn) (flatR y.b y.nb) (flatR y.r y.nr) (flatR y.n y.nn) (flatR (y.ct 0) y.ng))) := HR11.out.tab (HA11.out.bk _ _ _ (.head _)).2 (rows5_ty (by decide) (by decide)) (Fr.set _ _ _ _)
       go_simp
       refine hK.out _ _ (⟨HA12.out.cell (.tail _ (.head _)) 1, HA12.out.cell (.tail _ (.head _)) 2, HA12.out.cell (.tail _ (.head _)) 3⟩) (fun hS => ?_)
       clear hK K
       (try simp only [Act.put])
       clear e0 f0
       refine tZ 14 (oi := ⟨_, _, _, _, _, _⟩) (v := ?_) rfl (by kernel_rfl) (by rfl) (fun _ _ _ h => h) hS ?_ ?_
       rotate_left
       · rintro W' ⟨z0, z1, z2⟩; go_simp; try with_reducible rfl
       try simp only [Act.put, putA, putZ, putS]
       refine wpAnyZ_next (rs := [15]) (by kernel_rfl) (by simp) ?_
       refine NextZ.cons (o := ⟨none, _, _, _, _, _⟩) rfl (fun K hK => ?_) NextZ.nil
       have e0 := HA12.out.cell (.head _) 2
       have f0 := HA12.out.thaw (.head _) 2
       have HA13 := Lib.hid (BF.set1 (i := 2) (cs' := #[.slice (some ⟨vb, 0, none⟩) y.nc vc, .slice qa0 y.nb qc0, .slice qa1 y.nr qc1, .slice vna y.nn vnc]) HA12.out (.head _) (.slice qa1 y.nr qc1) (by simp) rfl (L' := [(w5.heap.size, #[.slice (some ⟨cb, co, none⟩) y.nc vcc, .slice vba y.nb vbc, .slice vra y.nr vrc, .slice vna y.nn vnc], 25)]) (List.forall_mem_cons.2 ⟨⟨show w5.heap.size ≠ xb by omega, (.tail _ (.head _))⟩, List.forall_mem_nil _⟩))
       have HR13 : Hid (Rws w5.heap.size ((X11.setCell ⟨xb, 1, none⟩ (.slice qa0 y.nb qc0)).setCell ⟨xb, 2, none⟩ (.slice qa1 y.nr qc1)) (rows5 y vb vc nb nc2 F (.slice qa0 y.nb qc0) (.slice qa1 y.nr qc1) (.slice qa2 y.nn qc2) (y.nb) (y.nr) (y.nn) (flatR y.b y.nb) (flatR y.r y.nr) (flatR y.n y.nn) (flatR (y.ct 0) y.ng))) := HR12.out.tab (HA12.out.bk _ _ _ (.head _)).2 (rows5_ty (by decide) (by decide)) (Fr.set _ _ _ _)
       go_simp
       refine hK.out _ _ (⟨HA13.out.cell (.tail _ (.head _)) 1, HA13.out.cell (.tail _ (.head _)) 2, HA13.out.cell (.tail _ (.head _)) 3⟩) (fun hS => ?_)
       clear hK K
       (try simp only [Act.put])
       clear e0 f0
       refine tZ 16 (oi := ⟨_, _, _, _, _, _⟩) (v := ?_) rfl (by kernel_rfl) (by rfl) (fun _ _ _ h => h) hS ?_ ?_
       rotate_left
       · rintro W' ⟨z0, z1, z2⟩; go_simp; try with_reducible rfl
       try simp only [Act.put, putA, putZ, putS]
       refine wpAnyZ_next (rs := [17]) (by kernel_rfl) (by simp) ?_
       refine NextZ.last (o := ⟨none, _, _, _, _, _⟩) rfl (by kernel_rfl) (fun K hK => ?_)
       have e0 := HA13.out.cell (.head _) 3
       have f0 := HA13.out.thaw (.head _) 3
       have HA14 := Lib.hid (BF.set1 (i := 3) (cs' := #[.slice (some ⟨vb, 0, none⟩) y.nc vc, .slice qa0 y.nb qc0, .slice qa1 y.nr qc1, .slice qa2 y.nn qc2]) HA13.out (.head _) (.slice qa2 y.nn qc2) (by simp) rfl (L' := [(w5.heap.size, #[.slice (some ⟨cb, co, none⟩) y.nc vcc, .slice vba y.nb vbc, .slice vra y.nr vrc, .slice vna y.nn vnc], 25)]) (List.forall_mem_cons.2 ⟨⟨show w5.heap.size ≠ xb by omega, (.tail _ (.head _))⟩, List.forall_mem_nil _⟩))
       have HR14 : Hid (Rws w5.heap.size (((X11.setCell ⟨xb, 1, none⟩ (.slice qa0 y.nb qc0)).setCell ⟨xb, 2, none⟩ (.slice qa1 y.nr qc1)).setCell ⟨xb, 3, none⟩ (.slice qa2 y.nn qc2)) (rows5 y vb vc nb nc2 F (.slice qa0 y.nb qc0) (.slice qa1 y.nr qc1) (.slice qa2 y.nn qc2) (y.nb) (y.nr) (y.nn) (flatR y.b y.nb) (flatR y.r y.nr) (flatR y.n y.nn) (flatR (y.ct 0) y.ng))) := HR13.out.tab (HA13.out.bk _ _ _ (.head _)).2 (rows5_ty (by decide) (by decide)) (Fr.set _ _ _ _)
       go_simp
       refine hK.out _ _ ?_
       clear hK K
       (try simp only [Act.put])
       clear e0 f0
       refine wpAnyZ_done (by kernel_rfl) ?_ _
       go_wp2_with fail
       go_meet
       exact ⟨qa0, qc0, qa1, qc1, qa2, qc2, HA14.out, HR14.out⟩
      refine NextZ.cons (o := ⟨some 53, _, _, _, _, _⟩) rfl (fun K hK => ?_) NextZ.nil
      go_simp
      have HA15 := Lib.hid (HA1.out.below (below_alloc X1 (.cells #[] 43)))
      have HR15 : Hid (Rws w5.heap.size (X1.alloc (.cells #[] 43)) (rows5 y vb vc nb nc2 F (.slice qa0 y.nb qc0) (.slice none 0 0) (.slice (some ⟨X1.heap.size, 0, none⟩) 0 0) (y.nb) (0) (0) (flatR y.b y.nb) ([]) ([]) (flatR (y.ct 0) y.ng))) := HR1.out.made HA1.out.fr.size 3 43 2
      refine hK.out _ _ (⟨HA15.out.cell (.tail _ (.head _)) 1, HA15.out.cell (.tail _ (.head _)) 2, HA15.out.cell (.tail _ (.head _)) 3⟩) (fun hS => ?_)
      clear hK K
      try simp only [Act.put, putA, putZ, putS]
      generalize X1.heap.size = J2 at *
      generalize (X1.alloc (.cells #[] 43)) = X15 at *
      refine wpAnyZ_next (rs := [4]) (by kernel_rfl) (by simp) ?_
      refine NextZ.cons (o := ⟨some 49, _, _, _, _, _⟩) rfl (fun K hK => ?_) NextZ.nil
      go_simp
      have HA16 := Lib.hid (HA15.out.below (below_alloc X15 (.cells #[] 43)))
      have HR16 : Hid (Rws w5.heap.size (X15.alloc (.cells #[] 43)) (rows5 y vb vc nb nc2 F (.slice qa0 y.nb qc0) (.slice (some ⟨X15.heap.size, 0, none⟩) 0 0) (.slice (some ⟨J2, 0, none⟩) 0 0) (y.nb) (0) (0) (flatR y.b y.nb) ([]) ([]) (flatR (y.ct 0) y.ng))) := HR15.out.made HA15.out.fr.size 2 43 2
      refine hK.out _ _ (⟨HA16.out.cell (.tail _ (.head _)) 1, HA16.out.cell (.tail _ (.head _)) 2, HA16.out.cell (.tail _ (.head _)) 3⟩) (fun hS => ?_)
      clear hK K
      try simp only [Act.put, putA, putZ, putS]
      generalize X15.heap.size = J1 at *
      generalize (X15.alloc (.cells #[] 43)) = X16 at *
      refine wpAnyZ_next (rs := [7]) (by kernel_rfl) (by simp) ?_
      refine NextZ.cons (o := ⟨some 52, _, _, _, _, _⟩) rfl (fun K hK => ?_) NextZ.nil
      refine step_append_src X16 (by rfl) (.tmp 49) (.tmp 51) 23 (by rfl) w5.heap.size 43 i0 (.agg #[.int .i64 0, .int .i64 0]) 2 16 Try.underlying23 hi0 hz0 hz1 hz2 rfl (by decide) (.slice (some ⟨J1, 0, none⟩) 0 0) 0 [] (by rfl) (HR16.out.own 2 _ rfl) vra y.nr vrc (flatR y.r y.nr) (by rfl) ((HL.out.2.2.1.below HA16.out.fr).src) (flatR_one _ _) (by unfold maxLen; omega) (by omega) HA16.out.fr.size ?_
      intro v17 X17 hown hgr hl
      rw [Nat.zero_add, List.nil_append] at hown
      obtain ⟨qa1, qc1, rfl⟩ := own_slice' hown
      have HA17 := Lib.hid (BF.grow HA16.out HR16.out (i := 2) rfl (List.forall_mem_cons.2 ⟨(show 25 ≠ 43 by decide), List.forall_mem_cons.2 ⟨(show 25 ≠ 43 by decide), List.forall_mem_nil _⟩⟩) (Nat.le_refl _) hgr)
      have HR17 : Hid (Rws w5.heap.size X17 (rows5 y vb vc nb nc2 F (.slice qa0 y.nb qc0) (.slice qa1 y.nr qc1) (.slice (some ⟨J2, 0, none⟩) 0 0) (y.nb) (y.nr) (0) (flatR y.b y.nb) (flatR y.r y.nr) ([]) (flatR (y.ct 0) y.ng))) := HR16.out.app (i := 2) rfl hown hgr hl
      clear hown hgr hl
      refine hK.out _ _ (⟨HA17.out.cell (.tail _ (.head _)) 1, HA17.out.cell (.tail _ (.head _)) 2, HA17.out.cell (.tail _ (.head _)) 3⟩) (fun hS => ?_)
      clear hK K
      try simp only [Act.put, putA, putZ, putS]
      refine wpAnyZ_next (rs := [11]) (by kernel_rfl) (by simp) ?_
      refine NextZ.cons (o := ⟨some 56, _, _, _, _, _⟩) rfl (fun K hK => ?_) NextZ.nil
      refine step_append_src X17 (by rfl) (.tmp 53) (.tmp 55) 23 (by rfl) w5.heap.size 43 i0 (.agg #[.int .i64 0, .int .i64 0]) 2 16 Try.underlying23 hi0 hz0 hz1 hz2 rfl (by decide) (.slice (some ⟨J2, 0, none⟩) 0 0) 0 [] (by rfl) (HR17.out.own 3 _ rfl) vna y.nn vnc (flatR y.n y.nn) (by rfl) ((HL.out.2.2.2.below HA17.out.fr).src) (flatR_one _ _) (by unfold maxLen; omega) (by omega) HA17.out.fr.size ?_
      intro v18 X18 hown hgr hl
      rw [Nat.zero_add, List.nil_append] at hown
      obtain ⟨qa2, qc2, rfl⟩ := own_slice' hown
      have HA18 := Lib.hid (BF.grow HA17.out HR17.out (i := 3) rfl (List.forall_mem_cons.2 ⟨(show 25 ≠ 43 by decide), List.forall_mem_cons.2 ⟨(show 25 ≠ 43 by decide), List.forall_mem_nil _⟩⟩) (Nat.le_refl _) hgr)
      have HR18 : Hid (Rws w5.heap.size X18 (rows5 y vb vc nb nc2 F (.slice qa0 y.nb qc0) (.slice qa1 y.nr qc1) (.slice qa2 y.nn qc2) (y.nb) (y.nr) (y.nn) (flatR y.b y.nb) (flatR y.r y.nr) (flatR y.n y.nn) (flatR (y.ct 0) y.ng))) := HR17.out.app (i := 3) rfl hown hgr hl
      clear hown hgr hl
      refine hK.out _ _ (⟨HA18.out.cell (.tail _ (.head _)) 1, HA18.out.cell (.tail _ (.head _)) 2, HA18.out.cell (.tail _ (.head _)) 3⟩) (fun hS => ?_)
      clear hK K
      try simp only [Act.put, putA, putZ, putS]
      refine wpAnyZ_next (rs := [13]) (by kernel_rfl) (by simp) ?_
      refine NextZ.cons (o := ⟨none, _, _, _, _, _⟩) rfl (fun K hK => ?_) NextZ.nil
      have e0 := HA18.out.cell (.head _) 1
      have f0 := HA18.out.thaw (.head _) 1
      have HA19 := Lib.hid (BF.set1 (i := 1) (cs' := #[.slice (some ⟨vb, 0, none⟩) y.nc vc, .slice qa0 y.nb qc0, .slice vra y.nr vrc, .slice vna y.nn vnc]) HA18.out (.head _) (.slice qa0 y.nb qc0) (by simp) rfl (L' := [(w5.heap.size, #[.slice (some ⟨cb, co, none⟩) y.nc vcc, .slice vba y.nb vbc, .slice vra y.nr vrc, .slice vna y.nn vnc], 25)]) (List.forall_mem_cons.2 ⟨⟨show w5.heap.size ≠ xb by omega, (.tail _ (.head _))⟩, List.forall_mem_nil _⟩))
      have HR19 : Hid (Rws w5.heap.size (X18.setCell ⟨xb, 1, none⟩ (.slice qa0 y.nb qc0)) (rows5 y vb vc nb nc2 F (.slice qa0 y.nb qc0) (.slice qa1 y.nr qc1) (.slice qa2 y.nn qc2) (y.nb) (y.nr) (y.nn) (flatR y.b y.nb) (flatR y.r y.nr) (flatR y.n y.nn) (flatR (y.ct 0) y.ng))) := HR18.out.tab (HA18.out.bk _ _ _ (.head _)).2 (rows5_ty (by decide) (by decide)) (Fr.set _ _ _ _)
      go_simp
      refine hK.out _ _ (⟨HA19.out.cell (.tail _ (.head _)) 1, HA19.out.cell (.tail _ (.head _)) 2, HA19.out.cell (.tail _ (.head _)) 3⟩) (fun hS => ?_)
      clear hK K
      (try simp only [Act.put])
      clear e0 f0
      refine tZ 14 (oi := ⟨_, _, _, _, _, _⟩) (v := ?_) rfl (by kernel_rfl) (by rfl) (fun _ _ _ h => h) hS ?_ ?_
      rotate_left
      · rintro W' ⟨z0, z1, z2⟩; go_simp; try with_reducible rfl
      try simp only [Act.put, putA, putZ, putS]
      refine wpAnyZ_next (rs := [15]) (by kernel_rfl) (by simp) ?_
      refine NextZ.cons (o := ⟨none, _, _, _, _, _⟩) rfl (fun K hK => ?_) NextZ.nil
      have e0 := HA19.out.cell (.head _) 2
      have f0 := HA19.out.thaw (.head _) 2
      have HA20 := Lib.hid (BF.set1 (i := 2) (cs' := #[.slice (some ⟨vb, 0, none⟩) y.nc vc, .slice qa0 y.nb qc0, .slice qa1 y.nr qc1, .slice vna y.nn vnc]) HA19.out (.head _) (.slice qa1 y.nr qc1) (by simp) rfl (L' := [(w5.heap.size, #[.slice (some ⟨cb, co, none⟩) y.nc vcc, .slice vba y.nb vbc, .slice vra y.nr vrc, .slice vna y.nn vnc], 25)]) (List.forall_mem_cons.2 ⟨⟨show w5.heap.size ≠ xb by omega, (.tail _ (.head _))⟩, List.forall_mem_nil _⟩))
      have HR20 : Hid (Rws w5.heap.size ((X18.setCell ⟨xb, 1, none⟩ (.slice qa0 y.nb qc0)).setCell ⟨xb, 2, none⟩ (.slice qa1 y.nr qc1)) (rows5 y vb vc nb nc2 F (.slice qa0 y.nb qc0) (.slice qa1 y.nr qc1) (.slice qa2 y.nn qc2) (y.nb) (y.nr) (y.nn) (flatR y.b y.nb) (flatR y.r y.nr) (flatR y.n y.nn) (flatR (y.ct 0) y.ng))) := HR19.out.tab (HA19.out.bk _ _ _ (.head _)).2 (rows5_ty (by decide) (by decide)) (Fr.set _ _ _ _)
      go_simp
      refine hK.out _ _ (⟨HA20.out.cell (.tail _ (.head _)) 1, HA20.out.cell (.tail _ (.head _)) 2, HA20.out.cell (.tail _ (.head _)) 3⟩) (fun hS => ?_)
      clear hK K
      (try simp only [Act.put])
      clear e0 f0
      refine tZ 16 (oi := ⟨_, _, _, _, _, _⟩) (v := ?_) rfl (by kernel_rfl) (by rfl) (fun _ _ _ h => h) hS ?_ ?_
      rotate_left
      · rintro W' ⟨z0, z1, z2⟩; go_simp; try with_reducible rfl
      try simp only [Act.put, putA, putZ, putS]
      refine wpAnyZ_next (rs := [17]) (by kernel_rfl) (by simp) ?_
      refine NextZ.last (o := ⟨none, _, _, _, _, _⟩) rfl (by kernel_rfl) (fun K hK => ?_)
      have e0 := HA20.out.cell (.head _) 3
      have f0 := HA20.out.thaw (.head _) 3
      have HA21 := Lib.hid (BF.set1 (i := 3) (cs' := #[.slice (some ⟨vb, 0, none⟩) y.nc vc, .slice qa0 y.nb qc0, .slice qa1 y.nr qc1, .slice qa2 y.nn qc2]) HA20.out (.head _) (.slice qa2 y.nn qc2) (by simp) rfl (L' := [(w5.heap.size, #[.slice (some ⟨cb, co, none⟩) y.nc vcc, .slice vba y.nb vbc, .slice vra y.nr vrc, .slice vna y.nn vnc], 25)]) (List.forall_mem_cons.2 ⟨⟨show w5.heap.size ≠ xb by omega, (.tail _ (.head _))⟩, List.forall_mem_nil _⟩))
      have HR21 : Hid (Rws w5.heap.size (((X18.setCell ⟨xb, 1, none⟩ (.slice qa0 y.nb qc0)).setCell ⟨xb, 2, none⟩ (.slice qa1 y.nr qc1)).setCell ⟨xb, 3, none⟩ (.slice qa2 y.nn qc2)) (rows5 y vb vc nb nc2 F (.slice qa0 y.nb qc0) (.slice qa1 y.nr qc1) (.slice qa2 y.nn qc2) (y.nb) (y.nr) (y.nn) (flatR y.b y.nb) (flatR y.r y.nr) (flatR y.n y.nn) (flatR (y.ct 0) y.ng))) := HR20.out.tab (HA20.out.bk _ _ _ (.head _)).2 (rows5_ty (by decide) (by decide)) (Fr.set _ _ _ _)
      go_simp
      refine hK.out _ _ ?_
      clear hK K
      (try simp only [Act.put])
      clear e0 f0
      refine wpAnyZ_done (by kernel_rfl) ?_ _
      go_wp2_with fail
      go_meet
      exact ⟨qa0, qc0, qa1, qc1, qa2, qc2, HA21.out, HR21.out⟩
     refine NextZ.cons (o := ⟨some 49, _, _, _, _, _⟩) rfl (fun K hK => ?_) ?_
     ·
      go_simp
      have HA22 := Lib.hid (HA0.out.below (below_alloc X0 (.cells #[] 43)))
      have HR22 : Hid (Rws w5.heap.size (X0.alloc (.cells #[] 43)) (rows5 y vb vc nb nc2 F (.slice (some ⟨J0, 0, none⟩) 0 0) (.slice (some ⟨X0.heap.size, 0, none⟩) 0 0) (.slice none 0 0) (0) (0) (0) ([]) ([]) ([]) (flatR (y.ct 0) y.ng))) := HR0.out.made HA0.out.fr.size 2 43 2
      refine hK.out _ _ (⟨HA22.out.cell (.tail _ (.head _)) 1, HA22.out.cell (.tail _ (.head _)) 2, HA22.out.cell (.tail _ (.head _)) 3⟩) (fun hS => ?_)
      clear hK K
      try simp only [Act.put, putA, putZ, putS]
      generalize X0.heap.size = J1 at *
      generalize (X0.alloc (.cells #[] 43)) = X22 at *
      refine wpAnyZ_next (rs := [3, 8]) (by kernel_rfl) (by simp) ?_
      refine NextZ.cons (o := ⟨some 48, _, _, _, _, _⟩) rfl (fun K hK => ?_) ?_
      ·
       refine step_append_src X22 (by rfl) (.tmp 45) (.tmp 47) 23 (by rfl) w5.heap.size 43 i0 (.agg #[.int .i64 0, .int .i64 0]) 2 16 Try.underlying23 hi0 hz0 hz1 hz2 rfl (by decide) (.slice (some ⟨J0, 0, none⟩) 0 0) 0 [] (by rfl) (HR22.out.own 1 _ rfl) vba y.nb vbc (flatR y.b y.nb) (by rfl) ((HL.out.2.1.below HA22.out.fr).src) (flatR_one _ _) (by unfold maxLen; omega) (by omega) HA22.out.fr.size ?_
       intro v23 X23 hown hgr hl
       rw [Nat.zero_add, List.nil_append] at hown
       obtain ⟨qa0, qc0, rfl⟩ := own_slice' hown
       have HA23 := Lib.hid (BF.grow HA22.out HR22.out (i := 1) rfl (List.forall_mem_cons.2 ⟨(show 25 ≠ 43 by decide), List.forall_mem_cons.2 ⟨(show 25 ≠ 43 by decide), List.forall_mem_nil _⟩⟩) (Nat.le_refl _) hgr)
       have HR23 : Hid (Rws w5.heap.size X23 (rows5 y vb vc nb nc2 F (.slice qa0 y.nb qc0) (.slice (some ⟨J1, 0, none⟩) 0 0) (.slice none 0 0) (y.nb) (0) (0) (flatR y.b y.nb) ([]) ([]) (flatR (y.ct 0) y.ng))) := HR22.out.app (i := 1) rfl hown hgr hl
       clear hown hgr hl
       refine hK.out _ _ (⟨HA23.out.cell (.tail _ (.head _)) 1, HA23.out.cell (.tail _ (.head _)) 2, HA23.out.cell (.tail _ (.head _)) 3⟩) (fun hS => ?_)
       clear hK K
       try simp only [Act.put, putA, putZ, putS]
       refine tZ 12 (oi := ⟨_, _, _, _, _, _⟩) (v := ?_) rfl (by kernel_rfl) (by rfl) (fun _ _ _ h => h) hS ?_ ?_
       rotate_left
       · rintro W' ⟨z0, z1, z2⟩; go_simp; try with_reducible rfl
       try simp only [Act.put, putA, putZ, putS]
       refine wpAnyZ_next (rs := [7, 8]) (by kernel_rfl) (by simp) ?_
       refine NextZ.cons (o := ⟨some 52, _, _, _, _, _⟩) rfl (fun K hK => ?_) ?_
       ·
        refine step_append_src X23 (by rfl) (.tmp 49) (.tmp 51) 23 (by rfl) w5.heap.size 43 i0 (.agg #[.int .i64 0, .int .i64 0]) 2 16 Try.underlying23 hi0 hz0 hz1 hz2 rfl (by decide) (.slice (some ⟨J1, 0, none⟩) 0 0) 0 [] (by rfl) (HR23.out.own 2 _ rfl) vra y.nr vrc (flatR y.r y.nr) (by rfl) ((HL.out.2.2.1.below HA23.out.fr).src) (flatR_one _ _) (by unfold maxLen; omega) (by omega) HA23.out.fr.size ?_
        intro v24 X24 hown hgr hl
        rw [Nat.zero_add, List.nil_append] at hown
        obtain ⟨qa1, qc1, rfl⟩ := own_slice' hown
        have HA24 := Lib.hid (BF.grow HA23.out HR23.out (i := 2) rfl (List.forall_mem_cons.2 ⟨(show 25 ≠ 43 by decide), List.forall_mem_cons.2 ⟨(show 25 ≠ 43 by decide), List.forall_mem_nil _⟩⟩) (Nat.le_refl _) hgr)
        have HR24 : Hid (Rws w5.heap.size X24 (rows5 y vb vc nb nc2 F (.slice qa0 y.nb qc0) (.slice qa1 y.nr qc1) (.slice none 0 0) (y.nb) (y.nr) (0) (flatR y.b y.nb) (flatR y.r y.nr) ([]) (flatR (y.ct 0) y.ng))) := HR23.out.app (i := 2) rfl hown hgr hl
        clear hown hgr hl
        refine hK.out _ _ (⟨HA24.out.cell (.tail _ (.head _)) 1, HA24.out.cell (.tail _ (.head _)) 2, HA24.out.cell (.tail _ (.head _)) 3⟩) (fun hS => ?_)
        clear hK K
        try simp only [Act.put, putA, putZ, putS]
        refine wpAnyZ_next (rs := [8]) (by kernel_rfl) (by simp) ?_
        refine NextZ.cons (o := ⟨some 53, _, _, _, _, _⟩) rfl (fun K hK => ?_) NextZ.nil
        go_simp
        have HA25 := Lib.hid (HA24.out.below (below_alloc X24 (.cells #[] 43)))
        have HR25 : Hid (Rws w5.heap.size (X24.alloc (.cells #[] 43)) (rows5 y vb vc nb nc2 F (.slice qa0 y.nb qc0) (.slice qa1 y.nr qc1) (.slice (some ⟨X24.heap.size, 0, none⟩) 0 0) (y.nb) (y.nr) (0) (flatR y.b y.nb) (flatR y.r y.nr) ([]) (flatR (y.ct 0) y.ng))) := HR24.out.made HA24.out.fr.size 3 43 2
        refine hK.out _ _ (⟨HA25.out.cell (.tail _ (.head _)) 1, HA25.out.cell (.tail _ (.head _)) 2, HA25.out.cell (.tail _ (.head _)) 3⟩) (fun hS => ?_)
        clear hK K
        try simp only [Act.put, putA, putZ, putS]
        generalize X24.heap.size = J2 at *
        generalize (X24.alloc (.cells #[] 43)) = X25 at *
        refine wpAnyZ_next (rs := [11]) (by kernel_rfl) (by simp) ?_
        refine NextZ.cons (o := ⟨some 56, _, _, _, _, _⟩) rfl (fun K hK => ?_) NextZ.nil
        refine step_append_src X25 (by rfl) (.tmp 53) (.tmp 55) 23 (by rfl) w5.heap.size 43 i0 (.agg #[.int .i64 0, .int .i64 0]) 2 16 Try.underlying23 hi0 hz0 hz1 hz2 rfl (by decide) (.slice (some ⟨J2, 0, none⟩) 0 0) 0 [] (by rfl) (HR25.out.own 3 _ rfl) vna y.nn vnc (flatR y.n y.nn) (by rfl) ((HL.out.2.2.2.below HA25.out.fr).src) (flatR_one _ _) (by unfold maxLen; omega) (by omega) HA25.out.fr.size ?_
        intro v26 X26 hown hgr hl
        rw [Nat.zero_add, List.nil_append] at hown
        obtain ⟨qa2, qc2, rfl⟩ := own_slice' hown
        have HA26 := Lib.hid (BF.grow HA25.out HR25.out (i := 3) rfl (List.forall_mem_cons.2 ⟨(show 25 ≠ 43 by decide), List.forall_mem_cons.2 ⟨(show 25 ≠ 43 by decide), List.forall_mem_nil _⟩⟩) (Nat.le_refl _) hgr)
        have HR26 : Hid (Rws w5.heap.size X26 (rows5 y vb vc nb nc2 F (.slice qa0 y.nb qc0) (.slice qa1 y.nr qc1) (.slice qa2 y.nn qc2) (y.nb) (y.nr) (y.nn) (flatR y.b y.nb) (flatR y.r y.nr) (flatR y.n y.nn) (flatR (y.ct 0) y.ng))) := HR25.out.app (i := 3) rfl hown hgr hl
        clear hown hgr hl
        refine hK.out _ _ (⟨HA26.out.cell (.tail _ (.head _)) 1, HA26.out.cell (.tail _ (.head _)) 2, HA26.out.cell (.tail _ (.head _)) 3⟩) (fun hS => ?_)
        clear hK K
        try simp only [Act.put, putA, putZ, putS]
        refine wpAnyZ_next (rs := [13]) (by kernel_rfl) (by simp) ?_
        refine NextZ.cons (o := ⟨none, _, _, _, _, _⟩) rfl (fun K hK => ?_) NextZ.nil
        have e0 := HA26.out.cell (.head _) 1
        have f0 := HA26.out.thaw (.head _) 1
        have HA27 := Lib.hid (BF.set1 (i := 1) (cs' := #[.slice (some ⟨vb, 0, none⟩) y.nc vc, .slice qa0 y.nb qc0, .slice vra y.nr vrc, .slice vna y.nn vnc]) HA26.out (.head _) (.slice qa0 y.nb qc0) (by simp) rfl (L' := [(w5.heap.size, #[.slice (some ⟨cb, co, none⟩) y.nc vcc, .slice vba y.nb vbc, .slice vra y.nr vrc, .slice vna y.nn vnc], 25)]) (List.forall_mem_cons.2 ⟨⟨show w5.heap.size ≠ xb by omega, (.tail _ (.head _))⟩, List.forall_mem_nil _⟩))
        have HR27 : Hid (Rws w5.heap.size (X26.setCell ⟨xb, 1, none⟩ (.slice qa0 y.nb qc0)) (rows5 y vb vc nb nc2 F (.slice qa0 y.nb qc0) (.slice qa1 y.nr qc1) (.slice qa2 y.nn qc2) (y.nb) (y.nr) (y.nn) (flatR y.b y.nb) (flatR y.r y.nr) (flatR y.n y.nn) (flatR (y.ct 0) y.ng))) := HR26.out.tab (HA26.out.bk _ _ _ (.head _)).2 (rows5_ty (by decide) (by decide)) (Fr.set _ _ _ _)
        go_simp
        refine hK.out _ _ (⟨HA27.out.cell (.tail _ (.head _)) 1, HA27.out.cell (.tail _ (.head _)) 2, HA27.out.cell (.tail _ (.head _)) 3⟩) (fun hS => ?_)
        clear hK K
        (try simp only [Act.put])
        clear e0 f0
        refine tZ 14 (oi := ⟨_, _, _, _, _, _⟩) (v := ?_) rfl (by kernel_rfl) (by rfl) (fun _ _ _ h => h) hS ?_ ?_
        rotate_left
        · rintro W' ⟨z0, z1, z2⟩; go_simp; try with_reducible rfl
        try simp only [Act.put, putA, putZ, putS]
        refine wpAnyZ_next (rs := [15]) (by kernel_rfl) (by simp) ?_
        refine NextZ.cons (o := ⟨none, _, _, _, _, _⟩) rfl (fun K hK => ?_) NextZ.nil
        have e0 := HA27.out.cell (.head _) 2
        have f0 := HA27.out.thaw (.head _) 2
        have HA28 := Lib.hid (BF.set1 (i := 2) (cs' := #[.slice (some ⟨vb, 0, none⟩) y.nc vc, .slice qa0 y.nb qc0, .slice qa1 y.nr qc1, .slice vna y.nn vnc]) HA27.out (.head _) (.slice qa1 y.nr qc1) (by simp) rfl (L' := [(w5.heap.size, #[.slice (some ⟨cb, co, none⟩) y.nc vcc, .slice vba y.nb vbc, .slice vra y.nr vrc, .slice vna y.nn vnc], 25)]) (List.forall_mem_cons.2 ⟨⟨show w5.heap.size ≠ xb by omega, (.tail _ (.head _))⟩, List.forall_mem_nil _⟩))
        have HR28 : Hid (Rws w5.heap.size ((X26.setCell ⟨xb, 1, none⟩ (.slice qa0 y.nb qc0)).setCell ⟨xb, 2, none⟩ (.slice qa1 y.nr qc1)) (rows5 y vb vc nb nc2 F (.slice qa0 y.nb qc0) (.slice qa1 y.nr qc1) (.slice qa2 y.nn qc2) (y.nb) (y.nr) (y.nn) (flatR y.b y.nb) (flatR y.r y.nr) (flatR y.n y.nn) (flatR (y.ct 0) y.ng))) := HR27.out.tab (HA27.out.bk _ _ _ (.head _)).2 (rows5_ty (by decide) (by decide)) (Fr.set _ _ _ _)
        go_simp
        refine hK.out _ _ (⟨HA28.out.cell (.tail _ (.head _)) 1, HA28.out.cell (.tail _ (.head _)) 2, HA28.out.cell (.tail _ (.head _)) 3⟩) (fun hS => ?_)
        clear hK K
        (try simp only [Act.put])
        clear e0 f0
        refine tZ 16 (oi := ⟨_, _, _, _, _, _⟩) (v := ?_) rfl (by kernel_rfl) (by rfl) (fun _ _ _ h => h) hS ?_ ?_
        rotate_left
        · rintro W' ⟨z0, z1, z2⟩; go_simp; try with_reducible rfl
        try simp only [Act.put, putA, putZ, putS]
        refine wpAnyZ_next (rs := [17]) (by kernel_rfl) (by simp) ?_
        refine NextZ.last (o := ⟨none, _, _, _, _, _⟩) rfl (by kernel_rfl) (fun K hK => ?_)
        have e0 := HA28.out.cell (.head _) 3
        have f0 := HA28.out.thaw (.head _) 3
        have HA29 := Lib.hid (BF.set1 (i := 3) (cs' := #[.slice (some ⟨vb, 0, none⟩) y.nc vc, .slice qa0 y.nb qc0, .slice qa1 y.nr qc1, .slice qa2 y.nn qc2]) HA28.out (.head _) (.slice qa2 y.nn qc2) (by simp) rfl (L' := [(w5.heap.size, #[.slice (some ⟨cb, co, none⟩) y.nc vcc, .slice vba y.nb vbc, .slice vra y.nr vrc, .slice vna y.nn vnc], 25)]) (List.forall_mem_cons.2 ⟨⟨show w5.heap.size ≠ xb by omega, (.tail _ (.head _))⟩, List.forall_mem_nil _⟩))
        have HR29 : Hid (Rws w5.heap.size (((X26.setCell ⟨xb, 1, none⟩ (.slice qa0 y.nb qc0)).setCell ⟨xb, 2, none⟩ (.slice qa1 y.nr qc1)).setCell ⟨xb, 3, none⟩ (.slice qa2 y.nn qc2)) (rows5 y vb vc nb nc2 F (.slice qa0 y.nb qc0) (.slice qa1 y.nr qc1) (.slice qa2 y.nn qc2) (y.nb) (y.nr) (y.nn) (flatR y.b y.nb) (flatR y.r y.nr) (flatR y.n y.nn) (flatR (y.ct 0) y.ng))) := HR28.out.tab (HA28.out.bk _ _ _ (.head _)).2 (rows5_ty (by decide) (by decide)) (Fr.set _ _ _ _)
        go_simp
        refine hK.out _ _ ?_
        clear hK K
        (try simp only [Act.put])
        clear e0 f0
        refine wpAnyZ_done (by kernel_rfl) ?_ _
        go_wp2_with fail
        go_meet
        exact ⟨qa0, qc0, qa1, qc1, qa2, qc2, HA29.out, HR29.out⟩
       refine NextZ.cons (o := ⟨some 53, _, _, _, _, _⟩) rfl (fun K hK => ?_) NextZ.nil
       go_simp
       have HA30 := Lib.hid (HA23.out.below (below_alloc X23 (.cells #[] 43)))
       have HR30 : Hid (Rws w5.heap.size (X23.alloc (.cells #[] 43)) (rows5 y vb vc nb nc2 F (.slice qa0 y.nb qc0) (.slice (some ⟨J1, 0, none⟩) 0 0) (.slice (some ⟨X23.heap.size, 0, none⟩) 0 0) (y.nb) (0) (0) (flatR y.b y.nb) ([]) ([]) (flatR (y.ct 0) y.ng))) := HR23.out.made HA23.out.fr.size 3 43 2
       refine hK.out _ _ (⟨HA30.out.cell (.tail _ (.head _)) 1, HA30.out.cell (.tail _ (.head _)) 2, HA30.out.cell (.tail _ (.head _)) 3⟩) (fun hS => ?_)
       clear hK K
       try simp only [Act.put, putA, putZ, putS]
       generalize X23.heap.size = J2 at *
       generalize (X23.alloc (.cells #[] 43)) = X30 at *
       refine wpAnyZ_next (rs := [7]) (by kernel_rfl) (by simp) ?_
       refine NextZ.cons (o := ⟨some 52, _, _, _, _, _⟩) rfl (fun K hK => ?_) NextZ.nil
       refine step_append_src X30 (by rfl) (.tmp 49) (.tmp 51) 23 (by rfl) w5.heap.size 43 i0 (.agg #[.int .i64 0, .int .i64 0]) 2 16 Try.underlying23 hi0 hz0 hz1 hz2 rfl (by decide) (.slice (some ⟨J1, 0, none⟩) 0 0) 0 [] (by rfl) (HR30.out.own 2 _ rfl) vra y.nr vrc (flatR y.r y.nr) (by rfl) ((HL.out.2.2.1.below HA30.out.fr).src) (flatR_one _ _) (by unfold maxLen; omega) (by omega) HA30.out.fr.size ?_
       intro v31 X31 hown hgr hl
       rw [Nat.zero_add, List.nil_append] at hown
       obtain ⟨qa1, qc1, rfl⟩ := own_slice' hown
       have HA31 := Lib.hid (BF.grow HA30.out HR30.out (i := 2) rfl (List.forall_mem_cons.2 ⟨(show 25 ≠ 43 by decide), List.forall_mem_cons.2 ⟨(show 25 ≠ 43 by decide), List.forall_mem_nil _⟩⟩) (Nat.le_refl _) hgr)
       have HR31 : Hid (Rws w5.heap.size X31 (rows5 y vb vc nb nc2 F (.slice qa0 y.nb qc0) (.slice qa1 y.nr qc1) (.slice (some ⟨J2, 0, none⟩) 0 0) (y.nb) (y.nr) (0) (flatR y.b y.nb) (flatR y.r y.nr) ([]) (flatR (y.ct 0) y.ng))) := HR30.out.app (i := 2) rfl hown hgr hl
       clear hown hgr hl
       refine hK.out _ _ (⟨HA31.out.cell (.tail _ (.head _)) 1, HA31.out.cell (.tail _ (.head _)) 2, HA31.out.cell (.tail _ (.head _)) 3⟩) (fun hS => ?_)
       clear hK K
       try simp only [Act.put, putA, putZ, putS]
       refine wpAnyZ_next (rs := [11]) (by kernel_rfl) (by simp) ?_
       refine NextZ.cons (o := ⟨some 56, _, _, _, _, _⟩) rfl (fun K hK => ?_) NextZ.nil
       refine step_append_src X31 (by rfl) (.tmp 53) (.tmp 55) 23 (by rfl) w5.heap.size 43 i0 (.agg #[.int .i64 0, .int .i64 0]) 2 16 Try.underlying23 hi0 hz0 hz1 hz2 rfl (by decide) (.slice (some ⟨J2, 0, none⟩) 0 0) 0 [] (by rfl) (HR31.out.own 3 _ rfl) vna y.nn vnc (flatR y.n y.nn) (by rfl) ((HL.out.2.2.2.below HA31.out.fr).src) (flatR_one _ _) (by unfold maxLen; omega) (by omega) HA31.out.fr.size ?_
       intro v32 X32 hown hgr hl
       rw [Nat.zero_add, List.nil_append] at hown
       obtain ⟨qa2, qc2, rfl⟩ := own_slice' hown
       have HA32 := Lib.hid (BF.grow HA31.out HR31.out (i := 3) rfl (List.forall_mem_cons.2 ⟨(show 25 ≠ 43 by decide), List.forall_mem_cons.2 ⟨(show 25 ≠ 43 by decide), List.forall_mem_nil _⟩⟩) (Nat.le_refl _) hgr)
       have HR32 : Hid (Rws w5.heap.size X32 (rows5 y vb vc nb nc2 F (.slice qa0 y.nb qc0) (.slice qa1 y.nr qc1) (.slice qa2 y.nn qc2) (y.nb) (y.nr) (y.nn) (flatR y.b y.nb) (flatR y.r y.nr) (flatR y.n y.nn) (flatR (y.ct 0) y.ng))) := HR31.out.app (i := 3) rfl hown hgr hl
       clear hown hgr hl
       refine hK.out _ _ (⟨HA32.out.cell (.tail _ (.head _)) 1, HA32.out.cell (.tail _ (.head _)) 2, HA32.out.cell (.tail _ (.head _)) 3⟩) (fun hS => ?_)
       clear hK K
       try simp only [Act.put, putA, putZ, putS]
       refine wpAnyZ_next (rs := [13]) (by kernel_rfl) (by simp) ?_
       refine NextZ.cons (o := ⟨none, _, _, _, _, _⟩) rfl (fun K hK => ?_) NextZ.nil
       have e0 := HA32.out.cell (.head _) 1
       have f0 := HA32.out.thaw (.head _) 1
       have HA33 := Lib.hid (BF.set1 (i := 1) (cs' := #[.slice (some ⟨vb, 0, none⟩) y.nc vc, .slice qa0 y.nb qc0, .slice vra y.nr vrc, .slice vna y.nn vnc]) HA32.out (.head _) (.slice qa0 y.nb qc0) (by simp) rfl (L' := [(w5.heap.size, #[.slice (some ⟨cb, co, none⟩) y.nc vcc, .slice vba y.nb vbc, .slice vra y.nr vrc, .slice vna y.nn vnc], 25)]) (List.forall_mem_cons.2 ⟨⟨show w5.heap.size ≠ xb by omega, (.tail _ (.head _))⟩, List.forall_mem_nil _⟩))
       have HR33 : Hid (Rws w5.heap.size (X32.setCell ⟨xb, 1, none⟩ (.slice qa0 y.nb qc0)) (rows5 y vb vc nb nc2 F (.slice qa0 y.nb qc0) (.slice qa1 y.nr qc1) (.slice qa2 y.nn qc2) (y.nb) (y.nr) (y.nn) (flatR y.b y.nb) (flatR y.r y.nr) (flatR y.n y.nn) (flatR (y.ct 0) y.ng))) := HR32.out.tab (HA32.out.bk _ _ _ (.head _)).2 (rows5_ty (by decide) (by decide)) (Fr.set _ _ _ _)
       go_simp
       refine hK.out _ _ (⟨HA33.out.cell (.tail _ (.head _)) 1, HA33.out.cell (.tail _ (.head _)) 2, HA33.out.cell (.tail _ (.head _)) 3⟩) (fun hS => ?_)
       clear hK K
       (try simp only [Act.put])
       clear e0 f0
       refine tZ 14 (oi := ⟨_, _, _, _, _, _⟩) (v := ?_) rfl (by kernel_rfl) (by rfl) (fun _ _ _ h => h) hS ?_ ?_
       rotate_left
       · rintro W' ⟨z0, z1, z2⟩; go_simp; try with_reducible rfl
       try simp only [Act.put, putA, putZ, putS]
       refine wpAnyZ_next (rs := [15]) (by kernel_rfl) (by simp) ?_
       refine NextZ.cons (o := ⟨none, _, _, _, _, _⟩) rfl (fun K hK => ?_) NextZ.nil
       have e0 := HA33.out.cell (.head _) 2
       have f0 := HA33.out.thaw (.head _) 2
       have HA34 := Lib.hid (BF.set1 (i := 2) (cs' := #[.slice (some ⟨vb, 0, none⟩) y.nc vc, .slice qa0 y.nb qc0, .slice qa1 y.nr qc1, .slice vna y.nn vnc]) HA33.out (.head _) (.slice qa1 y.nr qc1) (by simp) rfl (L' := [(w5.heap.size, #[.slice (some ⟨cb, co, none⟩) y.nc vcc, .slice vba y.nb vbc, .slice vra y.nr vrc, .slice vna y.nn vnc], 25)]) (List.forall_mem_cons.2 ⟨⟨show w5.heap.size ≠ xb by omega, (.tail _ (.head _))⟩, List.forall_mem_nil _⟩))
       have HR34 : Hid (Rws w5.heap.size ((X32.setCell ⟨xb, 1, none⟩ (.slice qa0 y.nb qc0)).setCell ⟨xb, 2, none⟩ (.slice qa1 y.nr qc1)) (rows5 y vb vc nb nc2 F (.slice qa0 y.nb qc0) (.slice qa1 y.nr qc1) (.slice qa2 y.nn qc2) (y.nb) (y.nr) (y.nn) (flatR y.b y.nb) (flatR y.r y.nr) (flatR y.n y.nn) (flatR (y.ct 0) y.ng))) := HR33.out.tab (HA33.out.bk _ _ _ (.head _)).2 (rows5_ty (by decide) (by decide)) (Fr.set _ _ _ _)
       go_simp
       refine hK.out _ _ (⟨HA34.out.cell (.tail _ (.head _)) 1, HA34.out.cell (.tail _ (.head _)) 2, HA34.out.cell (.tail _ (.head _)) 3⟩) (fun hS => ?_)
       clear hK K
       (try simp only [Act.put])
       clear e0 f0
       refine tZ 16 (oi := ⟨_, _, _, _, _, _⟩) (v := ?_) rfl (by kernel_rfl) (by rfl) (fun _ _ _ h => h) hS ?_ ?_
       rotate_left
       · rintro W' ⟨z0, z1, z2⟩; go_simp; try with_reducible rfl
       try simp only [Act.put, putA, putZ, putS]
       refine wpAnyZ_next (rs := [17]) (by kernel_rfl) (by simp) ?_
       refine NextZ.last (o := ⟨none, _, _, _, _, _⟩) rfl (by kernel_rfl) (fun K hK => ?_)
       have e0 := HA34.out.cell (.head _) 3
       have f0 := HA34.out.thaw (.head _) 3
       have HA35 := Lib.hid (BF.set1 (i := 3) (cs' := #[.slice (some ⟨vb, 0, none⟩) y.nc vc, .slice qa0 y.nb qc0, .slice qa1 y.nr qc1, .slice qa2 y.nn qc2]) HA34.out (.head _) (.slice qa2 y.nn qc2) (by simp) rfl (L' := [(w5.heap.size, #[.slice (some ⟨cb, co, none⟩) y.nc vcc, .slice vba y.nb vbc, .slice vra y.nr vrc, .slice vna y.nn vnc], 25)]) (List.forall_mem_cons.2 ⟨⟨show w5.heap.size ≠ xb by omega, (.tail _ (.head _))⟩, List.forall_mem_nil _⟩))
       have HR35 : Hid (Rws w5.heap.size (((X32.setCell ⟨xb, 1, none⟩ (.slice qa0 y.nb qc0)).setCell ⟨xb, 2, none⟩ (.slice qa1 y.nr qc1)).setCell ⟨xb, 3, none⟩ (.slice qa2 y.nn qc2)) (rows5 y vb vc nb nc2 F (.slice qa0 y.nb qc0) (.slice qa1 y.nr qc1) (.slice qa2 y.nn qc2) (y.nb) (y.nr) (y.nn) (flatR y.b y.nb) (flatR y.r y.nr) (flatR y.n y.nn) (flatR (y.ct 0) y.ng))) := HR34.out.tab (HA34.out.bk _ _ _ (.head _)).2 (rows5_ty (by decide) (by decide)) (Fr.set _ _ _ _)
       go_simp
       refine hK.out _ _ ?_
       clear hK K
       (try simp only [Act.put])
       clear e0 f0
       refine wpAnyZ_done (by kernel_rfl) ?_ _
       go_wp2_with fail
       go_meet
       exact ⟨qa0, qc0, qa1, qc1, qa2, qc2, HA35.out, HR35.out⟩
      refine NextZ.cons (o := ⟨some 53, _, _, _, _, _⟩) rfl (fun K hK => ?_) NextZ.nil
      go_simp
      have HA36 := Lib.hid (HA22.out.below (below_alloc X22 (.cells #[] 43)))
      have HR36 : Hid (Rws w5.heap.size (X22.alloc (.cells #[] 43)) (rows5 y vb vc nb nc2 F (.slice (some ⟨J0, 0, none⟩) 0 0) (.slice (some ⟨J1, 0, none⟩) 0 0) (.slice (some ⟨X22.heap.size, 0, none⟩) 0 0) (0) (0) (0) ([]) ([]) ([]) (flatR (y.ct 0) y.ng))) := HR22.out.made HA22.out.fr.size 3 43 2
      refine hK.out _ _ (⟨HA36.out.cell (.tail _ (.head _)) 1, HA36.out.cell (.tail _ (.head _)) 2, HA36.out.cell (.tail _ (.head _)) 3⟩) (fun hS => ?_)
      clear hK K
      try simp only [Act.put, putA, putZ, putS]
      generalize X22.heap.size = J2 at *
      generalize (X22.alloc (.cells #[] 43)) = X36 at *
      refine wpAnyZ_next (rs := [3]) (by kernel_rfl) (by simp) ?_
      refine NextZ.cons (o := ⟨some 48, _, _, _, _, _⟩) rfl (fun K hK => ?_) NextZ.nil
      refine step_append_src X36 (by rfl) (.tmp 45) (.tmp 47) 23 (by rfl) w5.heap.size 43 i0 (.agg #[.int .i64 0, .int .i64 0]) 2 16 Try.underlying23 hi0 hz0 hz1 hz2 rfl (by decide) (.slice (some ⟨J0, 0, none⟩) 0 0) 0 [] (by rfl) (HR36.out.own 1 _ rfl) vba y.nb vbc (flatR y.b y.nb) (by rfl) ((HL.out.2.1.below HA36.out.fr).src) (flatR_one _ _) (by unfold maxLen; omega) (by omega) HA36.out.fr.size ?_
      intro v37 X37 hown hgr hl
      rw [Nat.zero_add, List.nil_append] at hown
      obtain ⟨qa0, qc0, rfl⟩ := own_slice' hown
      have HA37 := Lib.hid (BF.grow HA36.out HR36.out (i := 1) rfl (List.forall_mem_cons.2 ⟨(show 25 ≠ 43 by decide), List.forall_mem_cons.2 ⟨(show 25 ≠ 43 by decide), List.forall_mem_nil _⟩⟩) (Nat.le_refl _) hgr)
      have HR37 : Hid (Rws w5.heap.size X37 (rows5 y vb vc nb nc2 F (.slice qa0 y.nb qc0) (.slice (some ⟨J1, 0, none⟩) 0 0) (.slice (some ⟨J2, 0, none⟩) 0 0) (y.nb) (0) (0) (flatR y.b y.nb) ([]) ([]) (flatR (y.ct 0) y.ng))) := HR36.out.app (i := 1) rfl hown hgr hl
      clear hown hgr hl
      refine hK.out _ _ (⟨HA37.out.cell (.tail _ (.head _)) 1, HA37.out.cell (.tail _ (.head _)) 2, HA37.out.cell (.tail _ (.head _)) 3⟩) (fun hS => ?_)
      clear hK K
      try simp only [Act.put, putA, putZ, putS]
      refine tZ 12 (oi := ⟨_, _, _, _, _, _⟩) (v := ?_) rfl (by kernel_rfl) (by rfl) (fun _ _ _ h => h) hS ?_ ?_
      rotate_left
      · rintro W' ⟨z0, z1, z2⟩; go_simp; try with_reducible rfl
      try simp only [Act.put, putA, putZ, putS]
      refine wpAnyZ_next (rs := [7]) (by kernel_rfl) (by simp) ?_
      refine NextZ.cons (o := ⟨some 52, _, _, _, _, _⟩) rfl (fun K hK => ?_) NextZ.nil
      refine step_append_src X37 (by rfl) (.tmp 49) (.tmp 51) 23 (by rfl) w5.heap.size 43 i0 (.agg #[.int .i64 0, .int .i64 0]) 2 16 Try.underlying23 hi0 hz0 hz1 hz2 rfl (by decide) (.slice (some ⟨J1, 0, none⟩) 0 0) 0 [] (by rfl) (HR37.out.own 2 _ rfl) vra y.nr vrc (flatR y.r y.nr) (by rfl) ((HL.out.2.2.1.below HA37.out.fr).src) (flatR_one _ _) (by unfold maxLen; omega) (by omega) HA37.out.fr.size ?_
      intro v38 X38 hown hgr hl
      rw [Nat.zero_add, List.nil_append] at hown
      obtain ⟨qa1, qc1, rfl⟩ := own_slice' hown
      have HA38 := Lib.hid (BF.grow HA37.out HR37.out (i := 2) rfl (List.forall_mem_cons.2 ⟨(show 25 ≠ 43 by decide), List.forall_mem_cons.2 ⟨(show 25 ≠ 43 by decide), List.forall_mem_nil _⟩⟩) (Nat.le_refl _) hgr)
      have HR38 : Hid (Rws w5.heap.size X38 (rows5 y vb vc nb nc2 F (.slice qa0 y.nb qc0) (.slice qa1 y.nr qc1) (.slice (some ⟨J2, 0, none⟩) 0 0) (y.nb) (y.nr) (0) (flatR y.b y.nb) (flatR y.r y.nr) ([]) (flatR (y.ct 0) y.ng))) := HR37.out.app (i := 2) rfl hown hgr hl
      clear hown hgr hl
      refine hK.out _ _ (⟨HA38.out.cell (.tail _ (.head _)) 1, HA38.out.cell (.tail _ (.head _)) 2, HA38.out.cell (.tail _ (.head _)) 3⟩) (fun hS => ?_)
      clear hK K
      try simp only [Act.put, putA, putZ, putS]
      refine wpAnyZ_next (rs := [11]) (by kernel_rfl) (by simp) ?_
      refine NextZ.cons (o := ⟨some 56, _, _, _, _, _⟩) rfl (fun K hK => ?_) NextZ.nil
      refine step_append_src X38 (by rfl) (.tmp 53) (.tmp 55) 23 (by rfl) w5.heap.size 43 i0 (.agg #[.int .i64 0, .int .i64 0]) 2 16 Try.underlying23 hi0 hz0 hz1 hz2 rfl (by decide) (.slice (some ⟨J2, 0, none⟩) 0 0) 0 [] (by rfl) (HR38.out.own 3 _ rfl) vna y.nn vnc (flatR y.n y.nn) (by rfl) ((HL.out.2.2.2.below HA38.out.fr).src) (flatR_one _ _) (by unfold maxLen; omega) (by omega) HA38.out.fr.size ?_
      intro v39 X39 hown hgr hl
      rw [Nat.zero_add, List.nil_append] at hown
      obtain ⟨qa2, qc2, rfl⟩ := own_slice' hown
      have HA39 := Lib.hid (BF.grow HA38.out HR38.out (i := 3) rfl (List.forall_mem_cons.2 ⟨(show 25 ≠ 43 by decide), List.forall_mem_cons.2 ⟨(show 25 ≠ 43 by decide), List.forall_mem_nil _⟩⟩) (Nat.le_refl _) hgr)
      have HR39 : Hid (Rws w5.heap.size X39 (rows5 y vb vc nb nc2 F (.slice qa0 y.nb qc0) (.slice qa1 y.nr qc1) (.slice qa2 y.nn qc2) (y.nb) (y.nr) (y.nn) (flatR y.b y.nb) (flatR y.r y.nr) (flatR y.n y.nn) (flatR (y.ct 0) y.ng))) := HR38.out.app (i := 3) rfl hown hgr hl
      clear hown hgr hl
      refine hK.out _ _ (⟨HA39.out.cell (.tail _ (.head _)) 1, HA39.out.cell (.tail _ (.head _)) 2, HA39.out.cell (.tail _ (.head _)) 3⟩) (fun hS => ?_)
      clear hK K
      try simp only [Act.put, putA, putZ, putS]
      refine wpAnyZ_next (rs := [13]) (by kernel_rfl) (by simp) ?_
      refine NextZ.cons (o := ⟨none, _, _, _, _, _⟩) rfl (fun K hK => ?_) NextZ.nil
      have e0 := HA39.out.cell (.head _) 1
      have f0 := HA39.out.thaw (.head _) 1
      have HA40 := Lib.hid (BF.set1 (i := 1) (cs' := #[.slice (some ⟨vb, 0, none⟩) y.nc vc, .slice qa0 y.nb qc0, .slice vra y.nr vrc, .slice vna y.nn vnc]) HA39.out (.head _) (.slice qa0 y.nb qc0) (by simp) rfl (L' := [(w5.heap.size, #[.slice (some ⟨cb, co, none⟩) y.nc vcc, .slice vba y.nb vbc, .slice vra y.nr vrc, .slice vna y.nn vnc], 25)]) (List.forall_mem_cons.2 ⟨⟨show w5.heap.size ≠ xb by omega, (.tail _ (.head _))⟩, List.forall_mem_nil _⟩))
      have HR40 : Hid (Rws w5.heap.size (X39.setCell ⟨xb, 1, none⟩ (.slice qa0 y.nb qc0)) (rows5 y vb vc nb nc2 F (.slice qa0 y.nb qc0) (.slice qa1 y.nr qc1) (.slice qa2 y.nn qc2) (y.nb) (y.nr) (y.nn) (flatR y.b y.nb) (flatR y.r y.nr) (flatR y.n y.nn) (flatR (y.ct 0) y.ng))) := HR39.out.tab (HA39.out.bk _ _ _ (.head _)).2 (rows5_ty (by decide) (by decide)) (Fr.set _ _ _ _)
      go_simp
      refine hK.out _ _ (⟨HA40.out.cell (.tail _ (.head _)) 1, HA40.out.cell (.tail _ (.head _)) 2, HA40.out.cell (.tail _ (.head _)) 3⟩) (fun hS => ?_)
      clear hK K
      (try simp only [Act.put])
      clear e0 f0
      refine tZ 14 (oi := ⟨_, _, _, _, _, _⟩) (v := ?_) rfl (by kernel_rfl) (by rfl) (fun _ _ _ h => h) hS ?_ ?_
      rotate_left
      · rintro W' ⟨z0, z1, z2⟩; go_simp; try with_reducible rfl
      try simp only [Act.put, putA, putZ, putS]
      refine wpAnyZ_next (rs := [15]) (by kernel_rfl) (by simp) ?_
      refine NextZ.cons (o := ⟨none, _, _, _, _, _⟩) rfl (fun K hK => ?_) NextZ.nil
      have e0 := HA40.out.cell (.head _) 2
      have f0 := HA40.out.thaw (.head _) 2
      have HA41 := Lib.hid (BF.set1 (i := 2) (cs' := #[.slice (some ⟨vb, 0, none⟩) y.nc vc, .slice qa0 y.nb qc0, .slice qa1 y.nr qc1, .slice vna y.nn vnc]) HA40.out (.head _) (.slice qa1 y.nr qc1) (by simp) rfl (L' := [(w5.heap.size, #[.slice (some ⟨cb, co, none⟩) y.nc vcc, .slice vba y.nb vbc, .slice vra y.nr vrc, .slice vna y.nn vnc], 25)]) (List.forall_mem_cons.2 ⟨⟨show w5.heap.size ≠ xb by omega, (.tail _ (.head _))⟩, List.forall_mem_nil _⟩))
      have HR41 : Hid (Rws w5.heap.size ((X39.setCell ⟨xb, 1, none⟩ (.slice qa0 y.nb qc0)).setCell ⟨xb, 2, none⟩ (.slice qa1 y.nr qc1)) (rows5 y vb vc nb nc2 F (.slice qa0 y.nb qc0) (.slice qa1 y.nr qc1) (.slice qa2 y.nn qc2) (y.nb) (y.nr) (y.nn) (flatR y.b y.nb) (flatR y.r y.nr) (flatR y.n y.nn) (flatR (y.ct 0) y.ng))) := HR40.out.tab (HA40.out.bk _ _ _ (.head _)).2 (rows5_ty (by decide) (by decide)) (Fr.set _ _ _ _)
      go_simp
      refine hK.out _ _ (⟨HA41.out.cell (.tail _ (.head _)) 1, HA41.out.cell (.tail _ (.head _)) 2, HA41.out.cell (.tail _ (.head _)) 3⟩) (fun hS => ?_)
      clear hK K
      (try simp only [Act.put])
      clear e0 f0
      refine tZ 16 (oi := ⟨_, _, _, _, _, _⟩) (v := ?_) rfl (by kernel_rfl) (by rfl) (fun _ _ _ h => h) hS ?_ ?_
      rotate_left
      · rintro W' ⟨z0, z1, z2⟩; go_simp; try with_reducible rfl
      try simp only [Act.put, putA, putZ, putS]
      refine wpAnyZ_next (rs := [17]) (by kernel_rfl) (by simp) ?_
      refine NextZ.last (o := ⟨none, _, _, _, _, _⟩) rfl (by kernel_rfl) (fun K hK => ?_)
      have e0 := HA41.out.cell (.head _) 3
      have f0 := HA41.out.thaw (.head _) 3
      have HA42 := Lib.hid (BF.set1 (i := 3) (cs' := #[.slice (some ⟨vb, 0, none⟩) y.nc vc, .slice qa0 y.nb qc0, .slice qa1 y.nr qc1, .slice qa2 y.nn qc2]) HA41.out (.head _) (.slice qa2 y.nn qc2) (by simp) rfl (L' := [(w5.heap.size, #[.slice (some ⟨cb, co, none⟩) y.nc vcc, .slice vba y.nb vbc, .slice vra y.nr vrc, .slice vna y.nn vnc], 25)]) (List.forall_mem_cons.2 ⟨⟨show w5.heap.size ≠ xb by omega, (.tail _ (.head _))⟩, List.forall_mem_nil _⟩))
      have HR42 : Hid (Rws w5.heap.size (((X39.setCell ⟨xb, 1, none⟩ (.slice qa0 y.nb qc0)).setCell ⟨xb, 2, none⟩ (.slice qa1 y.nr qc1)).setCell ⟨xb, 3, none⟩ (.slice qa2 y.nn qc2)) (rows5 y vb vc nb nc2 F (.slice qa0 y.nb qc0) (.slice qa1 y.nr qc1) (.slice qa2 y.nn qc2) (y.nb) (y.nr) (y.nn) (flatR y.b y.nb) (flatR y.r y.nr) (flatR y.n y.nn) (flatR (y.ct 0) y.ng))) := HR41.out.tab (HA41.out.bk _ _ _ (.head _)).2 (rows5_ty (by decide) (by decide)) (Fr.set _ _ _ _)
      go_simp
      refine hK.out _ _ ?_
      clear hK K
      (try simp only [Act.put])
      clear e0 f0
      refine wpAnyZ_done (by kernel_rfl) ?_ _
      go_wp2_with fail
      go_meet
      exact ⟨qa0, qc0, qa1, qc1, qa2, qc2, HA42.out, HR42.out⟩
     refine NextZ.cons (o := ⟨some 53, _, _, _, _, _⟩) rfl (fun K hK => ?_) NextZ.nil
     go_simp
     have HA43 := Lib.hid (HA0.out.below (below_alloc X0 (.cells #[] 43)))
     have HR43 : Hid (Rws w5.heap.size (X0.alloc (.cells #[] 43)) (rows5 y vb vc nb nc2 F (.slice (some ⟨J0, 0, none⟩) 0 0) (.slice none 0 0) (.slice (some ⟨X0.heap.size, 0, none⟩) 0 0) (0) (0) (0) ([]) ([]) ([]) (flatR (y.ct 0) y.ng))) := HR0.out.made HA0.out.fr.size 3 43 2
     refine hK.out _ _ (⟨HA43.out.cell (.tail _ (.head _)) 1, HA43.out.cell (.tail _ (.head _)) 2, HA43.out.cell (.tail _ (.head _)) 3⟩) (fun hS => ?_)
     clear hK K
     try simp only [Act.put, putA, putZ, putS]
     generalize X0.heap.size = J2 at *
     generalize (X0.alloc (.cells #[] 43)) = X43 at *
     refine wpAnyZ_next (rs := [3, 4]) (by kernel_rfl) (by simp) ?_
     refine NextZ.cons (o := ⟨some 48, _, _, _, _, _⟩) rfl (fun K hK => ?_) ?_
     ·
      refine step_append_src X43 (by rfl) (.tmp 45) (.tmp 47) 23 (by rfl) w5.heap.size 43 i0 (.agg #[.int .i64 0, .int .i64 0]) 2 16 Try.underlying23 hi0 hz0 hz1 hz2 rfl (by decide) (.slice (some ⟨J0, 0, none⟩) 0 0) 0 [] (by rfl) (HR43.out.own 1 _ rfl) vba y.nb vbc (flatR y.b y.nb) (by rfl) ((HL.out.2.1.below HA43.out.fr).src) (flatR_one _ _) (by unfold maxLen; omega) (by omega) HA43.out.fr.size ?_
      intro v44 X44 hown hgr hl
      rw [Nat.zero_add, List.nil_append] at hown
      obtain ⟨qa0, qc0, rfl⟩ := own_slice' hown
      have HA44 := Lib.hid (BF.grow HA43.out HR43.out (i := 1) rfl (List.forall_mem_cons.2 ⟨(show 25 ≠ 43 by decide), List.forall_mem_cons.2 ⟨(show 25 ≠ 43 by decide), List.forall_mem_nil _⟩⟩) (Nat.le_refl _) hgr)
      have HR44 : Hid (Rws w5.heap.size X44 (rows5 y vb vc nb nc2 F (.slice qa0 y.nb qc0) (.slice none 0 0) (.slice (some ⟨J2, 0, none⟩) 0 0) (y.nb) (0) (0) (flatR y.b y.nb) ([]) ([]) (flatR (y.ct 0) y.ng))) := HR43.out.app (i := 1) rfl hown hgr hl
      clear hown hgr hl
      refine hK.out _ _ (⟨HA44.out.cell (.tail _ (.head _)) 1, HA44.out.cell (.tail _ (.head _)) 2, HA44.out.cell (.tail _ (.head _)) 3⟩) (fun hS => ?_)
      clear hK K
      try simp only [Act.put, putA, putZ, putS]
      refine tZ 12 (oi := ⟨_, _, _, _, _, _⟩) (v := ?_) rfl (by kernel_rfl) (by rfl) (fun _ _ _ h => h) hS ?_ ?_
      rotate_left
      · rintro W' ⟨z0, z1, z2⟩; go_simp; try with_reducible rfl
      try simp only [Act.put, putA, putZ, putS]
      refine wpAnyZ_next (rs := [4]) (by kernel_rfl) (by simp) ?_
      refine NextZ.cons (o := ⟨some 49, _, _, _, _, _⟩) rfl (fun K hK => ?_) NextZ.nil
      go_simp
      have HA45 := Lib.hid (HA44.out.below (below_alloc X44 (.cells #[] 43)))
      have HR45 : Hid (Rws w5.heap.size (X44.alloc (.cells #[] 43)) (rows5 y vb vc nb nc2 F (.slice qa0 y.nb qc0) (.slice (some ⟨X44.heap.size, 0, none⟩) 0 0) (.slice (some ⟨J2, 0, none⟩) 0 0) (y.nb) (0) (0) (flatR y.b y.nb) ([]) ([]) (flatR (y.ct 0) y.ng))) := HR44.out.made HA44.out.fr.size 2 43 2
      refine hK.out _ _ (⟨HA45.out.cell (.tail _ (.head _)) 1, HA45.out.cell (.tail _ (.head _)) 2, HA45.out.cell (.tail _ (.head _)) 3⟩) (fun hS => ?_)
      clear hK K
      try simp only [Act.put, putA, putZ, putS]
      generalize X44.heap.size = J1 at *
      generalize (X44.alloc (.cells #[] 43)) = X45 at *
      refine wpAnyZ_next (rs := [7]) (by kernel_rfl) (by simp) ?_
      refine NextZ.cons (o := ⟨some 52, _, _, _, _, _⟩) rfl (fun K hK => ?_) NextZ.nil
      refine step_append_src X45 (by rfl) (.tmp 49) (.tmp 51) 23 (by rfl) w5.heap.size 43 i0 (.agg #[.int .i64 0, .int .i64 0]) 2 16 Try.underlying23 hi0 hz0 hz1 hz2 rfl (by decide) (.slice (some ⟨J1, 0, none⟩) 0 0) 0 [] (by rfl) (HR45.out.own 2 _ rfl) vra y.nr vrc (flatR y.r y.nr) (by rfl) ((HL.out.2.2.1.below HA45.out.fr).src) (flatR_one _ _) (by unfold maxLen; omega) (by omega) HA45.out.fr.size ?_
      intro v46 X46 hown hgr hl
      rw [Nat.zero_add, List.nil_append] at hown
      obtain ⟨qa1, qc1, rfl⟩ := own_slice' hown
      have HA46 := Lib.hid (BF.grow HA45.out HR45.out (i := 2) rfl (List.forall_mem_cons.2 ⟨(show 25 ≠ 43 by decide), List.forall_mem_cons.2 ⟨(show 25 ≠ 43 by decide), List.forall_mem_nil _⟩⟩) (Nat.le_refl _) hgr)
      have HR46 : Hid (Rws w5.heap.size X46 (rows5 y vb vc nb nc2 F (.slice qa0 y.nb qc0) (.slice qa1 y.nr qc1) (.slice (some ⟨J2, 0, none⟩) 0 0) (y.nb) (y.nr) (0) (flatR y.b y.nb) (flatR y.r y.nr) ([]) (flatR (y.ct 0) y.ng))) := HR45.out.app (i := 2) rfl hown hgr hl
      clear hown hgr hl
      refine hK.out _ _ (⟨HA46.out.cell (.tail _ (.head _)) 1, HA46.out.cell (.tail _ (.head _)) 2, HA46.out.cell (.tail _ (.head _)) 3⟩) (fun hS => ?_)
      clear hK K
      try simp only [Act.put, putA, putZ, putS]
      refine wpAnyZ_next (rs := [11]) (by kernel_rfl) (by simp) ?_
      refine NextZ.cons (o := ⟨some 56, _, _, _, _, _⟩) rfl (fun K hK => ?_) NextZ.nil
      refine step_append_src X46 (by rfl) (.tmp 53) (.tmp 55) 23 (by rfl) w5.heap.size 43 i0 (.agg #[.int .i64 0, .int .i64 0]) 2 16 Try.underlying23 hi0 hz0 hz1 hz2 rfl (by decide) (.slice (some ⟨J2, 0, none⟩) 0 0) 0 [] (by rfl) (HR46.out.own 3 _ rfl) vna y.nn vnc (flatR y.n y.nn) (by rfl) ((HL.out.2.2.2.below HA46.out.fr).src) (flatR_one _ _) (by unfold maxLen; omega) (by omega) HA46.out.fr.size ?_
      intro v47 X47 hown hgr hl
      rw [Nat.zero_add, List.nil_append] at hown
      obtain ⟨qa2, qc2, rfl⟩ := own_slice' hown
      have HA47 := Lib.hid (BF.grow HA46.out HR46.out (i := 3) rfl (List.forall_mem_cons.2 ⟨(show 25 ≠ 43 by decide), List.forall_mem_cons.2 ⟨(show 25 ≠ 43 by decide), List.forall_mem_nil _⟩⟩) (Nat.le_refl _) hgr)
      have HR47 : Hid (Rws w5.heap.size X47 (rows5 y vb vc nb nc2 F (.slice qa0 y.nb qc0) (.slice qa1 y.nr qc1) (.slice qa2 y.nn qc2) (y.nb) (y.nr) (y.nn) (flatR y.b y.nb) (flatR y.r y.nr) (flatR y.n y.nn) (flatR (y.ct 0) y.ng))) := HR46.out.app (i := 3) rfl hown hgr hl
      clear hown hgr hl
      refine hK.out _ _ (⟨HA47.out.cell (.tail _ (.head _)) 1, HA47.out.cell (.tail _ (.head _)) 2, HA47.out.cell (.tail _ (.head _)) 3⟩) (fun hS => ?_)
      clear hK K
      try simp only [Act.put, putA, putZ, putS]
      refine wpAnyZ_next (rs := [13]) (by kernel_rfl) (by simp) ?_
      refine NextZ.cons (o := ⟨none, _, _, _, _, _⟩) rfl (fun K hK => ?_) NextZ.nil
      have e0 := HA47.out.cell (.head _) 1
      have f0 := HA47.out.thaw (.head _) 1
      have HA48 := Lib.hid (BF.set1 (i := 1) (cs' := #[.slice (some ⟨vb, 0, none⟩) y.nc vc, .slice qa0 y.nb qc0, .slice vra y.nr vrc, .slice vna y.nn vnc]) HA47.out (.head _) (.slice qa0 y.nb qc0) (by simp) rfl (L' := [(w5.heap.size, #[.slice (some ⟨cb, co, none⟩) y.nc vcc, .slice vba y.nb vbc, .slice vra y.nr vrc, .slice vna y.nn vnc], 25)]) (List.forall_mem_cons.2 ⟨⟨show w5.heap.size ≠ xb by omega, (.tail _ (.head _))⟩, List.forall_mem_nil _⟩))
      have HR48 : Hid (Rws w5.heap.size (X47.setCell ⟨xb, 1, none⟩ (.slice qa0 y.nb qc0)) (rows5 y vb vc nb nc2 F (.slice qa0 y.nb qc0) (.slice qa1 y.nr qc1) (.slice qa2 y.nn qc2) (y.nb) (y.nr) (y.nn) (flatR y.b y.nb) (flatR y.r y.nr) (flatR y.n y.nn) (flatR (y.ct 0) y.ng))) := HR47.out.tab (HA47.out.bk _ _ _ (.head _)).2 (rows5_ty (by decide) (by decide)) (Fr.set _ _ _ _)
      go_simp
      refine hK.out _ _ (⟨HA48.out.cell (.tail _ (.head _)) 1, HA48.out.cell (.tail _ (.head _)) 2, HA48.out.cell (.tail _ (.head _)) 3⟩) (fun hS => ?_)
      clear hK K
      (try simp only [Act.put])
      clear e0 f0
      refine tZ 14 (oi := ⟨_, _, _, _, _, _⟩) (v := ?_) rfl (by kernel_rfl) (by rfl) (fun _ _ _ h => h) hS ?_ ?_
      rotate_left
      · rintro W' ⟨z0, z1, z2⟩; go_simp; try with_reducible rfl
      try simp only [Act.put, putA, putZ, putS]
      refine wpAnyZ_next (rs := [15]) (by kernel_rfl) (by simp) ?_
      refine NextZ.cons (o := ⟨none, _, _, _, _, _⟩) rfl (fun K hK => ?_) NextZ.nil
      have e0 := HA48.out.cell (.head _) 2
      have f0 := HA48.out.thaw (.head _) 2
      have HA49 := Lib.hid (BF.set1 (i := 2) (cs' := #[.slice (some ⟨vb, 0, none⟩) y.nc vc, .slice qa0 y.nb qc0, .slice qa1 y.nr qc1, .slice vna y.nn vnc]) HA48.out (.head _) (.slice qa1 y.nr qc1) (by simp) rfl (L' := [(w5.heap.size, #[.slice (some ⟨cb, co, none⟩) y.nc vcc, .slice vba y.nb vbc, .slice vra y.nr vrc, .slice vna y.nn vnc], 25)]) (List.forall_mem_cons.2 ⟨⟨show w5.heap.size ≠ xb by omega, (.tail _ (.head _))⟩, List.forall_mem_nil _⟩))
      have HR49 : Hid (Rws w5.heap.size ((X47.setCell ⟨xb, 1, none⟩ (.slice qa0 y.nb qc0)).setCell ⟨xb, 2, none⟩ (.slice qa1 y.nr qc1)) (rows5 y vb vc nb nc2 F (.slice qa0 y.nb qc0) (.slice qa1 y.nr qc1) (.slice qa2 y.nn qc2) (y.nb) (y.nr) (y.nn) (flatR y.b y.nb) (flatR y.r y.nr) (flatR y.n y.nn) (flatR (y.ct 0) y.ng))) := HR48.out.tab (HA48.out.bk _ _ _ (.head _)).2 (rows5_ty (by decide) (by decide)) (Fr.set _ _ _ _)
      go_simp
      refine hK.out _ _ (⟨HA49.out.cell (.tail _ (.head _)) 1, HA49.out.cell (.tail _ (.head _)) 2, HA49.out.cell (.tail _ (.head _)) 3⟩) (fun hS => ?_)
      clear hK K
      (try simp only [Act.put])
      clear e0 f0
      refine tZ 16 (oi := ⟨_, _, _, _, _, _⟩) (v := ?_) rfl (by kernel_rfl) (by rfl) (fun _ _ _ h => h) hS ?_ ?_
      rotate_left
      · rintro W' ⟨z0, z1, z2⟩; go_simp; try with_reducible rfl
      try simp only [Act.put, putA, putZ, putS]
      refine wpAnyZ_next (rs := [17]) (by kernel_rfl) (by simp) ?_
      refine NextZ.last (o := ⟨none, _, _, _, _, _⟩) rfl (by kernel_rfl) (fun K hK => ?_)
      have e0 := HA49.out.cell (.head _) 3
      have f0 := HA49.out.thaw (.head _) 3
      have HA50 := Lib.hid (BF.set1 (i := 3) (cs' := #[.slice (some ⟨vb, 0, none⟩) y.nc vc, .slice qa0 y.nb qc0, .slice qa1 y.nr qc1, .slice qa2 y.nn qc2]) HA49.out (.head _) (.slice qa2 y.nn qc2) (by simp) rfl (L' := [(w5.heap.size, #[.slice (some ⟨cb, co, none⟩) y.nc vcc, .slice vba y.nb vbc, .slice vra y.nr vrc, .slice vna y.nn vnc], 25)]) (List.forall_mem_cons.2 ⟨⟨show w5.heap.size ≠ xb by omega, (.tail _ (.head _))⟩, List.forall_mem_nil _⟩))
      have HR50 : Hid (Rws w5.heap.size (((X47.setCell ⟨xb, 1, none⟩ (.slice qa0 y.nb qc0)).setCell ⟨xb, 2, none⟩ (.slice qa1 y.nr qc1)).setCell ⟨xb, 3, none⟩ (.slice qa2 y.nn qc2)) (rows5 y vb vc nb nc2 F (.slice qa0 y.nb qc0) (.slice qa1 y.nr qc1) (.slice qa2 y.nn qc2) (y.nb) (y.nr) (y.nn) (flatR y.b y.nb) (flatR y.r y.nr) (flatR y.n y.nn) (flatR (y.ct 0) y.ng))) := HR49.out.tab (HA49.out.bk _ _ _ (.head _)).2 (rows5_ty (by decide) (by decide)) (Fr.set _ _ _ _)
      go_simp
      refine hK.out _ _ ?_
      clear hK K
      (try simp only [Act.put])
      clear e0 f0
      refine wpAnyZ_done (by kernel_rfl) ?_ _
      go_wp2_with fail
      go_meet
      exact ⟨qa0, qc0, qa1, qc1, qa2, qc2, HA50.out, HR50.out⟩
     refine NextZ.cons (o := ⟨some 49, _, _, _, _, _⟩) rfl (fun K hK => ?_) NextZ.nil
     go_simp
     have HA51 := Lib.hid (HA43.out.below (below_alloc X43 (.cells #[] 43)))
     have HR51 : Hid (Rws w5.heap.size (X43.alloc (.cells #[] 43)) (rows5 y vb vc nb nc2 F (.slice (some ⟨J0, 0, none⟩) 0 0) (.slice (some ⟨X43.heap.size, 0, none⟩) 0 0) (.slice (some ⟨J2, 0, none⟩) 0 0) (0) (0) (0) ([]) ([]) ([]) (flatR (y.ct 0) y.ng))) := HR43.out.made HA43.out.fr.size 2 43 2
     refine hK.out _ _ (⟨HA51.out.cell (.tail _ (.head _)) 1, HA51.out.cell (.tail _ (.head _)) 2, HA51.out.cell (.tail _ (.head _)) 3⟩) (fun hS => ?_)
     clear hK K
     try simp only [Act.put, putA, putZ, putS]
     generalize X43.heap.size = J1 at *
     generalize (X43.alloc (.cells #[] 43)) = X51 at *
     refine wpAnyZ_next (rs := [3]) (by kernel_rfl) (by simp) ?_
     refine NextZ.cons (o := ⟨some 48, _, _, _, _, _⟩) rfl (fun K hK => ?_) NextZ.nil
     refine step_append_src X51 (by rfl) (.tmp 45) (.tmp 47) 23 (by rfl) w5.heap.size 43 i0 (.agg #[.int .i64 0, .int .i64 0]) 2 16 Try.underlying23 hi0 hz0 hz1 hz2 rfl (by decide) (.slice (some ⟨J0, 0, none⟩) 0 0) 0 [] (by rfl) (HR51.out.own 1 _ rfl) vba y.nb vbc (flatR y.b y.nb) (by rfl) ((HL.out.2.1.below HA51.out.fr).src) (flatR_one _ _) (by unfold maxLen; omega) (by omega) HA51.out.fr.size ?_
     intro v52 X52 hown hgr hl
     rw [Nat.zero_add, List.nil_append] at hown
     obtain ⟨qa0, qc0, rfl⟩ := own_slice' hown
     have HA52 := Lib.hid (BF.grow HA51.out HR51.out (i := 1) rfl (List.forall_mem_cons.2 ⟨(show 25 ≠ 43 by decide), List.forall_mem_cons.2 ⟨(show 25 ≠ 43 by decide), List.forall_mem_nil _⟩⟩) (Nat.le_refl _) hgr)
     have HR52 : Hid (Rws w5.heap.size X52 (rows5 y vb vc nb nc2 F (.slice qa0 y.nb qc0) (.slice (some ⟨J1, 0, none⟩) 0 0) (.slice (some ⟨J2, 0, none⟩) 0 0) (y.nb) (0) (0) (flatR y.b y.nb) ([]) ([]) (flatR (y.ct 0) y.ng))) := HR51.out.app (i := 1) rfl hown hgr hl
     clear hown hgr hl
     refine hK.out _ _ (⟨HA52.out.cell (.tail _ (.head _)) 1, HA52.out.cell (.tail _ (.head _)) 2, HA52.out.cell (.tail _ (.head _)) 3⟩) (fun hS => ?_)
     clear hK K
     try simp only [Act.put, putA, putZ, putS]
     refine tZ 12 (oi := ⟨_, _, _, _, _, _⟩) (v := ?_) rfl (by kernel_rfl) (by rfl) (fun _ _ _ h => h) hS ?_ ?_
     rotate_left
     · rintro W' ⟨z0, z1, z2⟩; go_simp; try with_reducible rfl
     try simp only [Act.put, putA, putZ, putS]
     refine wpAnyZ_next (rs := [7]) (by kernel_rfl) (by simp) ?_
     refine NextZ.cons (o := ⟨some 52, _, _, _, _, _⟩) rfl (fun K hK => ?_) NextZ.nil
     refine step_append_src X52 (by rfl) (.tmp 49) (.tmp 51) 23 (by rfl) w5.heap.size 43 i0 (.agg #[.int .i64 0, .int .i64 0]) 2 16 Try.underlying23 hi0 hz0 hz1 hz2 rfl (by decide) (.slice (some ⟨J1, 0, none⟩) 0 0) 0 [] (by rfl) (HR52.out.own 2 _ rfl) vra y.nr vrc (flatR y.r y.nr) (by rfl) ((HL.out.2.2.1.below HA52.out.fr).src) (flatR_one _ _) (by unfold maxLen; omega) (by omega) HA52.out.fr.size ?_
     intro v53 X53 hown hgr hl
     rw [Nat.zero_add, List.nil_append] at hown
     obtain ⟨qa1, qc1, rfl⟩ := own_slice' hown
     have HA53 := Lib.hid (BF.grow HA52.out HR52.out (i := 2) rfl (List.forall_mem_cons.2 ⟨(show 25 ≠ 43 by decide), List.forall_mem_cons.2 ⟨(show 25 ≠ 43 by decide), List.forall_mem_nil _⟩⟩) (Nat.le_refl _) hgr)
     have HR53 : Hid (Rws w5.heap.size X53 (rows5 y vb vc nb nc2 F (.slice qa0 y.nb qc0) (.slice qa1 y.nr qc1) (.slice (some ⟨J2, 0, none⟩) 0 0) (y.nb) (y.nr) (0) (flatR y.b y.nb) (flatR y.r y.nr) ([]) (flatR (y.ct 0) y.ng))) := HR52.out.app (i := 2) rfl hown hgr hl
     clear hown hgr hl
     refine hK.out _ _ (⟨HA53.out.cell (.tail _ (.head _)) 1, HA53.out.cell (.tail _ (.head _)) 2, HA53.out.cell (.tail _ (.head _)) 3⟩) (fun hS => ?_)
     clear hK K
     try simp only [Act.put, putA, putZ, putS]
     refine wpAnyZ_next (rs := [11]) (by kernel_rfl) (by simp) ?_
     refine NextZ.cons (o := ⟨some 56, _, _, _, _, _⟩) rfl (fun K hK => ?_) NextZ.nil
     refine step_append_src X53 (by rfl) (.tmp 53) (.tmp 55) 23 (by rfl) w5.heap.size 43 i0 (.agg #[.int .i64 0, .int .i64 0]) 2 16 Try.underlying23 hi0 hz0 hz1 hz2 rfl (by decide) (.slice (some ⟨J2, 0, none⟩) 0 0) 0 [] (by rfl) (HR53.out.own 3 _ rfl) vna y.nn vnc (flatR y.n y.nn) (by rfl) ((HL.out.2.2.2.below HA53.out.fr).src) (flatR_one _ _) (by unfold maxLen; omega) (by omega) HA53.out.fr.size ?_
     intro v54 X54 hown hgr hl
     rw [Nat.zero_add, List.nil_append] at hown
     obtain ⟨qa2, qc2, rfl⟩ := own_slice' hown
     have HA54 := Lib.hid (BF.grow HA53.out HR53.out (i := 3) rfl (List.forall_mem_cons.2 ⟨(show 25 ≠ 43 by decide), List.forall_mem_cons.2 ⟨(show 25 ≠ 43 by decide), List.forall_mem_nil _⟩⟩) (Nat.le_refl _) hgr)
     have HR54 : Hid (Rws w5.heap.size X54 (rows5 y vb vc nb nc2 F (.slice qa0 y.nb qc0) (.slice qa1 y.nr qc1) (.slice qa2 y.nn qc2) (y.nb) (y.nr) (y.nn) (flatR y.b y.nb) (flatR y.r y.nr) (flatR y.n y.nn) (flatR (y.ct 0) y.ng))) := HR53.out.app (i := 3) rfl hown hgr hl
     clear hown hgr hl
     refine hK.out _ _ (⟨HA54.out.cell (.tail _ (.head _)) 1, HA54.out.cell (.tail _ (.head _)) 2, HA54.out.cell (.tail _ (.head _)) 3⟩) (fun hS => ?_)
     clear hK K
     try simp only [Act.put, putA, putZ, putS]
     refine wpAnyZ_next (rs := [13]) (by kernel_rfl) (by simp) ?_
     refine NextZ.cons (o := ⟨none, _, _, _, _, _⟩) rfl (fun K hK => ?_) NextZ.nil
     have e0 := HA54.out.cell (.head _) 1
     have f0 := HA54.out.thaw (.head _) 1
     have HA55 := Lib.hid (BF.set1 (i := 1) (cs' := #[.slice (some ⟨vb, 0, none⟩) y.nc vc, .slice qa0 y.nb qc0, .slice vra y.nr vrc, .slice vna y.nn vnc]) HA54.out (.head _) (.slice qa0 y.nb qc0) (by simp) rfl (L' := [(w5.heap.size, #[.slice (some ⟨cb, co, none⟩) y.nc vcc, .slice vba y.nb vbc, .slice vra y.nr vrc, .slice vna y.nn vnc], 25)]) (List.forall_mem_cons.2 ⟨⟨show w5.heap.size ≠ xb by omega, (.tail _ (.head _))⟩, List.forall_mem_nil _⟩))
     have HR55 : Hid (Rws w5.heap.size (X54.setCell ⟨xb, 1, none⟩ (.slice qa0 y.nb qc0)) (rows5 y vb vc nb nc2 F (.slice qa0 y.nb qc0) (.slice qa1 y.nr qc1) (.slice qa2 y.nn qc2) (y.nb) (y.nr) (y.nn) (flatR y.b y.nb) (flatR y.r y.nr) (flatR y.n y.nn) (flatR (y.ct 0) y.ng))) := HR54.out.tab (HA54.out.bk _ _ _ (.head _)).2 (rows5_ty (by decide) (by decide)) (Fr.set _ _ _ _)
     go_simp
     refine hK.out _ _ (⟨HA55.out.cell (.tail _ (.head _)) 1, HA55.out.cell (.tail _ (.head _)) 2, HA55.out.cell (.tail _ (.head _)) 3⟩) (fun hS => ?_)
     clear hK K
     (try simp only [Act.put])
     clear e0 f0
     refine tZ 14 (oi := ⟨_, _, _, _, _, _⟩) (v := ?_) rfl (by kernel_rfl) (by rfl) (fun _ _ _ h => h) hS ?_ ?_
     rotate_left
     · rintro W' ⟨z0, z1, z2⟩; go_simp; try with_reducible rfl
     try simp only [Act.put, putA, putZ, putS]
     refine wpAnyZ_next (rs := [15]) (by kernel_rfl) (by simp) ?_
     refine NextZ.cons (o := ⟨none, _, _, _, _, _⟩) rfl (fun K hK => ?_) NextZ.nil
     have e0 := HA55.out.cell (.head _) 2
     have f0 := HA55.out.thaw (.head _) 2
     have HA56 := Lib.hid (BF.set1 (i := 2) (cs' := #[.slice (some ⟨vb, 0, none⟩) y.nc vc, .slice qa0 y.nb qc0, .slice qa1 y.nr qc1, .slice vna y.nn vnc]) HA55.out (.head _) (.slice qa1 y.nr qc1) (by simp) rfl (L' := [(w5.heap.size, #[.slice (some ⟨cb, co, none⟩) y.nc vcc, .slice vba y.nb vbc, .slice vra y.nr vrc, .slice vna y.nn vnc], 25)]) (List.forall_mem_cons.2 ⟨⟨show w5.heap.size ≠ xb by omega, (.tail _ (.head _))⟩, List.forall_mem_nil _⟩))
     have HR56 : Hid (Rws w5.heap.size ((X54.setCell ⟨xb, 1, none⟩ (.slice qa0 y.nb qc0)).setCell ⟨xb, 2, none⟩ (.slice qa1 y.nr qc1)) (rows5 y vb vc nb nc2 F (.slice qa0 y.nb qc0) (.slice qa1 y.nr qc1) (.slice qa2 y.nn qc2) (y.nb) (y.nr) (y.nn) (flatR y.b y.nb) (flatR y.r y.nr) (flatR y.n y.nn) (flatR (y.ct 0) y.ng))) := HR55.out.tab (HA55.out.bk _ _ _ (.head _)).2 (rows5_ty (by decide) (by decide)) (Fr.set _ _ _ _)
     go_simp
     refine hK.out _ _ (⟨HA56.out.cell (.tail _ (.head _)) 1, HA56.out.cell (.tail _ (.head _)) 2, HA56.out.cell (.tail _ (.head _)) 3⟩) (fun hS => ?_)
     clear hK K
     (try simp only [Act.put])
     clear e0 f0
     refine tZ 16 (oi := ⟨_, _, _, _, _, _⟩) (v := ?_) rfl (by kernel_rfl) (by rfl) (fun _ _ _ h => h) hS ?_ ?_
     rotate_left
     · rintro W' ⟨z0, z1, z2⟩; go_simp; try with_reducible rfl
     try simp only [Act.put, putA, putZ, putS]
     refine wpAnyZ_next (rs := [17]) (by kernel_rfl) (by simp) ?_
     refine NextZ.last (o := ⟨none, _, _, _, _, _⟩) rfl (by kernel_rfl) (fun K hK => ?_)
     have e0 := HA56.out.cell (.head _) 3
     have f0 := HA56.out.thaw (.head _) 3
     have HA57 := Lib.hid (BF.set1 (i := 3) (cs' := #[.slice (some ⟨vb, 0, none⟩) y.nc vc, .slice qa0 y.nb qc0, .slice qa1 y.nr qc1, .slice qa2 y.nn qc2]) HA56.out (.head _) (.slice qa2 y.nn qc2) (by simp) rfl (L' := [(w5.heap.size, #[.slice (some ⟨cb, co, none⟩) y.nc vcc, .slice vba y.nb vbc, .slice vra y.nr vrc, .slice vna y.nn vnc], 25)]) (List.forall_mem_cons.2 ⟨⟨show w5.heap.size ≠ xb by omega, (.tail _ (.head _))⟩, List.forall_mem_nil _⟩))
     have HR57 : Hid (Rws w5.heap.size (((X54.setCell ⟨xb, 1, none⟩ (.slice qa0 y.nb qc0)).setCell ⟨xb, 2, none⟩ (.slice qa1 y.nr qc1)).setCell ⟨xb, 3, none⟩ (.slice qa2 y.nn qc2)) (rows5 y vb vc nb nc2 F (.slice qa0 y.nb qc0) (.slice qa1 y.nr qc1) (.slice qa2 y.nn qc2) (y.nb) (y.nr) (y.nn) (flatR y.b y.nb) (flatR y.r y.nr) (flatR y.n y.nn) (flatR (y.ct 0) y.ng))) := HR56.out.tab (HA56.out.bk _ _ _ (.head _)).2 (rows5_ty (by decide) (by decide)) (Fr.set _ _ _ _)
     go_simp
     refine hK.out _ _ ?_
     clear hK K
     (try simp only [Act.put])
     clear e0 f0
     refine wpAnyZ_done (by kernel_rfl) ?_ _
     go_wp2_with fail
     go_meet
     exact ⟨qa0, qc0, qa1, qc1, qa2, qc2, HA57.out, HR57.out⟩
    refine NextZ.cons (o := ⟨some 49, _, _, _, _, _⟩) rfl (fun K hK => ?_) ?_
    ·
     go_simp
     have HA58 := Lib.hid (HAX.out.below (below_alloc X (.cells #[] 43)))
     have HR58 : Hid (Rws w5.heap.size (X.alloc (.cells #[] 43)) (rows5 y vb vc nb nc2 F (.slice none 0 0) (.slice (some ⟨X.heap.size, 0, none⟩) 0 0) (.slice none 0 0) (0) (0) (0) ([]) ([]) ([]) (flatR (y.ct 0) y.ng))) := HRX.out.made HAX.out.fr.size 2 43 2
     refine hK.out _ _ (⟨HA58.out.cell (.tail _ (.head _)) 1, HA58.out.cell (.tail _ (.head _)) 2, HA58.out.cell (.tail _ (.head _)) 3⟩) (fun hS => ?_)
     clear hK K
     try simp only [Act.put, putA, putZ, putS]
     generalize X.heap.size = J1 at *
     generalize (X.alloc (.cells #[] 43)) = X58 at *
     refine wpAnyZ_next (rs := [0, 8]) (by kernel_rfl) (by simp) ?_
     refine NextZ.cons (o := ⟨some 45, _, _, _, _, _⟩) rfl (fun K hK => ?_) ?_
     ·
      go_simp
      have HA59 := Lib.hid (HA58.out.below (below_alloc X58 (.cells #[] 43)))
      have HR59 : Hid (Rws w5.heap.size (X58.alloc (.cells #[] 43)) (rows5 y vb vc nb nc2 F (.slice (some ⟨X58.heap.size, 0, none⟩) 0 0) (.slice (some ⟨J1, 0, none⟩) 0 0) (.slice none 0 0) (0) (0) (0) ([]) ([]) ([]) (flatR (y.ct 0) y.ng))) := HR58.out.made HA58.out.fr.size 1 43 2
      refine hK.out _ _ (⟨HA59.out.cell (.tail _ (.head _)) 1, HA59.out.cell (.tail _ (.head _)) 2, HA59.out.cell (.tail _ (.head _)) 3⟩) (fun hS => ?_)
      clear hK K
      try simp only [Act.put, putA, putZ, putS]
      generalize X58.heap.size = J0 at *
      generalize (X58.alloc (.cells #[] 43)) = X59 at *
      refine wpAnyZ_next (rs := [3, 8]) (by kernel_rfl) (by simp) ?_
      refine NextZ.cons (o := ⟨some 48, _, _, _, _, _⟩) rfl (fun K hK => ?_) ?_
      ·
       refine step_append_src X59 (by rfl) (.tmp 45) (.tmp 47) 23 (by rfl) w5.heap.size 43 i0 (.agg #[.int .i64 0, .int .i64 0]) 2 16 Try.underlying23 hi0 hz0 hz1 hz2 rfl (by decide) (.slice (some ⟨J0, 0, none⟩) 0 0) 0 [] (by rfl) (HR59.out.own 1 _ rfl) vba y.nb vbc (flatR y.b y.nb) (by rfl) ((HL.out.2.1.below HA59.out.fr).src) (flatR_one _ _) (by unfold maxLen; omega) (by omega) HA59.out.fr.size ?_
       intro v60 X60 hown hgr hl
       rw [Nat.zero_add, List.nil_append] at hown
       obtain ⟨qa0, qc0, rfl⟩ := own_slice' hown
       have HA60 := Lib.hid (BF.grow HA59.out HR59.out (i := 1) rfl (List.forall_mem_cons.2 ⟨(show 25 ≠ 43 by decide), List.forall_mem_cons.2 ⟨(show 25 ≠ 43 by decide), List.forall_mem_nil _⟩⟩) (Nat.le_refl _) hgr)
       have HR60 : Hid (Rws w5.heap.size X60 (rows5 y vb vc nb nc2 F (.slice qa0 y.nb qc0) (.slice (some ⟨J1, 0, none⟩) 0 0) (.slice none 0 0) (y.nb) (0) (0) (flatR y.b y.nb) ([]) ([]) (flatR (y.ct 0) y.ng))) := HR59.out.app (i := 1) rfl hown hgr hl
       clear hown hgr hl
       refine hK.out _ _ (⟨HA60.out.cell (.tail _ (.head _)) 1, HA60.out.cell (.tail _ (.head _)) 2, HA60.out.cell (.tail _ (.head _)) 3⟩) (fun hS => ?_)
       clear hK K
       try simp only [Act.put, putA, putZ, putS]
       refine tZ 12 (oi := ⟨_, _, _, _, _, _⟩) (v := ?_) rfl (by kernel_rfl) (by rfl) (fun _ _ _ h => h) hS ?_ ?_
       rotate_left
       · rintro W' ⟨z0, z1, z2⟩; go_simp; try with_reducible rfl
       try simp only [Act.put, putA, putZ, putS]
       refine wpAnyZ_next (rs := [7, 8]) (by kernel_rfl) (by simp) ?_
       refine NextZ.cons (o := ⟨some 52, _, _, _, _, _⟩) rfl (fun K hK => ?_) ?_
       ·
        refine step_append_src X60 (by rfl) (.tmp 49) (.tmp 51) 23 (by rfl) w5.heap.size 43 i0 (.agg #[.int .i64 0, .int .i64 0]) 2 16 Try.underlying23 hi0 hz0 hz1 hz2 rfl (by decide) (.slice (some ⟨J1, 0, none⟩) 0 0) 0 [] (by rfl) (HR60.out.own 2 _ rfl) vra y.nr vrc (flatR y.r y.nr) (by rfl) ((HL.out.2.2.1.below HA60.out.fr).src) (flatR_one _ _) (by unfold maxLen; omega) (by omega) HA60.out.fr.size ?_
        intro v61 X61 hown hgr hl
        rw [Nat.zero_add, List.nil_append] at hown
        obtain ⟨qa1, qc1, rfl⟩ := own_slice' hown
        have HA61 := Lib.hid (BF.grow HA60.out HR60.out (i := 2) rfl (List.forall_mem_cons.2 ⟨(show 25 ≠ 43 by decide), List.forall_mem_cons.2 ⟨(show 25 ≠ 43 by decide), List.forall_mem_nil _⟩⟩) (Nat.le_refl _) hgr)
        have HR61 : Hid (Rws w5.heap.size X61 (rows5 y vb vc nb nc2 F (.slice qa0 y.nb qc0) (.slice qa1 y.nr qc1) (.slice none 0 0) (y.nb) (y.nr) (0) (flatR y.b y.nb) (flatR y.r y.nr) ([]) (flatR (y.ct 0) y.ng))) := HR60.out.app (i := 2) rfl hown hgr hl
        clear hown hgr hl
        refine hK.out _ _ (⟨HA61.out.cell (.tail _ (.head _)) 1, HA61.out.cell (.tail _ (.head _)) 2, HA61.out.cell (.tail _ (.head _)) 3⟩) (fun hS => ?_)
        clear hK K
        try simp only [Act.put, putA, putZ, putS]
        refine wpAnyZ_next (rs := [8]) (by kernel_rfl) (by simp) ?_
        refine NextZ.cons (o := ⟨some 53, _, _, _, _, _⟩) rfl (fun K hK => ?_) NextZ.nil
        go_simp
        have HA62 := Lib.hid (HA61.out.below (below_alloc X61 (.cells #[] 43)))
        have HR62 : Hid (Rws w5.heap.size (X61.alloc (.cells #[] 43)) (rows5 y vb vc nb nc2 F (.slice qa0 y.nb qc0) (.slice qa1 y.nr qc1) (.slice (some ⟨X61.heap.size, 0, none⟩) 0 0) (y.nb) (y.nr) (0) (flatR y.b y.nb) (flatR y.r y.nr) ([]) (flatR (y.ct 0) y.ng))) := HR61.out.made HA61.out.fr.size 3 43 2
        refine hK.out _ _ (⟨HA62.out.cell (.tail _ (.head _)) 1, HA62.out.cell (.tail _ (.head _)) 2, HA62.out.cell (.tail _ (.head _)) 3⟩) (fun hS => ?_)
        clear hK K
        try simp only [Act.put, putA, putZ, putS]
        generalize X61.heap.size = J2 at *
        generalize (X61.alloc (.cells #[] 43)) = X62 at *
        refine wpAnyZ_next (rs := [11]) (by kernel_rfl) (by simp) ?_
        refine NextZ.cons (o := ⟨some 56, _, _, _, _, _⟩) rfl (fun K hK => ?_) NextZ.nil
        refine step_append_src X62 (by rfl) (.tmp 53) (.tmp 55) 23 (by rfl) w5.heap.size 43 i0 (.agg #[.int .i64 0, .int .i64 0]) 2 16 Try.underlying23 hi0 hz0 hz1 hz2 rfl (by decide) (.slice (some ⟨J2, 0, none⟩) 0 0) 0 [] (by rfl) (HR62.out.own 3 _ rfl) vna y.nn vnc (flatR y.n y.nn) (by rfl) ((HL.out.2.2.2.below HA62.out.fr).src) (flatR_one _ _) (by unfold maxLen; omega) (by omega) HA62.out.fr.size ?_
        intro v63 X63 hown hgr hl
        rw [Nat.zero_add, List.nil_append] at hown
        obtain ⟨qa2, qc2, rfl⟩ := own_slice' hown
        have HA63 := Lib.hid (BF.grow HA62.out HR62.out (i := 3) rfl (List.forall_mem_cons.2 ⟨(show 25 ≠ 43 by decide), List.forall_mem_cons.2 ⟨(show 25 ≠ 43 by decide), List.forall_mem_nil _⟩⟩) (Nat.le_refl _) hgr)
        have HR63 : Hid (Rws w5.heap.size X63 (rows5 y vb vc nb nc2 F (.slice qa0 y.nb qc0) (.slice qa1 y.nr qc1) (.slice qa2 y.nn qc2) (y.nb) (y.nr) (y.nn) (flatR y.b y.nb) (flatR y.r y.nr) (flatR y.n y.nn) (flatR (y.ct 0) y.ng))) := HR62.out.app (i := 3) rfl hown hgr hl
        clear hown hgr hl
        refine hK.out _ _ (⟨HA63.out.cell (.tail _ (.head _)) 1, HA63.out.cell (.tail _ (.head _)) 2, HA63.out.cell (.tail _ (.head _)) 3⟩) (fun hS => ?_)
        clear hK K
        try simp only [Act.put, putA, putZ, putS]
        refine wpAnyZ_next (rs := [13]) (by kernel_rfl) (by simp) ?_
        refine NextZ.cons (o := ⟨none, _, _, _, _, _⟩) rfl (fun K hK => ?_) NextZ.nil
        have e0 := HA63.out.cell (.head _) 1
        have f0 := HA63.out.thaw (.head _) 1
        have HA64 := Lib.hid (BF.set1 (i := 1) (cs' := #[.slice (some ⟨vb, 0, none⟩) y.nc vc, .slice qa0 y.nb qc0, .slice vra y.nr vrc, .slice vna y.nn vnc]) HA63.out (.head _) (.slice qa0 y.nb qc0) (by simp) rfl (L' := [(w5.heap.size, #[.slice (some ⟨cb, co, none⟩) y.nc vcc, .slice vba y.nb vbc, .slice vra y.nr vrc, .slice vna y.nn vnc], 25)]) (List.forall_mem_cons.2 ⟨⟨show w5.heap.size ≠ xb by omega, (.tail _ (.head _))⟩, List.forall_mem_nil _⟩))
        have HR64 : Hid (Rws w5.heap.size (X63.setCell ⟨xb, 1, none⟩ (.slice qa0 y.nb qc0)) (rows5 y vb vc nb nc2 F (.slice qa0 y.nb qc0) (.slice qa1 y.nr qc1) (.slice qa2 y.nn qc2) (y.nb) (y.nr) (y.nn) (flatR y.b y.nb) (flatR y.r y.nr) (flatR y.n y.nn) (flatR (y.ct 0) y.ng))) := HR63.out.tab (HA63.out.bk _ _ _ (.head _)).2 (rows5_ty (by decide) (by decide)) (Fr.set _ _ _ _)
        go_simp
        refine hK.out _ _ (⟨HA64.out.cell (.tail _ (.head _)) 1, HA64.out.cell (.tail _ (.head _)) 2, HA64.out.cell (.tail _ (.head _)) 3⟩) (fun hS => ?_)
        clear hK K
        (try simp only [Act.put])
        clear e0 f0
        refine tZ 14 (oi := ⟨_, _, _, _, _, _⟩) (v := ?_) rfl (by kernel_rfl) (by rfl) (fun _ _ _ h => h) hS ?_ ?_
        rotate_left
        · rintro W' ⟨z0, z1, z2⟩; go_simp; try with_reducible rfl
        try simp only [Act.put, putA, putZ, putS]
        refine wpAnyZ_next (rs := [15]) (by kernel_rfl) (by simp) ?_
        refine NextZ.cons (o := ⟨none, _, _, _, _, _⟩) rfl (fun K hK => ?_) NextZ.nil
        have e0 := HA64.out.cell (.head _) 2
        have f0 := HA64.out.thaw (.head _) 2
        have HA65 := Lib.hid (BF.set1 (i := 2) (cs' := #[.slice (some ⟨vb, 0, none⟩) y.nc vc, .slice qa0 y.nb qc0, .slice qa1 y.nr qc1, .slice vna y.nn vnc]) HA64.out (.head _) (.slice qa1 y.nr qc1) (by simp) rfl (L' := [(w5.heap.size, #[.slice (some ⟨cb, co, none⟩) y.nc vcc, .slice vba y.nb vbc, .slice vra y.nr vrc, .slice vna y.nn vnc], 25)]) (List.forall_mem_cons.2 ⟨⟨show w5.heap.size ≠ xb by omega, (.tail _ (.head _))⟩, List.forall_mem_nil _⟩))
        have HR65 : Hid (Rws w5.heap.size ((X63.setCell ⟨xb, 1, none⟩ (.slice qa0 y.nb qc0)).setCell ⟨xb, 2, none⟩ (.slice qa1 y.nr qc1)) (rows5 y vb vc nb nc2 F (.slice qa0 y.nb qc0) (.slice qa1 y.nr qc1) (.slice qa2 y.nn qc2) (y.nb) (y.nr) (y.nn) (flatR y.b y.nb) (flatR y.r y.nr) (flatR y.n y.nn) (flatR (y.ct 0) y.ng))) := HR64.out.tab (HA64.out.bk _ _ _ (.head _)).2 (rows5_ty (by decide) (by decide)) (Fr.set _ _ _ _)
        go_simp
        refine hK.out _ _ (⟨HA65.out.cell (.tail _ (.head _)) 1, HA65.out.cell (.tail _ (.head _)) 2, HA65.out.cell (.tail _ (.head _)) 3⟩) (fun hS => ?_)
        clear hK K
        (try simp only [Act.put])
        clear e0 f0
        refine tZ 16 (oi := ⟨_, _, _, _, _, _⟩) (v := ?_) rfl (by kernel_rfl) (by rfl) (fun _ _ _ h => h) hS ?_ ?_
        rotate_left
        · rintro W' ⟨z0, z1, z2⟩; go_simp; try with_reducible rfl
        try simp only [Act.put, putA, putZ, putS]
        refine wpAnyZ_next (rs := [17]) (by kernel_rfl) (by simp) ?_
        refine NextZ.last (o := ⟨none, _, _, _, _, _⟩) rfl (by kernel_rfl) (fun K hK => ?_)
        have e0 := HA65.out.cell (.head _) 3
        have f0 := HA65.out.thaw (.head _) 3
        have HA66 := Lib.hid (BF.set1 (i := 3) (cs' := #[.slice (some ⟨vb, 0, none⟩) y.nc vc, .slice qa0 y.nb qc0, .slice qa1 y.nr qc1, .slice qa2 y.nn qc2]) HA65.out (.head _) (.slice qa2 y.nn qc2) (by simp) rfl (L' := [(w5.heap.size, #[.slice (some ⟨cb, co, none⟩) y.nc vcc, .slice vba y.nb vbc, .slice vra y.nr vrc, .slice vna y.nn vnc], 25)]) (List.forall_mem_cons.2 ⟨⟨show w5.heap.size ≠ xb by omega, (.tail _ (.head _))⟩, List.forall_mem_nil _⟩))
        have HR66 : Hid (Rws w5.heap.size (((X63.setCell ⟨xb, 1, none⟩ (.slice qa0 y.nb qc0)).setCell ⟨xb, 2, none⟩ (.slice qa1 y.nr qc1)).setCell ⟨xb, 3, none⟩ (.slice qa2 y.nn qc2)) (rows5 y vb vc nb nc2 F (.slice qa0 y.nb qc0) (.slice qa1 y.nr qc1) (.slice qa2 y.nn qc2) (y.nb) (y.nr) (y.nn) (flatR y.b y.nb) (flatR y.r y.nr) (flatR y.n y.nn) (flatR (y.ct 0) y.ng))) := HR65.out.tab (HA65.out.bk _ _ _ (.head _)).2 (rows5_ty (by decide) (by decide)) (Fr.set _ _ _ _)
        go_simp
        refine hK.out _ _ ?_
        clear hK K
        (try simp only [Act.put])
        clear e0 f0
        refine wpAnyZ_done (by kernel_rfl) ?_ _
        go_wp2_with fail
        go_meet
        exact ⟨qa0, qc0, qa1, qc1, qa2, qc2, HA66.out, HR66.out⟩
       refine NextZ.cons (o := ⟨some 53, _, _, _, _, _⟩) rfl (fun K hK => ?_) NextZ.nil
       go_simp
       have HA67 := Lib.hid (HA60.out.below (below_alloc X60 (.cells #[] 43)))
       have HR67 : Hid (Rws w5.heap.size (X60.alloc (.cells #[] 43)) (rows5 y vb vc nb nc2 F (.slice qa0 y.nb qc0) (.slice (some ⟨J1, 0, none⟩) 0 0) (.slice (some ⟨X60.heap.size, 0, none⟩) 0 0) (y.nb) (0) (0) (flatR y.b y.nb) ([]) ([]) (flatR (y.ct 0) y.ng))) := HR60.out.made HA60.out.fr.size 3 43 2
       refine hK.out _ _ (⟨HA67.out.cell (.tail _ (.head _)) 1, HA67.out.cell (.tail _ (.head _)) 2, HA67.out.cell (.tail _ (.head _)) 3⟩) (fun hS => ?_)
       clear hK K
       try simp only [Act.put, putA, putZ, putS]
       generalize X60.heap.size = J2 at *
       generalize (X60.alloc (.cells #[] 43)) = X67 at *
       refine wpAnyZ_next (rs := [7]) (by kernel_rfl) (by simp) ?_
       refine NextZ.cons (o := ⟨some 52, _, _, _, _, _⟩) rfl (fun K hK => ?_) NextZ.nil
       refine step_append_src X67 (by rfl) (.tmp 49) (.tmp 51) 23 (by rfl) w5.heap.size 43 i0 (.agg #[.int .i64 0, .int .i64 0]) 2 16 Try.underlying23 hi0 hz0 hz1 hz2 rfl (by decide) (.slice (some ⟨J1, 0, none⟩) 0 0) 0 [] (by rfl) (HR67.out.own 2 _ rfl) vra y.nr vrc (flatR y.r y.nr) (by rfl) ((HL.out.2.2.1.below HA67.out.fr).src) (flatR_one _ _) (by unfold maxLen; omega) (by omega) HA67.out.fr.size ?_
       intro v68 X68 hown hgr hl
       rw [Nat.zero_add, List.nil_append] at hown
       obtain ⟨qa1, qc1, rfl⟩ := own_slice' hown
       have HA68 := Lib.hid (BF.grow HA67.out HR67.out (i := 2) rfl (List.forall_mem_cons.2 ⟨(show 25 ≠ 43 by decide), List.forall_mem_cons.2 ⟨(show 25 ≠ 43 by decide), List.forall_mem_nil _⟩⟩) (Nat.le_refl _) hgr)
       have HR68 : Hid (Rws w5.heap.size X68 (rows5 y vb vc nb nc2 F (.slice qa0 y.nb qc0) (.slice qa1 y.nr qc1) (.slice (some ⟨J2, 0, none⟩) 0 0) (y.nb) (y.nr) (0) (flatR y.b y.nb) (flatR y.r y.nr) ([]) (flatR (y.ct 0) y.ng))) := HR67.out.app (i := 2) rfl hown hgr hl
       clear hown hgr hl
       refine hK.out _ _ (⟨HA68.out.cell (.tail _ (.head _)) 1, HA68.out.cell (.tail _ (.head _)) 2, HA68.out.cell (.tail _ (.head _)) 3⟩) (fun hS => ?_)
       clear hK K
       try simp only [Act.put, putA, putZ, putS]
       refine wpAnyZ_next (rs := [11]) (by kernel_rfl) (by simp) ?_
       refine NextZ.cons (o := ⟨some 56, _, _, _, _, _⟩) rfl (fun K hK => ?_) NextZ.nil
       refine step_append_src X68 (by rfl) (.tmp 53) (.tmp 55) 23 (by rfl) w5.heap.size 43 i0 (.agg #[.int .i64 0, .int .i64 0]) 2 16 Try.underlying23 hi0 hz0 hz1 hz2 rfl (by decide) (.slice (some ⟨J2, 0, none⟩) 0 0) 0 [] (by rfl) (HR68.out.own 3 _ rfl) vna y.nn vnc (flatR y.n y.nn) (by rfl) ((HL.out.2.2.2.below HA68.out.fr).src) (flatR_one _ _) (by unfold maxLen; omega) (by omega) HA68.out.fr.size ?_
       intro v69 X69 hown hgr hl
       rw [Nat.zero_add, List.nil_append] at hown
       obtain ⟨qa2, qc2, rfl⟩ := own_slice' hown
       have HA69 := Lib.hid (BF.grow HA68.out HR68.out (i := 3) rfl (List.forall_mem_cons.2 ⟨(show 25 ≠ 43 by decide), List.forall_mem_cons.2 ⟨(show 25 ≠ 43 by decide), List.forall_mem_nil _⟩⟩) (Nat.le_refl _) hgr)
       have HR69 : Hid (Rws w5.heap.size X69 (rows5 y vb vc nb nc2 F (.slice qa0 y.nb qc0) (.slice qa1 y.nr qc1) (.slice qa2 y.nn qc2) (y.nb) (y.nr) (y.nn) (flatR y.b y.nb) (flatR y.r y.nr) (flatR y.n y.nn) (flatR (y.ct 0) y.ng))) := HR68.out.app (i := 3) rfl hown hgr hl
       clear hown hgr hl
       refine hK.out _ _ (⟨HA69.out.cell (.tail _ (.head _)) 1, HA69.out.cell (.tail _ (.head _)) 2, HA69.out.cell (.tail _ (.head _)) 3⟩) (fun hS => ?_)
       clear hK K
       try simp only [Act.put, putA, putZ, putS]
       refine wpAnyZ_next (rs := [13]) (by kernel_rfl) (by simp) ?_
       refine NextZ.cons (o := ⟨none, _, _, _, _, _⟩) rfl (fun K hK => ?_) NextZ.nil
       have e0 := HA69.out.cell (.head _) 1
       have f0 := HA69.out.thaw (.head _) 1
       have HA70 := Lib.hid (BF.set1 (i := 1) (cs' := #[.slice (some ⟨vb, 0, none⟩) y.nc vc, .slice qa0 y.nb qc0, .slice vra y.nr vrc, .slice vna y.nn vnc]) HA69.out (.head _) (.slice qa0 y.nb qc0) (by simp) rfl (L' := [(w5.heap.size, #[.slice (some ⟨cb, co, none⟩) y.nc vcc, .slice vba y.nb vbc, .slice vra y.nr vrc, .slice vna y.nn vnc], 25)]) (List.forall_mem_cons.2 ⟨⟨show w5.heap.size ≠ xb by omega, (.tail _ (.head _))⟩, List.forall_mem_nil _⟩))
       have HR70 : Hid (Rws w5.heap.size (X69.setCell ⟨xb, 1, none⟩ (.slice qa0 y.nb qc0)) (rows5 y vb vc nb nc2 F (.slice qa0 y.nb qc0) (.slice qa1 y.nr qc1) (.slice qa2 y.nn qc2) (y.nb) (y.nr) (y.nn) (flatR y.b y.nb) (flatR y.r y.nr) (flatR y.n y.nn) (flatR (y.ct 0) y.ng))) := HR69.out.tab (HA69.out.bk _ _ _ (.head _)).2 (rows5_ty (by decide) (by decide)) (Fr.set _ _ _ _)
       go_simp
       refine hK.out _ _ (⟨HA70.out.cell (.tail _ (.head _)) 1, HA70.out.cell (.tail _ (.head _)) 2, HA70.out.cell (.tail _ (.head _)) 3⟩) (fun hS => ?_)
       clear hK K
       (try simp only [Act.put])
       clear e0 f0
       refine tZ 14 (oi := ⟨_, _, _, _, _, _⟩) (v := ?_) rfl (by kernel_rfl) (by rfl) (fun _ _ _ h => h) hS ?_ ?_
       rotate_left
       · rintro W' ⟨z0, z1, z2⟩; go_simp; try with_reducible rfl
       try simp only [Act.put, putA, putZ, putS]
       refine wpAnyZ_next (rs := [15]) (by kernel_rfl) (by simp) ?_
       refine NextZ.cons (o := ⟨none, _, _, _, _, _⟩) rfl (fun K hK => ?_) NextZ.nil
       have e0 := HA70.out.cell (.head _) 2
       have f0 := HA70.out.thaw (.head _) 2
       have HA71 := Lib.hid (BF.set1 (i := 2) (cs' := #[.slice (some ⟨vb, 0, none⟩) y.nc vc, .slice qa0 y.nb qc0, .slice qa1 y.nr qc1, .slice vna y.nn vnc]) HA70.out (.head _) (.slice qa1 y.nr qc1) (by simp) rfl (L' := [(w5.heap.size, #[.slice (some ⟨cb, co, none⟩) y.nc vcc, .slice vba y.nb vbc, .slice vra y.nr vrc, .slice vna y.nn vnc], 25)]) (List.forall_mem_cons.2 ⟨⟨show w5.heap.size ≠ xb by omega, (.tail _ (.head _))⟩, List.forall_mem_nil _⟩))
       have HR71 : Hid (Rws w5.heap.size ((X69.setCell ⟨xb, 1, none⟩ (.slice qa0 y.nb qc0)).setCell ⟨xb, 2, none⟩ (.slice qa1 y.nr qc1)) (rows5 y vb vc nb nc2 F (.slice qa0 y.nb qc0) (.slice qa1 y.nr qc1) (.slice qa2 y.nn qc2) (y.nb) (y.nr) (y.nn) (flatR y.b y.nb) (flatR y.r y.nr) (flatR y.n y.nn) (flatR (y.ct 0) y.ng))) := HR70.out.tab (HA70.out.bk _ _ _ (.head _)).2 (rows5_ty (by decide) (by decide)) (Fr.set _ _ _ _)
       go_simp
       refine hK.out _ _ (⟨HA71.out.cell (.tail _ (.head _)) 1, HA71.out.cell (.tail _ (.head _)) 2, HA71.out.cell (.tail _ (.head _)) 3⟩) (fun hS => ?_)
       clear hK K
       (try simp only [Act.put])
       clear e0 f0
       refine tZ 16 (oi := ⟨_, _, _, _, _, _⟩) (v := ?_) rfl (by kernel_rfl) (by rfl) (fun _ _ _ h => h) hS ?_ ?_
       rotate_left
       · rintro W' ⟨z0, z1, z2⟩; go_simp; try with_reducible rfl
       try simp only [Act.put, putA, putZ, putS]
       refine wpAnyZ_next (rs := [17]) (by kernel_rfl) (by simp) ?_
       refine NextZ.last (o := ⟨none, _, _, _, _, _⟩) rfl (by kernel_rfl) (fun K hK => ?_)
       have e0 := HA71.out.cell (.head _) 3
       have f0 := HA71.out.thaw (.head _) 3
       have HA72 := Lib.hid (BF.set1 (i := 3) (cs' := #[.slice (some ⟨vb, 0, none⟩) y.nc vc, .slice qa0 y.nb qc0, .slice qa1 y.nr qc1, .slice qa2 y.nn qc2]) HA71.out (.head _) (.slice qa2 y.nn qc2) (by simp) rfl (L' := [(w5.heap.size, #[.slice (some ⟨cb, co, none⟩) y.nc vcc, .slice vba y.nb vbc, .slice vra y.nr vrc, .slice vna y.nn vnc], 25)]) (List.forall_mem_cons.2 ⟨⟨show w5.heap.size ≠ xb by omega, (.tail _ (.head _))⟩, List.forall_mem_nil _⟩))
       have HR72 : Hid (Rws w5.heap.size (((X69.setCell ⟨xb, 1, none⟩ (.slice qa0 y.nb qc0)).setCell ⟨xb, 2, none⟩ (.slice qa1 y.nr qc1)).setCell ⟨xb, 3, none⟩ (.slice qa2 y.nn qc2)) (rows5 y vb vc nb nc2 F (.slice qa0 y.nb qc0) (.slice qa1 y.nr qc1) (.slice qa2 y.nn qc2) (y.nb) (y.nr) (y.nn) (flatR y.b y.nb) (flatR y.r y.nr) (flatR y.n y.nn) (flatR (y.ct 0) y.ng))) := HR71.out.tab (HA71.out.bk _ _ _ (.head _)).2 (rows5_ty (by decide) (by decide)) (Fr.set _ _ _ _)
       go_simp
       refine hK.out _ _ ?_
       clear hK K
       (try simp only [Act.put])
       clear e0 f0
       refine wpAnyZ_done (by kernel_rfl) ?_ _
       go_wp2_with fail
       go_meet
       exact ⟨qa0, qc0, qa1, qc1, qa2, qc2, HA72.out, HR72.out⟩
      refine NextZ.cons (o := ⟨some 53, _, _, _, _, _⟩) rfl (fun K hK => ?_) NextZ.nil
      go_simp
      have HA73 := Lib.hid (HA59.out.below (below_alloc X59 (.cells #[] 43)))
      have HR73 : Hid (Rws w5.heap.size (X59.alloc (.cells #[] 43)) (rows5 y vb vc nb nc2 F (.slice (some ⟨J0, 0, none⟩) 0 0) (.slice (some ⟨J1, 0, none⟩) 0 0) (.slice (some ⟨X59.heap.size, 0, none⟩) 0 0) (0) (0) (0) ([]) ([]) ([]) (flatR (y.ct 0) y.ng))) := HR59.out.made HA59.out.fr.size 3 43 2
      refine hK.out _ _ (⟨HA73.out.cell (.tail _ (.head _)) 1, HA73.out.cell (.tail _ (.head _)) 2, HA73.out.cell (.tail _ (.head _)) 3⟩) (fun hS => ?_)
      clear hK K
      try simp only [Act.put, putA, putZ, putS]
      generalize X59.heap.size = J2 at *
      generalize (X59.alloc (.cells #[] 43)) = X73 at *
      refine wpAnyZ_next (rs := [3]) (by kernel_rfl) (by simp) ?_
      refine NextZ.cons (o := ⟨some 48, _, _, _, _, _⟩) rfl (fun K hK => ?_) NextZ.nil
      refine step_append_src X73 (by rfl) (.tmp 45) (.tmp 47) 23 (by rfl) w5.heap.size 43 i0 (.agg #[.int .i64 0, .int .i64 0]) 2 16 Try.underlying23 hi0 hz0 hz1 hz2 rfl (by decide) (.slice (some ⟨J0, 0, none⟩) 0 0) 0 [] (by rfl) (HR73.out.own 1 _ rfl) vba y.nb vbc (flatR y.b y.nb) (by rfl) ((HL.out.2.1.below HA73.out.fr).src) (flatR_one _ _) (by unfold maxLen; omega) (by omega) HA73.out.fr.size ?_
      intro v74 X74 hown hgr hl
      rw [Nat.zero_add, List.nil_append] at hown
      obtain ⟨qa0, qc0, rfl⟩ := own_slice' hown
      have HA74 := Lib.hid (BF.grow HA73.out HR73.out (i := 1) rfl (List.forall_mem_cons.2 ⟨(show 25 ≠ 43 by decide), List.forall_mem_cons.2 ⟨(show 25 ≠ 43 by decide), List.forall_mem_nil _⟩⟩) (Nat.le_refl _) hgr)
      have HR74 : Hid (Rws w5.heap.size X74 (rows5 y vb vc nb nc2 F (.slice qa0 y.nb qc0) (.slice (some ⟨J1, 0, none⟩) 0 0) (.slice (some ⟨J2, 0, none⟩) 0 0) (y.nb) (0) (0) (flatR y.b y.nb) ([]) ([]) (flatR (y.ct 0) y.ng))) := HR73.out.app (i := 1) rfl hown hgr hl
      clear hown hgr hl
      refine hK.out _ _ (⟨HA74.out.cell (.tail _ (.head _)) 1, HA74.out.cell (.tail _ (.head _)) 2, HA74.out.cell (.tail _ (.head _)) 3⟩) (fun hS => ?_)
      clear hK K
      try simp only [Act.put, putA, putZ, putS]
      refine tZ 12 (oi := ⟨_, _, _, _, _, _⟩) (v := ?_) rfl (by kernel_rfl) (by rfl) (fun _ _ _ h => h) hS ?_ ?_
      rotate_left
      · rintro W' ⟨z0, z1, z2⟩; go_simp; try with_reducible rfl
      try simp only [Act.put, putA, putZ, putS]
      refine wpAnyZ_next (rs := [7]) (by kernel_rfl) (by simp) ?_
      refine NextZ.cons (o := ⟨some 52, _, _, _, _, _⟩) rfl (fun K hK => ?_) NextZ.nil
      refine step_append_src X74 (by rfl) (.tmp 49) (.tmp 51) 23 (by rfl) w5.heap.size 43 i0 (.agg #[.int .i64 0, .int .i64 0]) 2 16 Try.underlying23 hi0 hz0 hz1 hz2 rfl (by decide) (.slice (some ⟨J1, 0, none⟩) 0 0) 0 [] (by rfl) (HR74.out.own 2 _ rfl) vra y.nr vrc (flatR y.r y.nr) (by rfl) ((HL.out.2.2.1.below HA74.out.fr).src) (flatR_one _ _) (by unfold maxLen; omega) (by omega) HA74.out.fr.size ?_
      intro v75 X75 hown hgr hl
      rw [Nat.zero_add, List.nil_append] at hown
      obtain ⟨qa1, qc1, rfl⟩ := own_slice' hown
      have HA75 := Lib.hid (BF.grow HA74.out HR74.out (i := 2) rfl (List.forall_mem_cons.2 ⟨(show 25 ≠ 43 by decide), List.forall_mem_cons.2 ⟨(show 25 ≠ 43 by decide), List.forall_mem_nil _⟩⟩) (Nat.le_refl _) hgr)
      have HR75 : Hid (Rws w5.heap.size X75 (rows5 y vb vc nb nc2 F (.slice qa0 y.nb qc0) (.slice qa1 y.nr qc1) (.slice (some ⟨J2, 0, none⟩) 0 0) (y.nb) (y.nr) (0) (flatR y.b y.nb) (flatR y.r y.nr) ([]) (flatR (y.ct 0) y.ng))) := HR74.out.app (i := 2) rfl hown hgr hl
      clear hown hgr hl
      refine hK.out _ _ (⟨HA75.out.cell (.tail _ (.head _)) 1, HA75.out.cell (.tail _ (.head _)) 2, HA75.out.cell (.tail _ (.head _)) 3⟩) (fun hS => ?_)
      clear hK K
      try simp only [Act.put, putA, putZ, putS]
      refine wpAnyZ_next (rs := [11]) (by kernel_rfl) (by simp) ?_
      refine NextZ.cons (o := ⟨some 56, _, _, _, _, _⟩) rfl (fun K hK => ?_) NextZ.nil
      refine step_append_src X75 (by rfl) (.tmp 53) (.tmp 55) 23 (by rfl) w5.heap.size 43 i0 (.agg #[.int .i64 0, .int .i64 0]) 2 16 Try.underlying23 hi0 hz0 hz1 hz2 rfl (by decide) (.slice (some ⟨J2, 0, none⟩) 0 0) 0 [] (by rfl) (HR75.out.own 3 _ rfl) vna y.nn vnc (flatR y.n y.nn) (by rfl) ((HL.out.2.2.2.below HA75.out.fr).src) (flatR_one _ _) (by unfold maxLen; omega) (by omega) HA75.out.fr.size ?_
      intro v76 X76 hown hgr hl
      rw [Nat.zero_add, List.nil_append] at hown
      obtain ⟨qa2, qc2, rfl⟩ := own_slice' hown
      have HA76 := Lib.hid (BF.grow HA75.out HR75.out (i := 3) rfl (List.forall_mem_cons.2 ⟨(show 25 ≠ 43 by decide), List.forall_mem_cons.2 ⟨(show 25 ≠ 43 by decide), List.forall_mem_nil _⟩⟩) (Nat.le_refl _) hgr)
      have HR76 : Hid (Rws w5.heap.size X76 (rows5 y vb vc nb nc2 F (.slice qa0 y.nb qc0) (.slice qa1 y.nr qc1) (.slice qa2 y.nn qc2) (y.nb) (y.nr) (y.nn) (flatR y.b y.nb) (flatR y.r y.nr) (flatR y.n y.nn) (flatR (y.ct 0) y.ng))) := HR75.out.app (i := 3) rfl hown hgr hl
      clear hown hgr hl
      refine hK.out _ _ (⟨HA76.out.cell (.tail _ (.head _)) 1, HA76.out.cell (.tail _ (.head _)) 2, HA76.out.cell (.tail _ (.head _)) 3⟩) (fun hS => ?_)
      clear hK K
      try simp only [Act.put, putA, putZ, putS]
      refine wpAnyZ_next (rs := [13]) (by kernel_rfl) (by simp) ?_
      refine NextZ.cons (o := ⟨none, _, _, _, _, _⟩) rfl (fun K hK => ?_) NextZ.nil
      have e0 := HA76.out.cell (.head _) 1
      have f0 := HA76.out.thaw (.head _) 1
      have HA77 := Lib.hid (BF.set1 (i := 1) (cs' := #[.slice (some ⟨vb, 0, none⟩) y.nc vc, .slice qa0 y.nb qc0, .slice vra y.nr vrc, .slice vna y.nn vnc]) HA76.out (.head _) (.slice qa0 y.nb qc0) (by simp) rfl (L' := [(w5.heap.size, #[.slice (some ⟨cb, co, none⟩) y.nc vcc, .slice vba y.nb vbc, .slice vra y.nr vrc, .slice vna y.nn vnc], 25)]) (List.forall_mem_cons.2 ⟨⟨show w5.heap.size ≠ xb by omega, (.tail _ (.head _))⟩, List.forall_mem_nil _⟩))
      have HR77 : Hid (Rws w5.heap.size (X76.setCell ⟨xb, 1, none⟩ (.slice qa0 y.nb qc0)) (rows5 y vb vc nb nc2 F (.slice qa0 y.nb qc0) (.slice qa1 y.nr qc1) (.slice qa2 y.nn qc2) (y.nb) (y.nr) (y.nn) (flatR y.b y.nb) (flatR y.r y.nr) (flatR y.n y.nn) (flatR (y.ct 0) y.ng))) := HR76.out.tab (HA76.out.bk _ _ _ (.head _)).2 (rows5_ty (by decide) (by decide)) (Fr.set _ _ _ _)
      go_simp
      refine hK.out _ _ (⟨HA77.out.cell (.tail _ (.head _)) 1, HA77.out.cell (.tail _ (.head _)) 2, HA77.out.cell (.tail _ (.head _)) 3⟩) (fun hS => ?_)
      clear hK K
      (try simp only [Act.put])
      clear e0 f0
      refine tZ 14 (oi := ⟨_, _, _, _, _, _⟩) (v := ?_) rfl (by kernel_rfl) (by rfl) (fun _ _ _ h => h) hS ?_ ?_
      rotate_left
      · rintro W' ⟨z0, z1, z2⟩; go_simp; try with_reducible rfl
      try simp only [Act.put, putA, putZ, putS]
      refine wpAnyZ_next (rs := [15]) (by kernel_rfl) (by simp) ?_
      refine NextZ.cons (o := ⟨none, _, _, _, _, _⟩) rfl (fun K hK => ?_) NextZ.nil
      have e0 := HA77.out.cell (.head _) 2
      have f0 := HA77.out.thaw (.head _) 2
      have HA78 := Lib.hid (BF.set1 (i := 2) (cs' := #[.slice (some ⟨vb, 0, none⟩) y.nc vc, .slice qa0 y.nb qc0, .slice qa1 y.nr qc1, .slice vna y.nn vnc]) HA77.out (.head _) (.slice qa1 y.nr qc1) (by simp) rfl (L' := [(w5.heap.size, #[.slice (some ⟨cb, co, none⟩) y.nc vcc, .slice vba y.nb vbc, .slice vra y.nr vrc, .slice vna y.nn vnc], 25)]) (List.forall_mem_cons.2 ⟨⟨show w5.heap.size ≠ xb by omega, (.tail _ (.head _))⟩, List.forall_mem_nil _⟩))
      have HR78 : Hid (Rws w5.heap.size ((X76.setCell ⟨xb, 1, none⟩ (.slice qa0 y.nb qc0)).setCell ⟨xb, 2, none⟩ (.slice qa1 y.nr qc1)) (rows5 y vb vc nb nc2 F (.slice qa0 y.nb qc0) (.slice qa1 y.nr qc1) (.slice qa2 y.nn qc2) (y.nb) (y.nr) (y.nn) (flatR y.b y.nb) (flatR y.r y.nr) (flatR y.n y.nn) (flatR (y.ct 0) y.ng))) := HR77.out.tab (HA77.out.bk _ _ _ (.head _)).2 (rows5_ty (by decide) (by decide)) (Fr.set _ _ _ _)
      go_simp
      refine hK.out _ _ (⟨HA78.out.cell (.tail _ (.head _)) 1, HA78.out.cell (.tail _ (.head _)) 2, HA78.out.cell (.tail _ (.head _)) 3⟩) (fun hS => ?_)
      clear hK K
      (try simp only [Act.put])
      clear e0 f0
      refine tZ 16 (oi := ⟨_, _, _, _, _, _⟩) (v := ?_) rfl (by kernel_rfl) (by rfl) (fun _ _ _ h => h) hS ?_ ?_
      rotate_left
      · rintro W' ⟨z0, z1, z2⟩; go_simp; try with_reducible rfl
      try simp only [Act.put, putA, putZ, putS]
      refine wpAnyZ_next (rs := [17]) (by kernel_rfl) (by simp) ?_
      refine NextZ.last (o := ⟨none, _, _, _, _, _⟩) rfl (by kernel_rfl) (fun K hK => ?_)
      have e0 := HA78.out.cell (.head _) 3
      have f0 := HA78.out.thaw (.head _) 3
      have HA79 := Lib.hid (BF.set1 (i := 3) (cs' := #[.slice (some ⟨vb, 0, none⟩) y.nc vc, .slice qa0 y.nb qc0, .slice qa1 y.nr qc1, .slice qa2 y.nn qc2]) HA78.out (.head _) (.slice qa2 y.nn qc2) (by simp) rfl (L' := [(w5.heap.size, #[.slice (some ⟨cb, co, none⟩) y.nc vcc, .slice vba y.nb vbc, .slice vra y.nr vrc, .slice vna y.nn vnc], 25)]) (List.forall_mem_cons.2 ⟨⟨show w5.heap.size ≠ xb by omega, (.tail _ (.head _))⟩, List.forall_mem_nil _⟩))
      have HR79 : Hid (Rws w5.heap.size (((X76.setCell ⟨xb, 1, none⟩ (.slice qa0 y.nb qc0)).setCell ⟨xb, 2, none⟩ (.slice qa1 y.nr qc1)).setCell ⟨xb, 3, none⟩ (.slice qa2 y.nn qc2)) (rows5 y vb vc nb nc2 F (.slice qa0 y.nb qc0) (.slice qa1 y.nr qc1) (.slice qa2 y.nn qc2) (y.nb) (y.nr) (y.nn) (flatR y.b y.nb) (flatR y.r y.nr) (flatR y.n y.nn) (flatR (y.ct 0) y.ng))) := HR78.out.tab (HA78.out.bk _ _ _ (.head _)).2 (rows5_ty (by decide) (by decide)) (Fr.set _ _ _ _)
      go_simp
      refine hK.out _ _ ?_
      clear hK K
      (try simp only [Act.put])
      clear e0 f0
      refine wpAnyZ_done (by kernel_rfl) ?_ _
      go_wp2_with fail
      go_meet
      exact ⟨qa0, qc0, qa1, qc1, qa2, qc2, HA79.out, HR79.out⟩
     refine NextZ.cons (o := ⟨some 53, _, _, _, _, _⟩) rfl (fun K hK => ?_) NextZ.nil
     go_simp
     have HA80 := Lib.hid (HA58.out.below (below_alloc X58 (.cells #[] 43)))
     have HR80 : Hid (Rws w5.heap.size (X58.alloc (.cells #[] 43)) (rows5 y vb vc nb nc2 F (.slice none 0 0) (.slice (some ⟨J1, 0, none⟩) 0 0) (.slice (some ⟨X58.heap.size, 0, none⟩) 0 0) (0) (0) (0) ([]) ([]) ([]) (flatR (y.ct 0) y.ng))) := HR58.out.made HA58.out.fr.size 3 43 2
     refine hK.out _ _ (⟨HA80.out.cell (.tail _ (.head _)) 1, HA80.out.cell (.tail _ (.head _)) 2, HA80.out.cell (.tail _ (.head _)) 3⟩) (fun hS => ?_)
     clear hK K
     try simp only [Act.put, putA, putZ, putS]
     generalize X58.heap.size = J2 at *
     generalize (X58.alloc (.cells #[] 43)) = X80 at *
     refine wpAnyZ_next (rs := [0]) (by kernel_rfl) (by simp) ?_
     refine NextZ.cons (o := ⟨some 45, _, _, _, _, _⟩) rfl (fun K hK => ?_) NextZ.nil
     go_simp
     have HA81 := Lib.hid (HA80.out.below (below_alloc X80 (.cells #[] 43)))
     have HR81 : Hid (Rws w5.heap.size (X80.alloc (.cells #[] 43)) (rows5 y vb vc nb nc2 F (.slice (some ⟨X80.heap.size, 0, none⟩) 0 0) (.slice (some ⟨J1, 0, none⟩) 0 0) (.slice (some ⟨J2, 0, none⟩) 0 0) (0) (0) (0) ([]) ([]) ([]) (flatR (y.ct 0) y.ng))) := HR80.out.made HA80.out.fr.size 1 43 2
     refine hK.out _ _ (⟨HA81.out.cell (.tail _ (.head _)) 1, HA81.out.cell (.tail _ (.head _)) 2, HA81.out.cell (.tail _ (.head _)) 3⟩) (fun hS => ?_)
     clear hK K
     try simp only [Act.put, putA, putZ, putS]
     generalize X80.heap.size = J0 at *
     generalize (X80.alloc (.cells #[] 43)) = X81 at *
     refine wpAnyZ_next (rs := [3]) (by kernel_rfl) (by simp) ?_
     refine NextZ.cons (o := ⟨some 48, _, _, _, _, _⟩) rfl (fun K hK => ?_) NextZ.nil
     refine step_append_src X81 (by rfl) (.tmp 45) (.tmp 47) 23 (by rfl) w5.heap.size 43 i0 (.agg #[.int .i64 0, .int .i64 0]) 2 16 Try.underlying23 hi0 hz0 hz1 hz2 rfl (by decide) (.slice (some ⟨J0, 0, none⟩) 0 0) 0 [] (by rfl) (HR81.out.own 1 _ rfl) vba y.nb vbc (flatR y.b y.nb) (by rfl) ((HL.out.2.1.below HA81.out.fr).src) (flatR_one _ _) (by unfold maxLen; omega) (by omega) HA81.out.fr.size ?_
     intro v82 X82 hown hgr hl
     rw [Nat.zero_add, List.nil_append] at hown
     obtain ⟨qa0, qc0, rfl⟩ := own_slice' hown
     have HA82 := Lib.hid (BF.grow HA81.out HR81.out (i := 1) rfl (List.forall_mem_cons.2 ⟨(show 25 ≠ 43 by decide), List.forall_mem_cons.2 ⟨(show 25 ≠ 43 by decide), List.forall_mem_nil _⟩⟩) (Nat.le_refl _) hgr)
     have HR82 : Hid (Rws w5.heap.size X82 (rows5 y vb vc nb nc2 F (.slice qa0 y.nb qc0) (.slice (some ⟨J1, 0, none⟩) 0 0) (.slice (some ⟨J2, 0, none⟩) 0 0) (y.nb) (0) (0) (flatR y.b y.nb) ([]) ([]) (flatR (y.ct 0) y.ng))) := HR81.out.app (i := 1) rfl hown hgr hl
     clear hown hgr hl
     refine hK.out _ _ (⟨HA82.out.cell (.tail _ (.head _)) 1, HA82.out.cell (.tail _ (.head _)) 2, HA82.out.cell (.tail _ (.head _)) 3⟩) (fun hS => ?_)
     clear hK K
     try simp only [Act.put, putA, putZ, putS]
     refine tZ 12 (oi := ⟨_, _, _, _, _, _⟩) (v := ?_) rfl (by kernel_rfl) (by rfl) (fun _ _ _ h => h) hS ?_ ?_
     rotate_left
     · rintro W' ⟨z0, z1, z2⟩; go_simp; try with_reducible rfl
     try simp only [Act.put, putA, putZ, putS]
     refine wpAnyZ_next (rs := [7]) (by kernel_rfl) (by simp) ?_
     refine NextZ.cons (o := ⟨some 52, _, _, _, _, _⟩) rfl (fun K hK => ?_) NextZ.nil
     refine step_append_src X82 (by rfl) (.tmp 49) (.tmp 51) 23 (by rfl) w5.heap.size 43 i0 (.agg #[.int .i64 0, .int .i64 0]) 2 16 Try.underlying23 hi0 hz0 hz1 hz2 rfl (by decide) (.slice (some ⟨J1, 0, none⟩) 0 0) 0 [] (by rfl) (HR82.out.own 2 _ rfl) vra y.nr vrc (flatR y.r y.nr) (by rfl) ((HL.out.2.2.1.below HA82.out.fr).src) (flatR_one _ _) (by unfold maxLen; omega) (by omega) HA82.out.fr.size ?_
     intro v83 X83 hown hgr hl
     rw [Nat.zero_add, List.nil_append] at hown
     obtain ⟨qa1, qc1, rfl⟩ := own_slice' hown
     have HA83 := Lib.hid (BF.grow HA82.out HR82.out (i := 2) rfl (List.forall_mem_cons.2 ⟨(show 25 ≠ 43 by decide), List.forall_mem_cons.2 ⟨(show 25 ≠ 43 by decide), List.forall_mem_nil _⟩⟩) (Nat.le_refl _) hgr)
     have HR83 : Hid (Rws w5.heap.size X83 (rows5 y vb vc nb nc2 F (.slice qa0 y.nb qc0) (.slice qa1 y.nr qc1) (.slice (some ⟨J2, 0, none⟩) 0 0) (y.nb) (y.nr) (0) (flatR y.b y.nb) (flatR y.r y.nr) ([]) (flatR (y.ct 0) y.ng))) := HR82.out.app (i := 2) rfl hown hgr hl
     clear hown hgr hl
     refine hK.out _ _ (⟨HA83.out.cell (.tail _ (.head _)) 1, HA83.out.cell (.tail _ (.head _)) 2, HA83.out.cell (.tail _ (.head _)) 3⟩) (fun hS => ?_)
     clear hK K
     try simp only [Act.put, putA, putZ, putS]
     refine wpAnyZ_next (rs := [11]) (by kernel_rfl) (by simp) ?_
     refine NextZ.cons (o := ⟨some 56, _, _, _, _, _⟩) rfl (fun K hK => ?_) NextZ.nil
     refine step_append_src X83 (by rfl) (.tmp 53) (.tmp 55) 23 (by rfl) w5.heap.size 43 i0 (.agg #[.int .i64 0, .int .i64 0]) 2 16 Try.underlying23 hi0 hz0 hz1 hz2 rfl (by decide) (.slice (some ⟨J2, 0, none⟩) 0 0) 0 [] (by rfl) (HR83.out.own 3 _ rfl) vna y.nn vnc (flatR y.n y.nn) (by rfl) ((HL.out.2.2.2.below HA83.out.fr).src) (flatR_one _ _) (by unfold maxLen; omega) (by omega) HA83.out.fr.size ?_
     intro v84 X84 hown hgr hl
     rw [Nat.zero_add, List.nil_append] at hown
     obtain ⟨qa2, qc2, rfl⟩ := own_slice' hown
     have HA84 := Lib.hid (BF.grow HA83.out HR83.out (i := 3) rfl (List.forall_mem_cons.2 ⟨(show 25 ≠ 43 by decide), List.forall_mem_cons.2 ⟨(show 25 ≠ 43 by decide), List.forall_mem_nil _⟩⟩) (Nat.le_refl _) hgr)
     have HR84 : Hid (Rws w5.heap.size X84 (rows5 y vb vc nb nc2 F (.slice qa0 y.nb qc0) (.slice qa1 y.nr qc1) (.slice qa2 y.nn qc2) (y.nb) (y.nr) (y.nn) (flatR y.b y.nb) (flatR y.r y.nr) (flatR y.n y.nn) (flatR (y.ct 0) y.ng))) := HR83.out.app (i := 3) rfl hown hgr hl
     clear hown hgr hl
     refine hK.out _ _ (⟨HA84.out.cell (.tail _ (.head _)) 1, HA84.out.cell (.tail _ (.head _)) 2, HA84.out.cell (.tail _ (.head _)) 3⟩) (fun hS => ?_)
     clear hK K
     try simp only [Act.put, putA, putZ, putS]
     refine wpAnyZ_next (rs := [13]) (by kernel_rfl) (by simp) ?_
     refine NextZ.cons (o := ⟨none, _, _, _, _, _⟩) rfl (fun K hK => ?_) NextZ.nil
     have e0 := HA84.out.cell (.head _) 1
     have f0 := HA84.out.thaw (.head _) 1
     have HA85 := Lib.hid (BF.set1 (i := 1) (cs' := #[.slice (some ⟨vb, 0, none⟩) y.nc vc, .slice qa0 y.nb qc0, .slice vra y.nr vrc, .slice vna y.nn vnc]) HA84.out (.head _) (.slice qa0 y.nb qc0) (by simp) rfl (L' := [(w5.heap.size, #[.slice (some ⟨cb, co, none⟩) y.nc vcc, .slice vba y.nb vbc, .slice vra y.nr vrc, .slice vna y.nn vnc], 25)]) (List.forall_mem_cons.2 ⟨⟨show w5.heap.size ≠ xb by omega, (.tail _ (.head _))⟩, List.forall_mem_nil _⟩))
     have HR85 : Hid (Rws w5.heap.size (X84.setCell ⟨xb, 1, none⟩ (.slice qa0 y.nb qc0)) (rows5 y vb vc nb nc2 F (.slice qa0 y.nb qc0) (.slice qa1 y.nr qc1) (.slice qa2 y.nn qc2) (y.nb) (y.nr) (y.nn) (flatR y.b y.nb) (flatR y.r y.nr) (flatR y.n y.nn) (flatR (y.ct 0) y.ng))) := HR84.out.tab (HA84.out.bk _ _ _ (.head _)).2 (rows5_ty (by decide) (by decide)) (Fr.set _ _ _ _)
     go_simp
     refine hK.out _ _ (⟨HA85.out.cell (.tail _ (.head _)) 1, HA85.out.cell (.tail _ (.head _)) 2, HA85.out.cell (.tail _ (.head _)) 3⟩) (fun hS => ?_)
     clear hK K
     (try simp only [Act.put])
     clear e0 f0
     refine tZ 14 (oi := ⟨_, _, _, _, _, _⟩) (v := ?_) rfl (by kernel_rfl) (by rfl) (fun _ _ _ h => h) hS ?_ ?_
     rotate_left
     · rintro W' ⟨z0, z1, z2⟩; go_simp; try with_reducible rfl
     try simp only [Act.put, putA, putZ, putS]
     refine wpAnyZ_next (rs := [15]) (by kernel_rfl) (by simp) ?_
     refine NextZ.cons (o := ⟨none, _, _, _, _, _⟩) rfl (fun K hK => ?_) NextZ.nil
     have e0 := HA85.out.cell (.head _) 2
     have f0 := HA85.out.thaw (.head _) 2
     have HA86 := Lib.hid (BF.set1 (i := 2) (cs' := #[.slice (some ⟨vb, 0, none⟩) y.nc vc, .slice qa0 y.nb qc0, .slice qa1 y.nr qc1, .slice vna y.nn vnc]) HA85.out (.head _) (.slice qa1 y.nr qc1) (by simp) rfl (L' := [(w5.heap.size, #[.slice (some ⟨cb, co, none⟩) y.nc vcc, .slice vba y.nb vbc, .slice vra y.nr vrc, .slice vna y.nn vnc], 25)]) (List.forall_mem_cons.2 ⟨⟨show w5.heap.size ≠ xb by omega, (.tail _ (.head _))⟩, List.forall_mem_nil _⟩))
     have HR86 : Hid (Rws w5.heap.size ((X84.setCell ⟨xb, 1, none⟩ (.slice qa0 y.nb qc0)).setCell ⟨xb, 2, none⟩ (.slice qa1 y.nr qc1)) (rows5 y vb vc nb nc2 F (.slice qa0 y.nb qc0) (.slice qa1 y.nr qc1) (.slice qa2 y.nn qc2) (y.nb) (y.nr) (y.nn) (flatR y.b y.nb) (flatR y.r y.nr) (flatR y.n y.nn) (flatR (y.ct 0) y.ng))) := HR85.out.tab (HA85.out.bk _ _ _ (.head _)).2 (rows5_ty (by decide) (by decide)) (Fr.set _ _ _ _)
     go_simp
     refine hK.out _ _ (⟨HA86.out.cell (.tail _ (.head _)) 1, HA86.out.cell (.tail _ (.head _)) 2, HA86.out.cell (.tail _ (.head _)) 3⟩) (fun hS => ?_)
     clear hK K
     (try simp only [Act.put])
     clear e0 f0
     refine tZ 16 (oi := ⟨_, _, _, _, _, _⟩) (v := ?_) rfl (by kernel_rfl) (by rfl) (fun _ _ _ h => h) hS ?_ ?_
     rotate_left
     · rintro W' ⟨z0, z1, z2⟩; go_simp; try with_reducible rfl
     try simp only [Act.put, putA, putZ, putS]
     refine wpAnyZ_next (rs := [17]) (by kernel_rfl) (by simp) ?_
     refine NextZ.last (o := ⟨none, _, _, _, _, _⟩) rfl (by kernel_rfl) (fun K hK => ?_)
     have e0 := HA86.out.cell (.head _) 3
     have f0 := HA86.out.thaw (.head _) 3
     have HA87 := Lib.hid (BF.set1 (i := 3) (cs' := #[.slice (some ⟨vb, 0, none⟩) y.nc vc, .slice qa0 y.nb qc0, .slice qa1 y.nr qc1, .slice qa2 y.nn qc2]) HA86.out (.head _) (.slice qa2 y.nn qc2) (by simp) rfl (L' := [(w5.heap.size, #[.slice (some ⟨cb, co, none⟩) y.nc vcc, .slice vba y.nb vbc, .slice vra y.nr vrc, .slice vna y.nn vnc], 25)]) (List.forall_mem_cons.2 ⟨⟨show w5.heap.size ≠ xb by omega, (.tail _ (.head _))⟩, List.forall_mem_nil _⟩))
     have HR87 : Hid (Rws w5.heap.size (((X84.setCell ⟨xb, 1, none⟩ (.slice qa0 y.nb qc0)).setCell ⟨xb, 2, none⟩ (.slice qa1 y.nr qc1)).setCell ⟨xb, 3, none⟩ (.slice qa2 y.nn qc2)) (rows5 y vb vc nb nc2 F (.slice qa0 y.nb qc0) (.slice qa1 y.nr qc1) (.slice qa2 y.nn qc2) (y.nb) (y.nr) (y.nn) (flatR y.b y.nb) (flatR y.r y.nr) (flatR y.n y.nn) (flatR (y.ct 0) y.ng))) := HR86.out.tab (HA86.out.bk _ _ _ (.head _)).2 (rows5_ty (by decide) (by decide)) (Fr.set _ _ _ _)
     go_simp
     refine hK.out _ _ ?_
     clear hK K
     (try simp only [Act.put])
     clear e0 f0
     refine wpAnyZ_done (by kernel_rfl) ?_ _
     go_wp2_with fail
     go_meet
     exact ⟨qa0, qc0, qa1, qc1, qa2, qc2, HA87.out, HR87.out⟩
    refine NextZ.cons (o := ⟨some 53, _, _, _, _, _⟩) rfl (fun K hK => ?_) NextZ.nil
    go_simp
    have HA88 := Lib.hid (HAX.out.below (below_alloc X (.cells #[] 43)))
    have HR88 : Hid (Rws w5.heap.size (X.alloc (.cells #[] 43)) (rows5 y vb vc nb nc2 F (.slice none 0 0) (.slice none 0 0) (.slice (some ⟨X.heap.size, 0, none⟩) 0 0) (0) (0) (0) ([]) ([]) ([]) (flatR (y.ct 0) y.ng))) := HRX.out.made HAX.out.fr.size 3 43 2
    refine hK.out _ _ (⟨HA88.out.cell (.tail _ (.head _)) 1, HA88.out.cell (.tail _ (.head _)) 2, HA88.out.cell (.tail _ (.head _)) 3⟩) (fun hS => ?_)
    clear hK K
    try simp only [Act.put, putA, putZ, putS]
    generalize X.heap.size = J2 at *
    generalize (X.alloc (.cells #[] 43)) = X88 at *
    refine wpAnyZ_next (rs := [0, 4]) (by kernel_rfl) (by simp) ?_
    refine NextZ.cons (o := ⟨some 45, _, _, _, _, _⟩) rfl (fun K hK => ?_) ?_
    ·
     go_simp
     have HA89 := Lib.hid (HA88.out.below (below_alloc X88 (.cells #[] 43)))
     have HR89 : Hid (Rws w5.heap.size (X88.alloc (.cells #[] 43)) (rows5 y vb vc nb nc2 F (.slice (some ⟨X88.heap.size, 0, none⟩) 0 0) (.slice none 0 0) (.slice (some ⟨J2, 0, none⟩) 0 0) (0) (0) (0) ([]) ([]) ([]) (flatR (y.ct 0) y.ng))) := HR88.out.made HA88.out.fr.size 1 43 2
     refine hK.out _ _ (⟨HA89.out.cell (.tail _ (.head _)) 1, HA89.out.cell (.tail _ (.head _)) 2, HA89.out.cell (.tail _ (.head _)) 3⟩) (fun hS => ?_)
     clear hK K
     try simp only [Act.put, putA, putZ, putS]
     generalize X88.heap.size = J0 at *
     generalize (X88.alloc (.cells #[] 43)) = X89 at *
     refine wpAnyZ_next (rs := [3, 4]) (by kernel_rfl) (by simp) ?_
     refine NextZ.cons (o := ⟨some 48, _, _, _, _, _⟩) rfl (fun K hK => ?_) ?_
     ·
      refine step_append_src X89 (by rfl) (.tmp 45) (.tmp 47) 23 (by rfl) w5.heap.size 43 i0 (.agg #[.int .i64 0, .int .i64 0]) 2 16 Try.underlying23 hi0 hz0 hz1 hz2 rfl (by decide) (.slice (some ⟨J0, 0, none⟩) 0 0) 0 [] (by rfl) (HR89.out.own 1 _ rfl) vba y.nb vbc (flatR y.b y.nb) (by rfl) ((HL.out.2.1.below HA89.out.fr).src) (flatR_one _ _) (by unfold maxLen; omega) (by omega) HA89.out.fr.size ?_
      intro v90 X90 hown hgr hl
      rw [Nat.zero_add, List.nil_append] at hown
      obtain ⟨qa0, qc0, rfl⟩ := own_slice' hown
      have HA90 := Lib.hid (BF.grow HA89.out HR89.out (i := 1) rfl (List.forall_mem_cons.2 ⟨(show 25 ≠ 43 by decide), List.forall_mem_cons.2 ⟨(show 25 ≠ 43 by decide), List.forall_mem_nil _⟩⟩) (Nat.le_refl _) hgr)
      have HR90 : Hid (Rws w5.heap.size X90 (rows5 y vb vc nb nc2 F (.slice qa0 y.nb qc0) (.slice none 0 0) (.slice (some ⟨J2, 0, none⟩) 0 0) (y.nb) (0) (0) (flatR y.b y.nb) ([]) ([]) (flatR (y.ct 0) y.ng))) := HR89.out.app (i := 1) rfl hown hgr hl
      clear hown hgr hl
      refine hK.out _ _ (⟨HA90.out.cell (.tail _ (.head _)) 1, HA90.out.cell (.tail _ (.head _)) 2, HA90.out.cell (.tail _ (.head _)) 3⟩) (fun hS => ?_)
      clear hK K
      try simp only [Act.put, putA, putZ, putS]
      refine tZ 12 (oi := ⟨_, _, _, _, _, _⟩) (v := ?_) rfl (by kernel_rfl) (by rfl) (fun _ _ _ h => h) hS ?_ ?_
      rotate_left
      · rintro W' ⟨z0, z1, z2⟩; go_simp; try with_reducible rfl
      try simp only [Act.put, putA, putZ, putS]
      refine wpAnyZ_next (rs := [4]) (by kernel_rfl) (by simp) ?_
      refine NextZ.cons (o := ⟨some 49, _, _, _, _, _⟩) rfl (fun K hK => ?_) NextZ.nil
      go_simp
      have HA91 := Lib.hid (HA90.out.below (below_alloc X90 (.cells #[] 43)))
      have HR91 : Hid (Rws w5.heap.size (X90.alloc (.cells #[] 43)) (rows5 y vb vc nb nc2 F (.slice qa0 y.nb qc0) (.slice (some ⟨X90.heap.size, 0, none⟩) 0 0) (.slice (some ⟨J2, 0, none⟩) 0 0) (y.nb) (0) (0) (flatR y.b y.nb) ([]) ([]) (flatR (y.ct 0) y.ng))) := HR90.out.made HA90.out.fr.size 2 43 2
      refine hK.out _ _ (⟨HA91.out.cell (.tail _ (.head _)) 1, HA91.out.cell (.tail _ (.head _)) 2, HA91.out.cell (.tail _ (.head _)) 3⟩) (fun hS => ?_)
      clear hK K
      try simp only [Act.put, putA, putZ, putS]
      generalize X90.heap.size = J1 at *
      generalize (X90.alloc (.cells #[] 43)) = X91 at *
      refine wpAnyZ_next (rs := [7]) (by kernel_rfl) (by simp) ?_
      refine NextZ.cons (o := ⟨some 52, _, _, _, _, _⟩) rfl (fun K hK => ?_) NextZ.nil
      refine step_append_src X91 (by rfl) (.tmp 49) (.tmp 51) 23 (by rfl) w5.heap.size 43 i0 (.agg #[.int .i64 0, .int .i64 0]) 2 16 Try.underlying23 hi0 hz0 hz1 hz2 rfl (by decide) (.slice (some ⟨J1, 0, none⟩) 0 0) 0 [] (by rfl) (HR91.out.own 2 _ rfl) vra y.nr vrc (flatR y.r y.nr) (by rfl) ((HL.out.2.2.1.below HA91.out.fr).src) (flatR_one _ _) (by unfold maxLen; omega) (by omega) HA91.out.fr.size ?_
      intro v92 X92 hown hgr hl
      rw [Nat.zero_add, List.nil_append] at hown
      obtain ⟨qa1, qc1, rfl⟩ := own_slice' hown
      have HA92 := Lib.hid (BF.grow HA91.out HR91.out (i := 2) rfl (List.forall_mem_cons.2 ⟨(show 25 ≠ 43 by decide), List.forall_mem_cons.2 ⟨(show 25 ≠ 43 by decide), List.forall_mem_nil _⟩⟩) (Nat.le_refl _) hgr)
      have HR92 : Hid (Rws w5.heap.size X92 (rows5 y vb vc nb nc2 F (.slice qa0 y.nb qc0) (.slice qa1 y.nr qc1) (.slice (some ⟨J2, 0, none⟩) 0 0) (y.nb) (y.nr) (0) (flatR y.b y.nb) (flatR y.r y.nr) ([]) (flatR (y.ct 0) y.ng))) := HR91.out.app (i := 2) rfl hown hgr hl
      clear hown hgr hl
      refine hK.out _ _ (⟨HA92.out.cell (.tail _ (.head _)) 1, HA92.out.cell (.tail _ (.head _)) 2, HA92.out.cell (.tail _ (.head _)) 3⟩) (fun hS => ?_)
      clear hK K
      try simp only [Act.put, putA, putZ, putS]
      refine wpAnyZ_next (rs := [11]) (by kernel_rfl) (by simp) ?_
      refine NextZ.cons (o := ⟨some 56, _, _, _, _, _⟩) rfl (fun K hK => ?_) NextZ.nil
      refine step_append_src X92 (by rfl) (.tmp 53) (.tmp 55) 23 (by rfl) w5.heap.size 43 i0 (.agg #[.int .i64 0, .int .i64 0]) 2 16 Try.underlying23 hi0 hz0 hz1 hz2 rfl (by decide) (.slice (some ⟨J2, 0, none⟩) 0 0) 0 [] (by rfl) (HR92.out.own 3 _ rfl) vna y.nn vnc (flatR y.n y.nn) (by rfl) ((HL.out.2.2.2.below HA92.out.fr).src) (flatR_one _ _) (by unfold maxLen; omega) (by omega) HA92.out.fr.size ?_
      intro v93 X93 hown hgr hl
      rw [Nat.zero_add, List.nil_append] at hown
      obtain ⟨qa2, qc2, rfl⟩ := own_slice' hown
      have HA93 := Lib.hid (BF.grow HA92.out HR92.out (i := 3) rfl (List.forall_mem_cons.2 ⟨(show 25 ≠ 43 by decide), List.forall_mem_cons.2 ⟨(show 25 ≠ 43 by decide), List.forall_mem_nil _⟩⟩) (Nat.le_refl _) hgr)
      have HR93 : Hid (Rws w5.heap.size X93 (rows5 y vb vc nb nc2 F (.slice qa0 y.nb qc0) (.slice qa1 y.nr qc1) (.slice qa2 y.nn qc2) (y.nb) (y.nr) (y.nn) (flatR y.b y.nb) (flatR y.r y.nr) (flatR y.n y.nn) (flatR (y.ct 0) y.ng))) := HR92.out.app (i := 3) rfl hown hgr hl
      clear hown hgr hl
      refine hK.out _ _ (⟨HA93.out.cell (.tail _ (.head _)) 1, HA93.out.cell (.tail _ (.head _)) 2, HA93.out.cell (.tail _ (.head _)) 3⟩) (fun hS => ?_)
      clear hK K
      try simp only [Act.put, putA, putZ, putS]
      refine wpAnyZ_next (rs := [13]) (by kernel_rfl) (by simp) ?_
      refine NextZ.cons (o := ⟨none, _, _, _, _, _⟩) rfl (fun K hK => ?_) NextZ.nil
      have e0 := HA93.out.cell (.head _) 1
      have f0 := HA93.out.thaw (.head _) 1
      have HA94 := Lib.hid (BF.set1 (i := 1) (cs' := #[.slice (some ⟨vb, 0, none⟩) y.nc vc, .slice qa0 y.nb qc0, .slice vra y.nr vrc, .slice vna y.nn vnc]) HA93.out (.head _) (.slice qa0 y.nb qc0) (by simp) rfl (L' := [(w5.heap.size, #[.slice (some ⟨cb, co, none⟩) y.nc vcc, .slice vba y.nb vbc, .slice vra y.nr vrc, .slice vna y.nn vnc], 25)]) (List.forall_mem_cons.2 ⟨⟨show w5.heap.size ≠ xb by omega, (.tail _ (.head _))⟩, List.forall_mem_nil _⟩))
      have HR94 : Hid (Rws w5.heap.size (X93.setCell ⟨xb, 1, none⟩ (.slice qa0 y.nb qc0)) (rows5 y vb vc nb nc2 F (.slice qa0 y.nb qc0) (.slice qa1 y.nr qc1) (.slice qa2 y.nn qc2) (y.nb) (y.nr) (y.nn) (flatR y.b y.nb) (flatR y.r y.nr) (flatR y.n y.nn) (flatR (y.ct 0) y.ng))) := HR93.out.tab (HA93.out.bk _ _ _ (.head _)).2 (rows5_ty (by decide) (by decide)) (Fr.set _ _ _ _)
      go_simp
      refine hK.out _ _ (⟨HA94.out.cell (.tail _ (.head _)) 1, HA94.out.cell (.tail _ (.head _)) 2, HA94.out.cell (.tail _ (.head _)) 3⟩) (fun hS => ?_)
      clear hK K
      (try simp only [Act.put])
      clear e0 f0
      refine tZ 14 (oi := ⟨_, _, _, _, _, _⟩) (v := ?_) rfl (by kernel_rfl) (by rfl) (fun _ _ _ h => h) hS ?_ ?_
      rotate_left
      · rintro W' ⟨z0, z1, z2⟩; go_simp; try with_reducible rfl
      try simp only [Act.put, putA, putZ, putS]
      refine wpAnyZ_next (rs := [15]) (by kernel_rfl) (by simp) ?_
      refine NextZ.cons (o := ⟨none, _, _, _, _, _⟩) rfl (fun K hK => ?_) NextZ.nil
      have e0 := HA94.out.cell (.head _) 2
      have f0 := HA94.out.thaw (.head _) 2
      have HA95 := Lib.hid (BF.set1 (i := 2) (cs' := #[.slice (some ⟨vb, 0, none⟩) y.nc vc, .slice qa0 y.nb qc0, .slice qa1 y.nr qc1, .slice vna y.nn vnc]) HA94.out (.head _) (.slice qa1 y.nr qc1) (by simp) rfl (L' := [(w5.heap.size, #[.slice (some ⟨cb, co, none⟩) y.nc vcc, .slice vba y.nb vbc, .slice vra y.nr vrc, .slice vna y.nn vnc], 25)]) (List.forall_mem_cons.2 ⟨⟨show w5.heap.size ≠ xb by omega, (.tail _ (.head _))⟩, List.forall_mem_nil _⟩))
      have HR95 : Hid (Rws w5.heap.size ((X93.setCell ⟨xb, 1, none⟩ (.slice qa0 y.nb qc0)).setCell ⟨xb, 2, none⟩ (.slice qa1 y.nr qc1)) (rows5 y vb vc nb nc2 F (.slice qa0 y.nb qc0) (.slice qa1 y.nr qc1) (.slice qa2 y.nn qc2) (y.nb) (y.nr) (y.nn) (flatR y.b y.nb) (flatR y.r y.nr) (flatR y.n y.nn) (flatR (y.ct 0) y.ng))) := HR94.out.tab (HA94.out.bk _ _ _ (.head _)).2 (rows5_ty (by decide) (by decide)) (Fr.set _ _ _ _)
      go_simp
      refine hK.out _ _ (⟨HA95.out.cell (.tail _ (.head _)) 1, HA95.out.cell (.tail _ (.head _)) 2, HA95.out.cell (.tail _ (.head _)) 3⟩) (fun hS => ?_)
      clear hK K
      (try simp only [Act.put])
      clear e0 f0
      refine tZ 16 (oi := ⟨_, _, _, _, _, _⟩) (v := ?_) rfl (by kernel_rfl) (by rfl) (fun _ _ _ h => h) hS ?_ ?_
      rotate_left
      · rintro W' ⟨z0, z1, z2⟩; go_simp; try with_reducible rfl
      try simp only [Act.put, putA, putZ, putS]
      refine wpAnyZ_next (rs := [17]) (by kernel_rfl) (by simp) ?_
      refine NextZ.last (o := ⟨none, _, _, _, _, _⟩) rfl (by kernel_rfl) (fun K hK => ?_)
      have e0 := HA95.out.cell (.head _) 3
      have f0 := HA95.out.thaw (.head _) 3
      have HA96 := Lib.hid (BF.set1 (i := 3) (cs' := #[.slice (some ⟨vb, 0, none⟩) y.nc vc, .slice qa0 y.nb qc0, .slice qa1 y.nr qc1, .slice qa2 y.nn qc2]) HA95.out (.head _) (.slice qa2 y.nn qc2) (by simp) rfl (L' := [(w5.heap.size, #[.slice (some ⟨cb, co, none⟩) y.nc vcc, .slice vba y.nb vbc, .slice vra y.nr vrc, .slice vna y.nn vnc], 25)]) (List.forall_mem_cons.2 ⟨⟨show w5.heap.size ≠ xb by omega, (.tail _ (.head _))⟩, List.forall_mem_nil _⟩))
      have HR96 : Hid (Rws w5.heap.size (((X93.setCell ⟨xb, 1, none⟩ (.slice qa0 y.nb qc0)).setCell ⟨xb, 2, none⟩ (.slice qa1 y.nr qc1)).setCell ⟨xb, 3, none⟩ (.slice qa2 y.nn qc2)) (rows5 y vb vc nb nc2 F (.slice qa0 y.nb qc0) (.slice qa1 y.nr qc1) (.slice qa2 y.nn qc2) (y.nb) (y.nr) (y.nn) (flatR y.b y.nb) (flatR y.r y.nr) (flatR y.n y.nn) (flatR (y.ct 0) y.ng))) := HR95.out.tab (HA95.out.bk _ _ _ (.head _)).2 (rows5_ty (by decide) (by decide)) (Fr.set _ _ _ _)
      go_simp
      refine hK.out _ _ ?_
      clear hK K
      (try simp only [Act.put])
      clear e0 f0
      refine wpAnyZ_done (by kernel_rfl) ?_ _
      go_wp2_with fail
      go_meet
      exact ⟨qa0, qc0, qa1, qc1, qa2, qc2, HA96.out, HR96.out⟩
     refine NextZ.cons (o := ⟨some 49, _, _, _, _, _⟩) rfl (fun K hK => ?_) NextZ.nil
     go_simp
     have HA97 := Lib.hid (HA89.out.below (below_alloc X89 (.cells #[] 43)))
     have HR97 : Hid (Rws w5.heap.size (X89.alloc (.cells #[] 43)) (rows5 y vb vc nb nc2 F (.slice (some ⟨J0, 0, none⟩) 0 0) (.slice (some ⟨X89.heap.size, 0, none⟩) 0 0) (.slice (some ⟨J2, 0, none⟩) 0 0) (0) (0) (0) ([]) ([]) ([]) (flatR (y.ct 0) y.ng))) := HR89.out.made HA89.out.fr.size 2 43 2
     refine hK.out _ _ (⟨HA97.out.cell (.tail _ (.head _)) 1, HA97.out.cell (.tail _ (.head _)) 2, HA97.out.cell (.tail _ (.head _)) 3⟩) (fun hS => ?_)
     clear hK K
     try simp only [Act.put, putA, putZ, putS]
     generalize X89.heap.size = J1 at *
     generalize (X89.alloc (.cells #[] 43)) = X97 at *
     refine wpAnyZ_next (rs := [3]) (by kernel_rfl) (by simp) ?_
     refine NextZ.cons (o := ⟨some 48, _, _, _, _, _⟩) rfl (fun K hK => ?_) NextZ.nil
     refine step_append_src X97 (by rfl) (.tmp 45) (.tmp 47) 23 (by rfl) w5.heap.size 43 i0 (.agg #[.int .i64 0, .int .i64 0]) 2 16 Try.underlying23 hi0 hz0 hz1 hz2 rfl (by decide) (.slice (some ⟨J0, 0, none⟩) 0 0) 0 [] (by rfl) (HR97.out.own 1 _ rfl) vba y.nb vbc (flatR y.b y.nb) (by rfl) ((HL.out.2.1.below HA97.out.fr).src) (flatR_one _ _) (by unfold maxLen; omega) (by omega) HA97.out.fr.size ?_
     intro v98 X98 hown hgr hl
     rw [Nat.zero_add, List.nil_append] at hown
     obtain ⟨qa0, qc0, rfl⟩ := own_slice' hown
     have HA98 := Lib.hid (BF.grow HA97.out HR97.out (i := 1) rfl (List.forall_mem_cons.2 ⟨(show 25 ≠ 43 by decide), List.forall_mem_cons.2 ⟨(show 25 ≠ 43 by decide), List.forall_mem_nil _⟩⟩) (Nat.le_refl _) hgr)
     have HR98 : Hid (Rws w5.heap.size X98 (rows5 y vb vc nb nc2 F (.slice qa0 y.nb qc0) (.slice (some ⟨J1, 0, none⟩) 0 0) (.slice (some ⟨J2, 0, none⟩) 0 0) (y.nb) (0) (0) (flatR y.b y.nb) ([]) ([]) (flatR (y.ct 0) y.ng))) := HR97.out.app (i := 1) rfl hown hgr hl
     clear hown hgr hl
     refine hK.out _ _ (⟨HA98.out.cell (.tail _ (.head _)) 1, HA98.out.cell (.tail _ (.head _)) 2, HA98.out.cell (.tail _ (.head _)) 3⟩) (fun hS => ?_)
     clear hK K
     try simp only [Act.put, putA, putZ, putS]
     refine tZ 12 (oi := ⟨_, _, _, _, _, _⟩) (v := ?_) rfl (by kernel_rfl) (by rfl) (fun _ _ _ h => h) hS ?_ ?_
     rotate_left
     · rintro W' ⟨z0, z1, z2⟩; go_simp; try with_reducible rfl
     try simp only [Act.put, putA, putZ, putS]
     refine wpAnyZ_next (rs := [7]) (by kernel_rfl) (by simp) ?_
     refine NextZ.cons (o := ⟨some 52, _, _, _, _, _⟩) rfl (fun K hK => ?_) NextZ.nil
     refine step_append_src X98 (by rfl) (.tmp 49) (.tmp 51) 23 (by rfl) w5.heap.size 43 i0 (.agg #[.int .i64 0, .int .i64 0]) 2 16 Try.underlying23 hi0 hz0 hz1 hz2 rfl (by decide) (.slice (some ⟨J1, 0, none⟩) 0 0) 0 [] (by rfl) (HR98.out.own 2 _ rfl) vra y.nr vrc (flatR y.r y.nr) (by rfl) ((HL.out.2.2.1.below HA98.out.fr).src) (flatR_one _ _) (by unfold maxLen; omega) (by omega) HA98.out.fr.size ?_
     intro v99 X99 hown hgr hl
     rw [Nat.zero_add, List.nil_append] at hown
     obtain ⟨qa1, qc1, rfl⟩ := own_slice' hown
     have HA99 := Lib.hid (BF.grow HA98.out HR98.out (i := 2) rfl (List.forall_mem_cons.2 ⟨(show 25 ≠ 43 by decide), List.forall_mem_cons.2 ⟨(show 25 ≠ 43 by decide), List.forall_mem_nil _⟩⟩) (Nat.le_refl _) hgr)
     have HR99 : Hid (Rws w5.heap.size X99 (rows5 y vb vc nb nc2 F (.slice qa0 y.nb qc0) (.slice qa1 y.nr qc1) (.slice (some ⟨J2, 0, none⟩) 0 0) (y.nb) (y.nr) (0) (flatR y.b y.nb) (flatR y.r y.nr) ([]) (flatR (y.ct 0) y.ng))) := HR98.out.app (i := 2) rfl hown hgr hl
     clear hown hgr hl
     refine hK.out _ _ (⟨HA99.out.cell (.tail _ (.head _)) 1, HA99.out.cell (.tail _ (.head _)) 2, HA99.out.cell (.tail _ (.head _)) 3⟩) (fun hS => ?_)
     clear hK K
     try simp only [Act.put, putA, putZ, putS]
     refine wpAnyZ_next (rs := [11]) (by kernel_rfl) (by simp) ?_
     refine NextZ.cons (o := ⟨some 56, _, _, _, _, _⟩) rfl (fun K hK => ?_) NextZ.nil
     refine step_append_src X99 (by rfl) (.tmp 53) (.tmp 55) 23 (by rfl) w5.heap.size 43 i0 (.agg #[.int .i64 0, .int .i64 0]) 2 16 Try.underlying23 hi0 hz0 hz1 hz2 rfl (by decide) (.slice (some ⟨J2, 0, none⟩) 0 0) 0 [] (by rfl) (HR99.out.own 3 _ rfl) vna y.nn vnc (flatR y.n y.nn) (by rfl) ((HL.out.2.2.2.below HA99.out.fr).src) (flatR_one _ _) (by unfold maxLen; omega) (by omega) HA99.out.fr.size ?_
     intro v100 X100 hown hgr hl
     rw [Nat.zero_add, List.nil_append] at hown
     obtain ⟨qa2, qc2, rfl⟩ := own_slice' hown
     have HA100 := Lib.hid (BF.grow HA99.out HR99.out (i := 3) rfl (List.forall_mem_cons.2 ⟨(show 25 ≠ 43 by decide), List.forall_mem_cons.2 ⟨(show 25 ≠ 43 by decide), List.forall_mem_nil _⟩⟩) (Nat.le_refl _) hgr)
     have HR100 : Hid (Rws w5.heap.size X100 (rows5 y vb vc nb nc2 F (.slice qa0 y.nb qc0) (.slice qa1 y.nr qc1) (.slice qa2 y.nn qc2) (y.nb) (y.nr) (y.nn) (flatR y.b y.nb) (flatR y.r y.nr) (flatR y.n y.nn) (flatR (y.ct 0) y.ng))) := HR99.out.app (i := 3) rfl hown hgr hl
     clear hown hgr hl
     refine hK.out _ _ (⟨HA100.out.cell (.tail _ (.head _)) 1, HA100.out.cell (.tail _ (.head _)) 2, HA100.out.cell (.tail _ (.head _)) 3⟩) (fun hS => ?_)
     clear hK K
     try simp only [Act.put, putA, putZ, putS]
     refine wpAnyZ_next (rs := [13]) (by kernel_rfl) (by simp) ?_
     refine NextZ.cons (o := ⟨none, _, _, _, _, _⟩) rfl (fun K hK => ?_) NextZ.nil
     have e0 := HA100.out.cell (.head _) 1
     have f0 := HA100.out.thaw (.head _) 1
     have HA101 := Lib.hid (BF.set1 (i := 1) (cs' := #[.slice (some ⟨vb, 0, none⟩) y.nc vc, .slice qa0 y.nb qc0, .slice vra y.nr vrc, .slice vna y.nn vnc]) HA100.out (.head _) (.slice qa0 y.nb qc0) (by simp) rfl (L' := [(w5.heap.size, #[.slice (some ⟨cb, co, none⟩) y.nc vcc, .slice vba y.nb vbc, .slice vra y.nr vrc, .slice vna y.nn vnc], 25)]) (List.forall_mem_cons.2 ⟨⟨show w5.heap.size ≠ xb by omega, (.tail _ (.head _))⟩, List.forall_mem_nil _⟩))
     have HR101 : Hid (Rws w5.heap.size (X100.setCell ⟨xb, 1, none⟩ (.slice qa0 y.nb qc0)) (rows5 y vb vc nb nc2 F (.slice qa0 y.nb qc0) (.slice qa1 y.nr qc1) (.slice qa2 y.nn qc2) (y.nb) (y.nr) (y.nn) (flatR y.b y.nb) (flatR y.r y.nr) (flatR y.n y.nn) (flatR (y.ct 0) y.ng))) := HR100.out.tab (HA100.out.bk _ _ _ (.head _)).2 (rows5_ty (by decide) (by decide)) (Fr.set _ _ _ _)
     go_simp
     refine hK.out _ _ (⟨HA101.out.cell (.tail _ (.head _)) 1, HA101.out.cell (.tail _ (.head _)) 2, HA101.out.cell (.tail _ (.head _)) 3⟩) (fun hS => ?_)
     clear hK K
     (try simp only [Act.put])
     clear e0 f0
     refine tZ 14 (oi := ⟨_, _, _, _, _, _⟩) (v := ?_) rfl (by kernel_rfl) (by rfl) (fun _ _ _ h => h) hS ?_ ?_
     rotate_left
     · rintro W' ⟨z0, z1, z2⟩; go_simp; try with_reducible rfl
     try simp only [Act.put, putA, putZ, putS]
     refine wpAnyZ_next (rs := [15]) (by kernel_rfl) (by simp) ?_
     refine NextZ.cons (o := ⟨none, _, _, _, _, _⟩) rfl (fun K hK => ?_) NextZ.nil
     have e0 := HA101.out.cell (.head _) 2
     have f0 := HA101.out.thaw (.head _) 2
     have HA102 := Lib.hid (BF.set1 (i := 2) (cs' := #[.slice (some ⟨vb, 0, none⟩) y.nc vc, .slice qa0 y.nb qc0, .slice qa1 y.nr qc1, .slice vna y.nn vnc]) HA101.out (.head _) (.slice qa1 y.nr qc1) (by simp) rfl (L' := [(w5.heap.size, #[.slice (some ⟨cb, co, none⟩) y.nc vcc, .slice vba y.nb vbc, .slice vra y.nr vrc, .slice vna y.nn vnc], 25)]) (List.forall_mem_cons.2 ⟨⟨show w5.heap.size ≠ xb by omega, (.tail _ (.head _))⟩, List.forall_mem_nil _⟩))
     have HR102 : Hid (Rws w5.heap.size ((X100.setCell ⟨xb, 1, none⟩ (.slice qa0 y.nb qc0)).setCell ⟨xb, 2, none⟩ (.slice qa1 y.nr qc1)) (rows5 y vb vc nb nc2 F (.slice qa0 y.nb qc0) (.slice qa1 y.nr qc1) (.slice qa2 y.nn qc2) (y.nb) (y.nr) (y.nn) (flatR y.b y.nb) (flatR y.r y.nr) (flatR y.n y.nn) (flatR (y.ct 0) y.ng))) := HR101.out.tab (HA101.out.bk _ _ _ (.head _)).2 (rows5_ty (by decide) (by decide)) (Fr.set _ _ _ _)
     go_simp
     refine hK.out _ _ (⟨HA102.out.cell (.tail _ (.head _)) 1, HA102.out.cell (.tail _ (.head _)) 2, HA102.out.cell (.tail _ (.head _)) 3⟩) (fun hS => ?_)
     clear hK K
     (try simp only [Act.put])
     clear e0 f0
     refine tZ 16 (oi := ⟨_, _, _, _, _, _⟩) (v := ?_) rfl (by kernel_rfl) (by rfl) (fun _ _ _ h => h) hS ?_ ?_
     rotate_left
     · rintro W' ⟨z0, z1, z2⟩; go_simp; try with_reducible rfl
     try simp only [Act.put, putA, putZ, putS]
     refine wpAnyZ_next (rs := [17]) (by kernel_rfl) (by simp) ?_
     refine NextZ.last (o := ⟨none, _, _, _, _, _⟩) rfl (by kernel_rfl) (fun K hK => ?_)
     have e0 := HA102.out.cell (.head _) 3
     have f0 := HA102.out.thaw (.head _) 3
     have HA103 := Lib.hid (BF.set1 (i := 3) (cs' := #[.slice (some ⟨vb, 0, none⟩) y.nc vc, .slice qa0 y.nb qc0, .slice qa1 y.nr qc1, .slice qa2 y.nn qc2]) HA102.out (.head _) (.slice qa2 y.nn qc2) (by simp) rfl (L' := [(w5.heap.size, #[.slice (some ⟨cb, co, none⟩) y.nc vcc, .slice vba y.nb vbc, .slice vra y.nr vrc, .slice vna y.nn vnc], 25)]) (List.forall_mem_cons.2 ⟨⟨show w5.heap.size ≠ xb by omega, (.tail _ (.head _))⟩, List.forall_mem_nil _⟩))
     have HR103 : Hid (Rws w5.heap.size (((X100.setCell ⟨xb, 1, none⟩ (.slice qa0 y.nb qc0)).setCell ⟨xb, 2, none⟩ (.slice qa1 y.nr qc1)).setCell ⟨xb, 3, none⟩ (.slice qa2 y.nn qc2)) (rows5 y vb vc nb nc2 F (.slice qa0 y.nb qc0) (.slice qa1 y.nr qc1) (.slice qa2 y.nn qc2) (y.nb) (y.nr) (y.nn) (flatR y.b y.nb) (flatR y.r y.nr) (flatR y.n y.nn) (flatR (y.ct 0) y.ng))) := HR102.out.tab (HA102.out.bk _ _ _ (.head _)).2 (rows5_ty (by decide) (by decide)) (Fr.set _ _ _ _)
     go_simp
     refine hK.out _ _ ?_
     clear hK K
     (try simp only [Act.put])
     clear e0 f0
     refine wpAnyZ_done (by kernel_rfl) ?_ _
     go_wp2_with fail
     go_meet
     exact ⟨qa0, qc0, qa1, qc1, qa2, qc2, HA103.out, HR103.out⟩
    refine NextZ.cons (o := ⟨some 49, _, _, _, _, _⟩) rfl (fun K hK => ?_) NextZ.nil
    go_simp
    have HA104 := Lib.hid (HA88.out.below (below_alloc X88 (.cells #[] 43)))
    have HR104 : Hid (Rws w5.heap.size (X88.alloc (.cells #[] 43)) (rows5 y vb vc nb nc2 F (.slice none 0 0) (.slice (some ⟨X88.heap.size, 0, none⟩) 0 0) (.slice (some ⟨J2, 0, none⟩) 0 0) (0) (0) (0) ([]) ([]) ([]) (flatR (y.ct 0) y.ng))) := HR88.out.made HA88.out.fr.size 2 43 2
    refine hK.out _ _ (⟨HA104.out.cell (.tail _ (.head _)) 1, HA104.out.cell (.tail _ (.head _)) 2, HA104.out.cell (.tail _ (.head _)) 3⟩) (fun hS => ?_)
    clear hK K
    try simp only [Act.put, putA, putZ, putS]
    generalize X88.heap.size = J1 at *
    generalize (X88.alloc (.cells #[] 43)) = X104 at *
    refine wpAnyZ_next (rs := [0]) (by kernel_rfl) (by simp) ?_
    refine NextZ.cons (o := ⟨some 45, _, _, _, _, _⟩) rfl (fun K hK => ?_) NextZ.nil
    go_simp
    have HA105 := Lib.hid (HA104.out.below (below_alloc X104 (.cells #[] 43)))
    have HR105 : Hid (Rws w5.heap.size (X104.alloc (.cells #[] 43)) (rows5 y vb vc nb nc2 F (.slice (some ⟨X104.heap.size, 0, none⟩) 0 0) (.slice (some ⟨J1, 0, none⟩) 0 0) (.slice (some ⟨J2, 0, none⟩) 0 0) (0) (0) (0) ([]) ([]) ([]) (flatR (y.ct 0) y.ng))) := HR104.out.made HA104.out.fr.size 1 43 2
    refine hK.out _ _ (⟨HA105.out.cell (.tail _ (.head _)) 1, HA105.out.cell (.tail _ (.head _)) 2, HA105.out.cell (.tail _ (.head _)) 3⟩) (fun hS => ?_)
    clear hK K
    try simp only [Act.put, putA, putZ, putS]
    generalize X104.heap.size = J0 at *
    generalize (X104.alloc (.cells #[] 43)) = X105 at *
    refine wpAnyZ_next (rs := [3]) (by kernel_rfl) (by simp) ?_
    refine NextZ.cons (o := ⟨some 48, _, _, _, _, _⟩) rfl (fun K hK => ?_) NextZ.nil
    refine step_append_src X105 (by rfl) (.tmp 45) (.tmp 47) 23 (by rfl) w5.heap.size 43 i0 (.agg #[.int .i64 0, .int .i64 0]) 2 16 Try.underlying23 hi0 hz0 hz1 hz2 rfl (by decide) (.slice (some ⟨J0, 0, none⟩) 0 0) 0 [] (by rfl) (HR105.out.own 1 _ rfl) vba y.nb vbc (flatR y.b y.nb) (by rfl) ((HL.out.2.1.below HA105.out.fr).src) (flatR_one _ _) (by unfold maxLen; omega) (by omega) HA105.out.fr.size ?_
    intro v106 X106 hown hgr hl
    rw [Nat.zero_add, List.nil_append] at hown
    obtain ⟨qa0, qc0, rfl⟩ := own_slice' hown
    have HA106 := Lib.hid (BF.grow HA105.out HR105.out (i := 1) rfl (List.forall_mem_cons.2 ⟨(show 25 ≠ 43 by decide), List.forall_mem_cons.2 ⟨(show 25 ≠ 43 by decide), List.forall_mem_nil _⟩⟩) (Nat.le_refl _) hgr)
    have HR106 : Hid (Rws w5.heap.size X106 (rows5 y vb vc nb nc2 F (.slice qa0 y.nb qc0) (.slice (some ⟨J1, 0, none⟩) 0 0) (.slice (some ⟨J2, 0, none⟩) 0 0) (y.nb) (0) (0) (flatR y.b y.nb) ([]) ([]) (flatR (y.ct 0) y.ng))) := HR105.out.app (i := 1) rfl hown hgr hl
    clear hown hgr hl
    refine hK.out _ _ (⟨HA106.out.cell (.tail _ (.head _)) 1, HA106.out.cell (.tail _ (.head _)) 2, HA106.out.cell (.tail _ (.head _)) 3⟩) (fun hS => ?_)
    clear hK K
    try simp only [Act.put, putA, putZ, putS]
    refine tZ 12 (oi := ⟨_, _, _, _, _, _⟩) (v := ?_) rfl (by kernel_rfl) (by rfl) (fun _ _ _ h => h) hS ?_ ?_
    rotate_left
    · rintro W' ⟨z0, z1, z2⟩; go_simp; try with_reducible rfl
    try simp only [Act.put, putA, putZ, putS]
    refine wpAnyZ_next (rs := [7]) (by kernel_rfl) (by simp) ?_
    refine NextZ.cons (o := ⟨some 52, _, _, _, _, _⟩) rfl (fun K hK => ?_) NextZ.nil
    refine step_append_src X106 (by rfl) (.tmp 49) (.tmp 51) 23 (by rfl) w5.heap.size 43 i0 (.agg #[.int .i64 0, .int .i64 0]) 2 16 Try.underlying23 hi0 hz0 hz1 hz2 rfl (by decide) (.slice (some ⟨J1, 0, none⟩) 0 0) 0 [] (by rfl) (HR106.out.own 2 _ rfl) vra y.nr vrc (flatR y.r y.nr) (by rfl) ((HL.out.2.2.1.below HA106.out.fr).src) (flatR_one _ _) (by unfold maxLen; omega) (by omega) HA106.out.fr.size ?_
    intro v107 X107 hown hgr hl
    rw [Nat.zero_add, List.nil_append] at hown
    obtain ⟨qa1, qc1, rfl⟩ := own_slice' hown
    have HA107 := Lib.hid (BF.grow HA106.out HR106.out (i := 2) rfl (List.forall_mem_cons.2 ⟨(show 25 ≠ 43 by decide), List.forall_mem_cons.2 ⟨(show 25 ≠ 43 by decide), List.forall_mem_nil _⟩⟩) (Nat.le_refl _) hgr)
    have HR107 : Hid (Rws w5.heap.size X107 (rows5 y vb vc nb nc2 F (.slice qa0 y.nb qc0) (.slice qa1 y.nr qc1) (.slice (some ⟨J2, 0, none⟩) 0 0) (y.nb) (y.nr) (0) (flatR y.b y.nb) (flatR y.r y.nr) ([]) (flatR (y.ct 0) y.ng))) := HR106.out.app (i := 2) rfl hown hgr hl
    clear hown hgr hl
    refine hK.out _ _ (⟨HA107.out.cell (.tail _ (.head _)) 1, HA107.out.cell (.tail _ (.head _)) 2, HA107.out.cell (.tail _ (.head _)) 3⟩) (fun hS => ?_)
    clear hK K
    try simp only [Act.put, putA, putZ, putS]
    refine wpAnyZ_next (rs := [11]) (by kernel_rfl) (by simp) ?_
    refine NextZ.cons (o := ⟨some 56, _, _, _, _, _⟩) rfl (fun K hK => ?_) NextZ.nil
    refine step_append_src X107 (by rfl) (.tmp 53) (.tmp 55) 23 (by rfl) w5.heap.size 43 i0 (.agg #[.int .i64 0, .int .i64 0]) 2 16 Try.underlying23 hi0 hz0 hz1 hz2 rfl (by decide) (.slice (some ⟨J2, 0, none⟩) 0 0) 0 [] (by rfl) (HR107.out.own 3 _ rfl) vna y.nn vnc (flatR y.n y.nn) (by rfl) ((HL.out.2.2.2.below HA107.out.fr).src) (flatR_one _ _) (by unfold maxLen; omega) (by omega) HA107.out.fr.size ?_
    intro v108 X108 hown hgr hl
    rw [Nat.zero_add, List.nil_append] at hown
    obtain ⟨qa2, qc2, rfl⟩ := own_slice' hown
    have HA108 := Lib.hid (BF.grow HA107.out HR107.out (i := 3) rfl (List.forall_mem_cons.2 ⟨(show 25 ≠ 43 by decide), List.forall_mem_cons.2 ⟨(show 25 ≠ 43 by decide), List.forall_mem_nil _⟩⟩) (Nat.le_refl _) hgr)
    have HR108 : Hid (Rws w5.heap.size X108 (rows5 y vb vc nb nc2 F (.slice qa0 y.nb qc0) (.slice qa1 y.nr qc1) (.slice qa2 y.nn qc2) (y.nb) (y.nr) (y.nn) (flatR y.b y.nb) (flatR y.r y.nr) (flatR y.n y.nn) (flatR (y.ct 0) y.ng))) := HR107.out.app (i := 3) rfl hown hgr hl
    clear hown hgr hl
    refine hK.out _ _ (⟨HA108.out.cell (.tail _ (.head _)) 1, HA108.out.cell (.tail _ (.head _)) 2, HA108.out.cell (.tail _ (.head _)) 3⟩) (fun hS => ?_)
    clear hK K
    try simp only [Act.put, putA, putZ, putS]
    refine wpAnyZ_next (rs := [13]) (by kernel_rfl) (by simp) ?_
    refine NextZ.cons (o := ⟨none, _, _, _, _, _⟩) rfl (fun K hK => ?_) NextZ.nil
    have e0 := HA108.out.cell (.head _) 1
    have f0 := HA108.out.thaw (.head _) 1
    have HA109 := Lib.hid (BF.set1 (i := 1) (cs' := #[.slice (some ⟨vb, 0, none⟩) y.nc vc, .slice qa0 y.nb qc0, .slice vra y.nr vrc, .slice vna y.nn vnc]) HA108.out (.head _) (.slice qa0 y.nb qc0) (by simp) rfl (L' := [(w5.heap.size, #[.slice (some ⟨cb, co, none⟩) y.nc vcc, .slice vba y.nb vbc, .slice vra y.nr vrc, .slice vna y.nn vnc], 25)]) (List.forall_mem_cons.2 ⟨⟨show w5.heap.size ≠ xb by omega, (.tail _ (.head _))⟩, List.forall_mem_nil _⟩))
    have HR109 : Hid (Rws w5.heap.size (X108.setCell ⟨xb, 1, none⟩ (.slice qa0 y.nb qc0)) (rows5 y vb vc nb nc2 F (.slice qa0 y.nb qc0) (.slice qa1 y.nr qc1) (.slice qa2 y.nn qc2) (y.nb) (y.nr) (y.nn) (flatR y.b y.nb) (flatR y.r y.nr) (flatR y.n y.nn) (flatR (y.ct 0) y.ng))) := HR108.out.tab (HA108.out.bk _ _ _ (.head _)).2 (rows5_ty (by decide) (by decide)) (Fr.set _ _ _ _)
    go_simp
    refine hK.out _ _ (⟨HA109.out.cell (.tail _ (.head _)) 1, HA109.out.cell (.tail _ (.head _)) 2, HA109.out.cell (.tail _ (.head _)) 3⟩) (fun hS => ?_)
    clear hK K
    (try simp only [Act.put])
    clear e0 f0
    refine tZ 14 (oi := ⟨_, _, _, _, _, _⟩) (v := ?_) rfl (by kernel_rfl) (by rfl) (fun _ _ _ h => h) hS ?_ ?_
    rotate_left
    · rintro W' ⟨z0, z1, z2⟩; go_simp; try with_reducible rfl
    try simp only [Act.put, putA, putZ, putS]
    refine wpAnyZ_next (rs := [15]) (by kernel_rfl) (by simp) ?_
    refine NextZ.cons (o := ⟨none, _, _, _, _, _⟩) rfl (fun K hK => ?_) NextZ.nil
    have e0 := HA109.out.cell (.head _) 2
    have f0 := HA109.out.thaw (.head _) 2
    have HA110 := Lib.hid (BF.set1 (i := 2) (cs' := #[.slice (some ⟨vb, 0, none⟩) y.nc vc, .slice qa0 y.nb qc0, .slice qa1 y.nr qc1, .slice vna y.nn vnc]) HA109.out (.head _) (.slice qa1 y.nr qc1) (by simp) rfl (L' := [(w5.heap.size, #[.slice (some ⟨cb, co, none⟩) y.nc vcc, .slice vba y.nb vbc, .slice vra y.nr vrc, .slice vna y.nn vnc], 25)]) (List.forall_mem_cons.2 ⟨⟨show w5.heap.size ≠ xb by omega, (.tail _ (.head _))⟩, List.forall_mem_nil _⟩))
    have HR110 : Hid (Rws w5.heap.size ((X108.setCell ⟨xb, 1, none⟩ (.slice qa0 y.nb qc0)).setCell ⟨xb, 2, none⟩ (.slice qa1 y.nr qc1)) (rows5 y vb vc nb nc2 F (.slice qa0 y.nb qc0) (.slice qa1 y.nr qc1) (.slice qa2 y.nn qc2) (y.nb) (y.nr) (y.nn) (flatR y.b y.nb) (flatR y.r y.nr) (flatR y.n y.nn) (flatR (y.ct 0) y.ng))) := HR109.out.tab (HA109.out.bk _ _ _ (.head _)).2 (rows5_ty (by decide) (by decide)) (Fr.set _ _ _ _)
    go_simp
    refine hK.out _ _ (⟨HA110.out.cell (.tail _ (.head _)) 1, HA110.out.cell (.tail _ (.head _)) 2, HA110.out.cell (.tail _ (.head _)) 3⟩) (fun hS => ?_)
    clear hK K
    (try simp only [Act.put])
    clear e0 f0
    refine tZ 16 (oi := ⟨_, _, _, _, _, _⟩) (v := ?_) rfl (by kernel_rfl) (by rfl) (fun _ _ _ h => h) hS ?_ ?_
    rotate_left
    · rintro W' ⟨z0, z1, z2⟩; go_simp; try with_reducible rfl
    try simp only [Act.put, putA, putZ, putS]
    refine wpAnyZ_next (rs := [17]) (by kernel_rfl) (by simp) ?_
    refine NextZ.last (o := ⟨none, _, _, _, _, _⟩) rfl (by kernel_rfl) (fun K hK => ?_)
    have e0 := HA110.out.cell (.head _) 3
    have f0 := HA110.out.thaw (.head _) 3
    have HA111 := Lib.hid (BF.set1 (i := 3) (cs' := #[.slice (some ⟨vb, 0, none⟩) y.nc vc, .slice qa0 y.nb qc0, .slice qa1 y.nr qc1, .slice qa2 y.nn qc2]) HA110.out (.head _) (.slice qa2 y.nn qc2) (by simp) rfl (L' := [(w5.heap.size, #[.slice (some ⟨cb, co, none⟩) y.nc vcc, .slice vba y.nb vbc, .slice vra y.nr vrc, .slice vna y.nn vnc], 25)]) (List.forall_mem_cons.2 ⟨⟨show w5.heap.size ≠ xb by omega, (.tail _ (.head _))⟩, List.forall_mem_nil _⟩))
    have HR111 : Hid (Rws w5.heap.size (((X108.setCell ⟨xb, 1, none⟩ (.slice qa0 y.nb qc0)).setCell ⟨xb, 2, none⟩ (.slice qa1 y.nr qc1)).setCell ⟨xb, 3, none⟩ (.slice qa2 y.nn qc2)) (rows5 y vb vc nb nc2 F (.slice qa0 y.nb qc0) (.slice qa1 y.nr qc1) (.slice qa2 y.nn qc2) (y.nb) (y.nr) (y.nn) (flatR y.b y.nb) (flatR y.r y.nr) (flatR y.n y.nn) (flatR (y.ct 0) y.ng))) := HR110.out.tab (HA110.out.bk _ _ _ (.head _)).2 (rows5_ty (by decide) (by decide)) (Fr.set _ _ _ _)
    go_simp
    refine hK.out _ _ ?_
    clear hK K
    (try simp only [Act.put])
    clear e0 f0
    refine wpAnyZ_done (by kernel_rfl) ?_ _
    go_wp2_with fail
    go_meet
    exact ⟨qa0, qc0, qa1, qc1, qa2, qc2, HA111.out, HR111.out⟩
  rename World => w8
  obtain ⟨qa0, qc0, qa1, qc1, qa2, qc2, hbf, hrw⟩ := hcut
  have HA8 := Lib.hid hbf; have HR8 := Lib.hid hrw
  clear hbf hrw HA7 HR7
  go_wp2_with fail
  obtain ⟨g, hgq, hg⟩ : ∃ g : Nat, bY % (y.ng : Int) = (g : Int) ∧ g < y.ng := ⟨(bY % (y.ng : Int)).toNat, by have := Int.emod_nonneg bY (show (y.ng : Int) ≠ 0 by omega); omega, by have := Int.emod_lt_of_pos bY (show (0 : Int) < (y.ng : Int) by omega); have := Int.emod_nonneg bY (show (y.ng : Int) ≠ 0 by omega); omega⟩
  have wby : IntKind.i64.wrap bY = bY := IntWalk.i64_in _ (by omega)
  have m4 : bY.tmod (y.ng : Int) = (g : Int) := by rw [Int.tmod_eq_emod_of_nonneg hy0]; exact hgq
  have gi : (0 : Int) ≤ (g : Int) := by omega
  have gj : (g : Int) < (y.ng : Int) := by omega
  have n1 : ¬ y.ng = 0 := by omega
  have HC6 : Hid (∀ X, Below w8.heap.size w8 X → X.cell? ⟨xb, 0, none⟩ = some (.slice (some ⟨vb, 0, none⟩) y.nc vc) ∧ X.cell? ⟨vb, 0, none⟩ = some (.slice (some ⟨nb, 0, none⟩) y.ng nc2) ∧ X.cell? ⟨w5.heap.size, 0, none⟩ = some (.slice (some ⟨cb, co, none⟩) y.nc vcc) ∧ X.cell? ⟨w5.heap.size, 1, none⟩ = some (.slice vba y.nb vbc) ∧ X.cell? ⟨w5.heap.size, 2, none⟩ = some (.slice vra y.nr vrc) ∧ X.cell? ⟨w5.heap.size, 3, none⟩ = some (.slice vna y.nn vnc)) := fun X hX => by
    have hA := HA8.out.below hX
    have ho := (HR8.out.below hX).own 4 _ rfl
    exact ⟨hA.cell (.head _) 0, (ho.cellAt 0 (by simp only; omega)).trans (by rw [List.getElem?_set, if_pos rfl, if_pos (by simpa using nc0)]), hA.cell (.tail _ (.head _)) 0, hA.cell (.tail _ (.head _)) 1, hA.cell (.tail _ (.head _)) 2, hA.cell (.tail _ (.head _)) 3⟩
  go_cut [16] (fun s16 wx => s16 = .pointer (some ⟨nb, g * 2, none⟩) ∧ Below w8.heap.size w8 wx)
  case first => as_aux_lemma =>
    have HAX : Hid (Below w8.heap.size w8 w8.drew) := (Below.refl _ _).drew
    refine wp_region_held_drew (S := fun X => X.cell? ⟨xb, 0, none⟩ = some (.slice (some ⟨vb, 0, none⟩) y.nc vc) ∧ X.cell? ⟨vb, 0, none⟩ = some (.slice (some ⟨nb, 0, none⟩) y.ng nc2) ∧ X.cell? ⟨w5.heap.size, 0, none⟩ = some (.slice (some ⟨cb, co, none⟩) y.nc vcc) ∧ X.cell? ⟨w5.heap.size, 1, none⟩ = some (.slice vba y.nb vbc) ∧ X.cell? ⟨w5.heap.size, 2, none⟩ = some (.slice vra y.nr vrc) ∧ X.cell? ⟨w5.heap.size, 3, none⟩ = some (.slice vna y.nn vnc)) (by kernel_rfl) (HC6.out _ HAX.out) (fun hS => ?_)
    generalize w8.drew = X at *
    refine tk [0, 1, 2, 3, 4, 5, 6] ?_
    repeat (refine tkH (oi := ⟨_, _, _, _, _, _⟩) (v := ?_) rfl (by kernel_rfl) (by rfl) (fun _ _ _ h => h) hS ?_ ?_; rotate_left; (· rintro W' ⟨z0, z1, z2, z3, z4, z5⟩; go_simp; try with_reducible rfl); try simp only [Act.put, putA, putZ, putS])
    refine tk0 ?_
    refine wpAnyH_ready (rs := [7]) (by kernel_rfl) (by simp) ?_
    refine AllReadyH.cons (o := ⟨some 67, _, _, _, _, _⟩) rfl (fun K hK => ?_) AllReadyH.nil
    go_simp
    refine (HGR.out _ (below_step HA8.out.fr HAX.out)).mono ?_
    rintro _ X0 ⟨rfl, hb0⟩
    (try go_wp2_with fail)
    have HA0 := Lib.hid (below_step HAX.out hb0)
    refine hK.out _ _ (HC6.out X0 HA0.out) (fun hS => ?_)
    clear hK K
    try simp only [Act.put, putA, putZ, putS]
    clear hb0
    refine tk [8, 9, 10] ?_
    repeat (refine tkH (oi := ⟨_, _, _, _, _, _⟩) (v := ?_) rfl (by kernel_rfl) (by rfl) (fun _ _ _ h => h) hS ?_ ?_; rotate_left; (· rintro W' ⟨z0, z1, z2, z3, z4, z5⟩; go_simp; try with_reducible rfl); try simp only [Act.put, putA, putZ, putS])
    refine tk0 ?_
    refine wpAnyH_done (by kernel_rfl) ?_ _
    go_wp2_with fail
    go_meet
    exact ⟨by simp, HA0.out⟩
  rename World => w9
  obtain ⟨rfl, hb9⟩ := hcut
  have HB9 := Lib.hid hb9
  clear hb9 hgq m4 HC6
  have PK0 : Pick y (rows5 y vb vc nb nc2 F (.slice qa0 y.nb qc0) (.slice qa1 y.nr qc1) (.slice qa2 y.nn qc2) (y.nb) (y.nr) (y.nn) (flatR y.b y.nb) (flatR y.r y.nr) (flatR y.n y.nn) (flatR (y.ct 0) y.ng)) 0 nb g y.ng nc2 (y.ct 0) := ⟨by omega, rfl, rfl, hg, HK.out.1 g hg⟩
  have HP0 := Lib.hid PK0
  clear PK0
  have k0 := (HA8.out.below HB9.out).cell (.head _) 0
  have k1 := (HA8.out.below HB9.out).cell (.head _) 1
  have k2 := (HA8.out.below HB9.out).cell (.head _) 2
  have k3 := (HA8.out.below HB9.out).cell (.head _) 3
  have hm4 : wh % 4 = 0 ∨ wh % 4 = 1 ∨ wh % 4 = 2 ∨ wh % 4 = 3 := by omega
  go_upto_block 0 with fail
  go_cut [16] (fun s16 wx => ∃ i b j n c R, Pick y (rows5 y vb vc nb nc2 F (.slice qa0 y.nb qc0) (.slice qa1 y.nr qc1) (.slice qa2 y.nn qc2) (y.nb) (y.nr) (y.nn) (flatR y.b y.nb) (flatR y.r y.nr) (flatR y.n y.nn) (flatR (y.ct 0) y.ng)) i b j n c R ∧ s16 = .pointer (some ⟨b, j * 2, none⟩) ∧ Below w8.heap.size w8 wx)
  case first => as_aux_lemma =>
    rcases hm4 with m | m | m | m
    · go_wp2_with fail
      go_meet
      exact ⟨0, nb, g, y.ng, nc2, y.ct 0, HP0.out, rfl, HB9.out⟩
    · by_cases hnb : 0 < y.nb
      · obtain ⟨a, ha, hj⟩ : ∃ g : Nat, bY.tmod (y.nb : Int) = (g : Int) ∧ g < y.nb := tmod_nat hy0 hnb
        have ai : (0 : Int) ≤ (a : Int) := by omega
        have aj : (a : Int) < (y.nb : Int) := by omega
        have n2 : ¬ y.nb = 0 := by omega
        obtain ⟨qb, rfl⟩ := own_somep (HR8.out.own 1 _ rfl) hnb
        have HP1 : Hid (Pick y (rows5 y vb vc nb nc2 F (.slice (some ⟨qb, 0, none⟩) y.nb qc0) (.slice qa1 y.nr qc1) (.slice qa2 y.nn qc2) (y.nb) (y.nr) (y.nn) (flatR y.b y.nb) (flatR y.r y.nr) (flatR y.n y.nn) (flatR (y.ct 0) y.ng)) 1 qb a y.nb qc0 y.b) := Lib.hid ⟨by omega, rfl, rfl, hj, HK.out.2.1 a hj⟩
        go_wp2_with fail
        go_quiet (fail)
        go_wp2_with fail
        go_meet
        exact ⟨1, qb, a, y.nb, qc0, y.b, HP1.out, rfl, below_step HB9.out (below_drewS _ _ _)⟩
      · go_wp2_with fail
        go_meet
        exact ⟨0, nb, g, y.ng, nc2, y.ct 0, HP0.out, rfl, HB9.out⟩
    · have hnr : 0 < y.nr := by rw [HNR.out]; omega
      obtain ⟨a, ha, hj⟩ : ∃ g : Nat, bY.tmod (y.nr : Int) = (g : Int) ∧ g < y.nr := tmod_nat hy0 hnr
      have ai : (0 : Int) ≤ (a : Int) := by omega
      have aj : (a : Int) < (y.nr : Int) := by omega
      have n2 : ¬ y.nr = 0 := by omega
      obtain ⟨qb, rfl⟩ := own_somep (HR8.out.own 2 _ rfl) hnr
      have HP1 : Hid (Pick y (rows5 y vb vc nb nc2 F (.slice qa0 y.nb qc0) (.slice (some ⟨qb, 0, none⟩) y.nr qc1) (.slice qa2 y.nn qc2) (y.nb) (y.nr) (y.nn) (flatR y.b y.nb) (flatR y.r y.nr) (flatR y.n y.nn) (flatR (y.ct 0) y.ng)) 2 qb a y.nr qc1 y.r) := Lib.hid ⟨by omega, rfl, rfl, hj, HK.out.2.2.1 a hj⟩
      go_wp2_with fail
      go_quiet (fail)
      go_wp2_with fail
      go_meet
      exact ⟨2, qb, a, y.nr, qc1, y.r, HP1.out, rfl, below_step HB9.out (below_drewS _ _ _)⟩
    · have hnr : 0 < y.nn := by rw [HNN.out]; omega
      obtain ⟨a, ha, hj⟩ : ∃ g : Nat, bY.tmod (y.nn : Int) = (g : Int) ∧ g < y.nn := tmod_nat hy0 hnr
      have ai : (0 : Int) ≤ (a : Int) := by omega
      have aj : (a : Int) < (y.nn : Int) := by omega
      have n2 : ¬ y.nn = 0 := by omega
      obtain ⟨qb, rfl⟩ := own_somep (HR8.out.own 3 _ rfl) hnr
      have HP1 : Hid (Pick y (rows5 y vb vc nb nc2 F (.slice qa0 y.nb qc0) (.slice qa1 y.nr qc1) (.slice (some ⟨qb, 0, none⟩) y.nn qc2) (y.nb) (y.nr) (y.nn) (flatR y.b y.nb) (flatR y.r y.nr) (flatR y.n y.nn) (flatR (y.ct 0) y.ng)) 3 qb a y.nn qc2 y.n) := Lib.hid ⟨by omega, rfl, rfl, hj, HK.out.2.2.2 a hj⟩
      go_wp2_with fail
      go_quiet (fail)
      go_wp2_with fail
      go_meet
      exact ⟨3, qb, a, y.nn, qc2, y.n, HP1.out, rfl, below_step HB9.out (below_drewS _ _ _)⟩
  clear k0 k1 k2 k3 hm4 HP0
  rename World => w10
  obtain ⟨i, b, j, n, c, R, hpk, rfl, hb10⟩ := hcut
  have HA10 := Lib.hid (HA8.out.below hb10)
  have HR10 := Lib.hid (HR8.out.below hb10)
  have HP := Lib.hid hpk
  obtain ⟨L, hLe⟩ : ∃ L, rows5 y vb vc nb nc2 F (.slice qa0 y.nb qc0) (.slice qa1 y.nr qc1) (.slice qa2 y.nn qc2) (y.nb) (y.nr) (y.nn) (flatR y.b y.nb) (flatR y.r y.nr) (flatR y.n y.nn) (flatR (y.ct 0) y.ng) = L := ⟨_, rfl⟩
  rw [hLe] at HR10 HP
  obtain ⟨q1, q2, hq⟩ : ∃ q1 q2, R j = (q1, q2) := ⟨_, _, rfl⟩
  obtain ⟨r5, m5, r50, r51⟩ : ∃ r, bY.tmod 5 = r ∧ 0 ≤ r ∧ r ≤ 4 := ⟨_, Int.tmod_eq_emod_of_nonneg hy0, by omega, by omega⟩
  obtain ⟨e8, d8, e80, e81⟩ : ∃ r, bY.tdiv 8 = r ∧ 0 ≤ r ∧ r ≤ 31 := ⟨_, Int.tdiv_eq_ediv_of_nonneg hy0, by omega, by omega⟩
  obtain ⟨s5, n5, s50, s51⟩ : ∃ r, e8.tmod 5 = r ∧ 0 ≤ r ∧ r ≤ 4 := ⟨_, Int.tmod_eq_emod_of_nonneg e80, by omega, by omega⟩
  have hbd := hpk.bd
  rw [hq] at hbd
  simp only at hbd
  have we8 : IntKind.i64.wrap e8 = e8 := IntWalk.i64_in _ (by omega)
  have wr5 : IntKind.i64.wrap (q1 + r5) = q1 + r5 := IntWalk.i64_in _ (by omega)
  have ws5 : IntKind.i64.wrap (q2 - s5) = q2 - s5 := IntWalk.i64_in _ (by omega)
  obtain ⟨lo, hlo⟩ : ∃ lo, min q2 (q1 + r5) = lo := ⟨_, rfl⟩
  obtain ⟨hi, hhi⟩ : ∃ hi, max lo (q2 - s5) = hi := ⟨_, rfl⟩
  have hlb : q1 ≤ lo ∧ lo ≤ q2 := by omega
  have HC13 : Hid (∀ X, Below w10.heap.size w10 X → X.cell? ⟨b, j * 2, none⟩ = some (.int .i64 q1) ∧ X.cell? ⟨b, j * 2 + 1, none⟩ = some (.int .i64 q2)) := fun X hX => by
    have o := (HR10.out.below hX).own i _ HP.out.row
    simp only at o
    have hlt := HP.out.lt
    obtain ⟨g1, g2⟩ := flatR_get R n j hlt
    rw [hq] at g1 g2
    exact ⟨(o.cellAt (j * 2) (by omega)).trans g1, (o.cellAt (j * 2 + 1) (by omega)).trans g2⟩
  clear hpk hb10
  go_wp2_with fail
  go_cut [] (fun wx => BF w5 wx [(xb, #[.slice (some ⟨vb, 0, none⟩) y.nc vc, .slice qa0 y.nb qc0, .slice qa1 y.nr qc1, .slice qa2 y.nn qc2], 25), (w5.heap.size, #[.slice (some ⟨cb, co, none⟩) y.nc vcc, .slice vba y.nb vbc, .slice vra y.nr vrc, .slice vna y.nn vnc], 25)] ∧ Rws w5.heap.size wx (L.set i ⟨43, 2, .slice (some ⟨b, 0, none⟩) n c, n, (flatR R n).set (j * 2) (.int .i64 lo)⟩))
  case first => as_aux_lemma =>
    have HAX := Lib.hid (HA10.out.below (Below.refl _ w10).drew)
    have HRX := Lib.hid (HR10.out.below (Below.refl _ w10).drew)
    refine wp_region_E [16] (S := fun X => X.cell? ⟨b, j * 2, none⟩ = some (.int .i64 q1) ∧ X.cell? ⟨b, j * 2 + 1, none⟩ = some (.int .i64 q2)) (by kernel_rfl) (HC13.out _ (Below.refl _ w10).drew) (fun hS => ?_)
    generalize w10.drew = X at *
    refine tk [0, 1, 2, 3, 4, 5, 6, 7, 8, 9, 10, 11, 12] ?_
    repeat (refine tkE (oi := ⟨_, _, _, _, _, _⟩) (v := ?_) rfl (by kernel_rfl) (by rfl) (fun _ _ _ h => h) hS ?_ ?_; rotate_left; (· rintro W' ⟨z0, z1⟩; go_simp; try with_reducible rfl); try simp only [Act.put, putA, putZ, putS])
    refine tk0 ?_
    refine tE 13 (oi := ⟨_, _, _, _, _, _⟩) (v := .int .i64 lo) rfl (by kernel_rfl) (by rfl) (fun _ _ _ h => h) hS ?_ ?_
    · rintro W' ⟨z0, z1⟩; go_simp; (try (split <;> omega))
    try simp only [Act.put, putA, putZ, putS]
    refine wpAnyE_next (rs := [14]) (by kernel_rfl) (by simp) ?_
    refine NextE.cons (o := ⟨some 129, _, _, _, _, _⟩) rfl (fun K hK => ?_) NextE.nil
    go_simp
    refine hK.out _ _ (hS) (fun hS => ?_)
    clear hK K
    try simp only [Act.put, putA, putZ, putS]
    refine tE 15 (oi := ⟨_, _, _, _, _, _⟩) (v := ?_) rfl (by kernel_rfl) (by rfl) (fun _ _ _ h => h) hS ?_ ?_
    rotate_left
    · rintro W' ⟨z0, z1⟩; go_simp; try with_reducible rfl
    try simp only [Act.put, putA, putZ, putS]
    refine wpAnyE_next (rs := [16]) (by kernel_rfl) (by simp) ?_
    refine NextE.skip (o := ⟨none, _, _, _, _, _⟩) rfl (by kernel_rfl) (fun K hK => ?_) NextE.nil
    have e0 := hS.1
    have f0 := (HRX.out.own i _ HP.out.row).frozenAt (j * 2)
    have HA1 := Lib.hid (BF.put (j := j * 2) (u := .int .i64 lo) HAX.out HRX.out HP.out.row (List.forall_mem_cons.2 ⟨(show 25 ≠ 43 by decide), List.forall_mem_cons.2 ⟨(show 25 ≠ 43 by decide), List.forall_mem_nil _⟩⟩) (Nat.le_refl _))
    have HR1 := Lib.hid (HRX.out.put (j := j * 2) HP.out.row (.int .i64 lo))
    go_simp
    refine hK.out _ _ ?_
    clear hK K
    (try simp only [Act.put])
    refine wpAnyE_done (by kernel_rfl) ?_ _
    go_wp2_with fail
    go_meet
    exact ⟨HA1.out, HR1.out⟩
  rename World => w11
  obtain ⟨hbf, hrw⟩ := hcut
  have HA11 := Lib.hid hbf; have HR11 := Lib.hid hrw
  have HRW : Hid ((L.set i ⟨43, 2, .slice (some ⟨b, 0, none⟩) n c, n, (flatR R n).set (j * 2) (.int .i64 lo)⟩)[i]? = some ⟨43, 2, .slice (some ⟨b, 0, none⟩) n c, n, (flatR R n).set (j * 2) (.int .i64 lo)⟩) := Lib.hid (by rw [List.getElem?_set, if_pos rfl, if_pos (List.getElem?_eq_some_iff.1 HP.out.row).1])
  have HC14 : Hid (∀ X, Below w11.heap.size w11 X → X.cell? ⟨b, j * 2, none⟩ = some (.int .i64 lo) ∧ X.cell? ⟨b, j * 2 + 1, none⟩ = some (.int .i64 q2)) := fun X hX => by
    have o := (HR11.out.below hX).own i _ HRW.out
    simp only at o
    have hlt := HP.out.lt
    obtain ⟨g1, g2⟩ := flatR_get R n j hlt
    rw [hq] at g1 g2
    exact ⟨(o.cellAt (j * 2) (by omega)).trans (by rw [List.getElem?_set, if_pos rfl, if_pos (by rw [flatR_length]; omega)]), (o.cellAt (j * 2 + 1) (by omega)).trans (by rw [List.getElem?_set, if_neg (by omega)]; exact g2)⟩
  clear hbf hrw HC13 wr5 hlo m5
  go_wp2_with fail
  go_cut [] (fun wx => BF w5 wx [(xb, #[.slice (some ⟨vb, 0, none⟩) y.nc vc, .slice qa0 y.nb qc0, .slice qa1 y.nr qc1, .slice qa2 y.nn qc2], 25), (w5.heap.size, #[.slice (some ⟨cb, co, none⟩) y.nc vcc, .slice vba y.nb vbc, .slice vra y.nr vrc, .slice vna y.nn vnc], 25)] ∧ Rws w5.heap.size wx ((L.set i ⟨43, 2, .slice (some ⟨b, 0, none⟩) n c, n, (flatR R n).set (j * 2) (.int .i64 lo)⟩).set i ⟨43, 2, .slice (some ⟨b, 0, none⟩) n c, n, ((flatR R n).set (j * 2) (.int .i64 lo)).set (j * 2 + 1) (.int .i64 hi)⟩))
  case first => as_aux_lemma =>
    have HAX := Lib.hid (HA11.out.below (Below.refl _ w11).drew)
    have HRX := Lib.hid (HR11.out.below (Below.refl _ w11).drew)
    refine wp_region_E [17] (S := fun X => X.cell? ⟨b, j * 2, none⟩ = some (.int .i64 lo) ∧ X.cell? ⟨b, j * 2 + 1, none⟩ = some (.int .i64 q2)) (by kernel_rfl) (HC14.out _ (Below.refl _ w11).drew) (fun hS => ?_)
    generalize w11.drew = X at *
    refine tk [0, 1, 2, 3, 4, 5, 6, 7, 8, 9, 10, 11, 12, 13] ?_
    repeat (refine tkE (oi := ⟨_, _, _, _, _, _⟩) (v := ?_) rfl (by kernel_rfl) (by rfl) (fun _ _ _ h => h) hS ?_ ?_; rotate_left; (· rintro W' ⟨z0, z1⟩; go_simp; try with_reducible rfl); try simp only [Act.put, putA, putZ, putS])
    refine tk0 ?_
    refine tE 14 (oi := ⟨_, _, _, _, _, _⟩) (v := .int .i64 hi) rfl (by kernel_rfl) (by rfl) (fun _ _ _ h => h) hS ?_ ?_
    · rintro W' ⟨z0, z1⟩; go_simp; (try (split <;> omega))
    try simp only [Act.put, putA, putZ, putS]
    refine wpAnyE_next (rs := [15]) (by kernel_rfl) (by simp) ?_
    refine NextE.cons (o := ⟨some 146, _, _, _, _, _⟩) rfl (fun K hK => ?_) NextE.nil
    go_simp
    refine hK.out _ _ (hS) (fun hS => ?_)
    clear hK K
    try simp only [Act.put, putA, putZ, putS]
    refine tE 16 (oi := ⟨_, _, _, _, _, _⟩) (v := ?_) rfl (by kernel_rfl) (by rfl) (fun _ _ _ h => h) hS ?_ ?_
    rotate_left
    · rintro W' ⟨z0, z1⟩; go_simp; try with_reducible rfl
    try simp only [Act.put, putA, putZ, putS]
    refine wpAnyE_next (rs := [17]) (by kernel_rfl) (by simp) ?_
    refine NextE.skip (o := ⟨none, _, _, _, _, _⟩) rfl (by kernel_rfl) (fun K hK => ?_) NextE.nil
    have e0 := hS.2
    have f0 := (HRX.out.own i _ HRW.out).frozenAt (j * 2 + 1)
    have HA1 := Lib.hid (BF.put (j := j * 2 + 1) (u := .int .i64 hi) HAX.out HRX.out HRW.out (List.forall_mem_cons.2 ⟨(show 25 ≠ 43 by decide), List.forall_mem_cons.2 ⟨(show 25 ≠ 43 by decide), List.forall_mem_nil _⟩⟩) (Nat.le_refl _))
    have HR1 := Lib.hid (HRX.out.put (j := j * 2 + 1) HRW.out (.int .i64 hi))
    go_simp
    refine hK.out _ _ ?_
    clear hK K
    (try simp only [Act.put])
    refine wpAnyE_done (by kernel_rfl) ?_ _
    go_wp2_with fail
    go_meet
    exact ⟨HA1.out, HR1.out⟩
  rename World => w12
  obtain ⟨hbf, hrw⟩ := hcut
  rw [List.set_set] at hrw
  have HA12 := Lib.hid hbf
  obtain ⟨x, hN, hx, hxl, xnb, xnr, xnn, xsm⟩ := pick_narrow HOK.out hLe.symm HP.out (p := lo) (q := hi) (by rw [hq]; simp only; omega) (by omega) (by rw [hq]; simp only; omega) hrw HF.out hbf.fr
  clear hbf hrw HC14 HRW HR11 HA11 HR10 HA10 HP HF we8 ws5 hhi n5 d8 hLe hq hbd
  have hxs : x.small := by rw [xsm]; exact HYS.out
  have HXN := Lib.hid hN; have HXO := Lib.hid hx
  have HTX : Hid (∀ X, Below w12.heap.size w12 X → Calls Try.prog 20 #[.agg #[.slice (some ⟨vb, 0, none⟩) y.nc vc, .slice qa0 y.nb qc0, .slice qa1 y.nr qc1, .slice qa2 y.nn qc2]] X fun e w' => ∃ v' : WV, e = .returned (.agg #[v'.cv x, v'.bv x, v'.rv x, v'.nv x]) ∧ WL w' v' x ∧ Below X.heap.size X w') := fun X hX => by
    have h := table_any ⟨some ⟨vb, 0, none⟩, vc, qa0, qc0, qa1, qc1, qa2, qc2⟩ x hxs X (hxl.below hX)
    simp only [WV.cv, WV.bv, WV.rv, WV.nv] at h ⊢
    rw [hN.nc, xnb, xnr, xnn] at h ⊢
    exact h
  have HBX : Hid (∀ (X : World) (v' : WV), WL X v' x → Calls Try.prog 39 #[.agg #[v'.cv x, v'.bv x, v'.rv x, v'.nv x]] X fun e w' => ∃ a m c, e = .returned (.tuple #[.slice a m c, .int .i64 (agE x)]) ∧ (x.agree off0 = true → RowsAt w' (.slice a m c) x.nc (fun _ => x.ng) (bndR x off0)) ∧ Below X.heap.size X w') := fun X v' h => bounds_two v' x hxs X h hx.fault0
  obtain ⟨lm, eh, heh, hlx⟩ : ∃ (lm : Nat) (eh : Int), (eh = 9 ∨ (eh = 0 ∧ ll.length ≤ lm)) ∧ ∀ (X : World) (v' : WV), WL X v' x → Calls Try.prog 33 #[.agg #[v'.cv x, v'.bv x, v'.rv x, v'.nv x]] X fun e w' => ∃ a c, e = .returned (.tuple #[.slice a lm c, .int .i64 eh]) ∧ Below X.heap.size X w' := by
    refine ⟨(x.leave.getD []).length, if x.leave.isSome = true then 0 else 9, ?_, fun X v' h => leave_two v' x hxs X h hx.fault0⟩
    cases hm : x.leave with
    | none => exact .inl rfl
    | some m => exact .inr ⟨rfl, nar_leave hN hx HOK.out HYL.out hm⟩
  have HLX := Lib.hid hlx
  clear hlx hN hx hxl xnb xnr xnn xsm hxs
  simp only [WV.cv, WV.bv, WV.rv, WV.nv] at HTX HBX HLX
  obtain ⟨ey, hey⟩ : ∃ e, agE y = e := ⟨_, rfl⟩
  obtain ⟨ex, hex⟩ : ∃ e, agE x = e := ⟨_, rfl⟩
  rw [hey] at HBD
  rw [hex] at HBX
  have k0 := HA12.out.cell (.tail _ (.head _)) 0
  have k1 := HA12.out.cell (.tail _ (.head _)) 1
  have k2 := HA12.out.cell (.tail _ (.head _)) 2
  have k3 := HA12.out.cell (.tail _ (.head _)) 3
  go_wp2_with fail
  refine (HTB.out _ HA12.out.fr).mono ?_
  rintro _ w13 ⟨v13, rfl, hl13, hb13⟩
  go_wp2_with fail
  refine (HBD.out _ _ hl13).mono ?_
  rintro _ w14 ⟨a14, m14, c14, rfl, hr14, hb14⟩
  have HQ14 := Lib.hid hr14
  clear hr14
  have HB14 := Lib.hid (below_step hb13 hb14)
  have HA14 := Lib.hid (HA12.out.below HB14.out)
  have HC14 : Hid (Below w12.heap.size w12 w14) := Lib.hid (HB14.out)
  clear k0 k1 k2 k3 hl13 hb13 hb14
  have k0 := HA14.out.cell (.head _) 0
  have k1 := HA14.out.cell (.head _) 1
  have k2 := HA14.out.cell (.head _) 2
  have k3 := HA14.out.cell (.head _) 3
  go_wp2_with fail
  refine (HTX.out _ HC14.out).mono ?_
  rintro _ w15 ⟨v15, rfl, hl15, hb15⟩
  go_wp2_with fail
  refine (HBX.out _ _ hl15).mono ?_
  rintro _ w16 ⟨a16, m16, c16, rfl, hr16, hb16⟩
  have HQ16 := Lib.hid hr16
  clear hr16
  have HB16 := Lib.hid (below_step hb15 hb16)
  have HA16 := Lib.hid (HA14.out.below HB16.out)
  have HC16 : Hid (Below w12.heap.size w12 w16) := Lib.hid (below_step HC14.out HB16.out)
  clear k0 k1 k2 k3 hl15 hb15 hb16
  have k0 := HA16.out.cell (.tail _ (.head _)) 0
  have k1 := HA16.out.cell (.tail _ (.head _)) 1
  have k2 := HA16.out.cell (.tail _ (.head _)) 2
  have k3 := HA16.out.cell (.tail _ (.head _)) 3
  go_wp2_with fail
  refine (HTB.out _ HA16.out.fr).mono ?_
  rintro _ w17 ⟨v17, rfl, hl17, hb17⟩
  go_wp2_with fail
  refine (HLE.out _ _ hl17).mono ?_
  rintro _ w18 ⟨a18, c18, rfl, hb18⟩
  have HB18 := Lib.hid (below_step hb17 hb18)
  have HA18 := Lib.hid (HA16.out.below HB18.out)
  have HC18 : Hid (Below w12.heap.size w12 w18) := Lib.hid (below_step HC16.out HB18.out)
  clear k0 k1 k2 k3 hl17 hb17 hb18
  have k0 := HA18.out.cell (.head _) 0
  have k1 := HA18.out.cell (.head _) 1
  have k2 := HA18.out.cell (.head _) 2
  have k3 := HA18.out.cell (.head _) 3
  go_wp2_with fail
  refine (HTX.out _ HC18.out).mono ?_
  rintro _ w19 ⟨v19, rfl, hl19, hb19⟩
  go_wp2_with fail
  refine (HLX.out _ _ hl19).mono ?_
  rintro _ w20 ⟨a20, c20, rfl, hb20⟩
  have HB20 := Lib.hid (below_step hb19 hb20)
  have HA20 := Lib.hid (HA18.out.below HB20.out)
  have HC20 : Hid (Below w12.heap.size w12 w20) := Lib.hid (below_step HC18.out HB20.out)
  clear k0 k1 k2 k3 hl19 hb19 hb20
  cases hax : x.agree off0
  · obtain rfl : ex = 9 := by rw [← hex]; unfold agE; rw [hax]; rfl
    clear hex hey
    rcases heh with rfl | ⟨rfl, hlm⟩
    · go_wp2_with (go_at_call 18; refine (HAW.out _).mono ?_; rintro _ w22 ⟨rfl, hb22⟩; have HB22 := Lib.hid (below_step HB5.out (HA20.out.below hb22).fr); clear hb22)
      go_ret
      exact ⟨rfl, HB22.out⟩
    · as_aux_lemma =>
      have hlm2 : (ll.length : Int) ≤ (lm : Int) := by omega
      go_wp2_with (go_at_call 18; refine (HAW.out _).mono ?_; rintro _ w22 ⟨rfl, hb22⟩; have HB22 := Lib.hid (below_step HB5.out (HA20.out.below hb22).fr); clear hb22)
      go_ret
      exact ⟨rfl, HB22.out⟩
  · obtain ⟨hay, hwd⟩ := nar_wide HXN.out HXO.out HOK.out hax
    obtain rfl : ex = 0 := by rw [← hex]; unfold agE; rw [hax]; rfl
    obtain rfl : ey = 0 := by rw [← hey]; unfold agE; rw [hay]; rfl
    clear hex hey
    have h16 := HQ16.out hax
    have h14 := HQ14.out hay
    obtain ⟨qa16, qc16, e16⟩ := rows_slice h16
    obtain ⟨qa14, qc14, e14⟩ := rows_slice h14
    simp only [Value.slice.injEq] at e16 e14
    obtain ⟨rfl, rfl, rfl⟩ := e16
    obtain ⟨rfl, rfl, rfl⟩ := e14
    have HWD : Hid (∀ X, Below w20.heap.size w20 X → Calls Try.prog 42 #[.slice a16 x.nc c16, .slice a14 y.nc c14] X fun e w' => e = .returned (.bool true) ∧ Below X.heap.size X w') := fun X hX => by
      have h1 := HXO.out.nc4; have h2 := HXO.out.ng4; have h3 := HOK.out.nc4; have h4 := HOK.out.ng4
      have := wider_any (.slice a16 x.nc c16) (.slice a14 y.nc c14) x.nc y.nc (fun _ => x.ng) (fun _ => y.ng) (bndR x off0) (bndR y off0) X (((h16.below HB18.out).below HB20.out).below hX) ((((h14.below HB16.out).below HB18.out).below HB20.out).below hX) (by omega) (by omega) (fun _ _ => by omega) (fun _ _ => by omega)
      rw [hwd] at this
      exact this
    clear h16 h14 HQ16 HQ14 hwd hay hax
    rcases heh with rfl | ⟨rfl, hlm⟩
    · as_aux_lemma =>
      go_wp2_with (first | (go_at_call 42; refine (HWD.out _ (Below.refl _ _)).mono ?_; rintro _ w21 ⟨rfl, hb21⟩; have HA21 := Lib.hid (HA20.out.below hb21); clear hb21) | (go_at_call 18; refine (HAW.out _).mono ?_; rintro _ w22 ⟨rfl, hb22⟩; have HB22 := Lib.hid (below_step HB5.out (HA21.out.below hb22).fr); clear hb22))
      go_ret
      exact ⟨rfl, HB22.out⟩
    · as_aux_lemma =>
      have hlm2 : (ll.length : Int) ≤ (lm : Int) := by omega
      go_wp2_with (first | (go_at_call 42; refine (HWD.out _ (Below.refl _ _)).mono ?_; rintro _ w21 ⟨rfl, hb21⟩; have HA21 := Lib.hid (HA20.out.below hb21); clear hb21) | (go_at_call 18; refine (HAW.out _).mono ?_; rintro _ w22 ⟨rfl, hb22⟩; have HB22 := Lib.hid (below_step HB5.out (HA21.out.below hb22).fr); clear hb22))
      go_ret
      exact ⟨rfl, HB22.out⟩
end Go.Proofs.Ytjaoflfophcibaa
