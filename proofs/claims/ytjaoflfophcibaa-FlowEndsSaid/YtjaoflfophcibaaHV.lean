/- FlowEnds: the walk. -/
import Derived.Test.YtjaoflfophcibaaHU
import Derived.Test.YtjaoflfophcibaaHL
import Derived.Test.YtjaoflfophcibaaGO
namespace Go.Proofs.Ytjaoflfophcibaa
open Go.RowKit Go.Shelf

theorem LvR.live {W : World} {t : Tb} {nw : Nat} {z : Nat → Int} {T1 T2 T3 : Value} (h : LvR W t nw z 0 T1 T2 T3) : ∃ (y : Tb) (u : WV), T1 = .agg #[u.cv y, u.bv y, u.rv y, u.nv y] ∧ WLi W u y ∧ y.small ∧ y.fault = 0 ∧ y.agree off0 = true := by
  obtain ⟨u, y, x, sa, sc, rfl, _, _, hw, _, _, hf, hg, _, _, _, hc⟩ := h.ex
  have ht := Okt.of_fault h.ft
  exact ⟨_, u, rfl, hw, cnted_small ht x nw z 0, hf, (Liv.of ht hg hc hf).agree⟩
def agN (t : Tb) : Int := if t.agree off0 = true then 0 else 9
theorem bounds_res (x : WV) (t : Tb) (hs : t.small) (w : World) (hl : WL w x t) (hf : t.fault = 0) :
    Calls Try.prog 39 #[.agg #[x.cv t, x.bv t, x.rv t, x.nv t]] w fun e w' => ∃ v, e = .returned (.tuple #[v, .int .i64 (agN t)]) ∧ Below w.heap.size w w' := by
  have hng := (Okt.of_fault hf).ng2
  cases ha : t.agree off0
  · refine (Bounds_fail x t hs w hl hf ha).mono ?_
    rintro _ w' ⟨rfl, hb⟩
    exact ⟨_, by unfold agN; rw [ha]; rfl, hb⟩
  · refine (Bounds_ok x t hs w hl hf ha (fun c g hc hg => agree_ne ha (by omega) c g hc hg)).mono ?_
    rintro _ w' ⟨v, rfl, _, hb⟩
    exact ⟨v, by unfold agN; rw [ha]; rfl, hb⟩
/-- The four numbers. -/
theorem ends_four {t : Tb} (hf : t.fault = 0) (ha : t.agree off0 = true) {c g : Nat} (hc : c < t.nc) (hg : g < t.ng) {p q o1 o2 : Int} (hb : bndR t off0 c g = (p, q)) (ho : t.ct c g = (o1, o2)) :
    o1 ≤ p ∧ q ≤ o2 ∧ 0 ≤ p ∧ p ≤ 500 ∧ 0 ≤ q ∧ q ≤ 500 ∧ ∀ k, k < 4 → ∃ n, (#[.int .i64 p, .int .i64 q, .int .i64 (p - 1), .int .i64 (q + 1)] : Array Value)[k]? = some (.int .i64 n) ∧ (k < 2 → o1 ≤ n ∧ n ≤ o2) ∧
      (o1 ≤ n → n ≤ o2 → (t.setC c g (n, n)).fault = 0 ∧ agN (t.setC c g (n, n)) = if k < 2 then 0 else 9) := by
  have ht := Okt.of_fault hf
  have hct := ht.ct c g hc hg
  have hng := ht.ng2
  rw [ho] at hct
  simp only at hct
  have hsub := aft_sub (t := t) (out := off0) (t.nc - 1 - c) c g (t.up off0 c g)
  have hbnd : t.aft off0 (t.nc - 1 - c) c g (t.up off0 c g) = (p, q) := hb
  rw [hbnd] at hsub
  have hup1 : o1 ≤ (t.up off0 c g).1 ∧ (t.up off0 c g).2 ≤ o2 := by
    have e : t.own off0 c g = (o1, o2) := ho
    unfold Tb.up
    rw [e]
    unfold meetR
    simp only
    omega
  obtain ⟨n0, hn0, hr0⟩ := rch_ex ht.w (ups_of ht ha) (t.nc - 1 - c) c g (by omega) hg
  have hmem := (aft_iff ht.w (ups_of ht ha) (t.nc - 1 - c) c g (by omega) hg n0).2 ⟨hn0, hr0⟩
  rw [hbnd] at hmem
  have hpq : p ≤ q := Int.le_trans hmem.1 hmem.2
  simp only at hsub
  have key : ∀ n, o1 ≤ n → n ≤ o2 → (t.setC c g (n, n)).fault = 0 ∧ ((t.setC c g (n, n)).agree off0 = true ↔ inR n (p, q)) := fun n h1 h2 => by
    obtain ⟨e1, e2, _⟩ := ends_iff hf ha hc hg (n := n) (by rw [ho]; exact ⟨h1, h2⟩)
    rw [hb] at e2
    exact ⟨e1, e2⟩
  refine ⟨by omega, by omega, by omega, by omega, by omega, by omega, fun k hk => ?_⟩
  have hk4 : k = 0 ∨ k = 1 ∨ k = 2 ∨ k = 3 := by omega
  rcases hk4 with rfl | rfl | rfl | rfl
  · refine ⟨p, rfl, fun _ => by omega, fun h1 h2 => ⟨(key p h1 h2).1, ?_⟩⟩
    unfold agN; rw [if_pos ((key p h1 h2).2.2 ⟨Int.le_refl _, hpq⟩), if_pos (by omega)]
  · refine ⟨q, rfl, fun _ => by omega, fun h1 h2 => ⟨(key q h1 h2).1, ?_⟩⟩
    unfold agN; rw [if_pos ((key q h1 h2).2.2 ⟨hpq, Int.le_refl _⟩), if_pos (by omega)]
  · refine ⟨p - 1, rfl, fun h => by omega, fun h1 h2 => ⟨(key _ h1 h2).1, ?_⟩⟩
    unfold agN; rw [if_neg (fun h => by have := ((key _ h1 h2).2.1 h).1; simp only at this; omega), if_neg (by omega)]
  · refine ⟨q + 1, rfl, fun h => by omega, fun h1 h2 => ⟨(key _ h1 h2).1, ?_⟩⟩
    unfold agN; rw [if_neg (fun h => by have := ((key _ h1 h2).2.1 h).2; simp only at this; omega), if_neg (by omega)]
set_option maxRecDepth 100000 in
set_option maxHeartbeats 8000000 in
theorem flowEnds_walk (u : WV) (t : Tb) (wv : Value) (nw : Nat) (z : Nat → Int) (wh : Int) (w : World) (h0 : TbLaw w u t) (hw : WordsIn w wv nw z) (hn : nw ≤ maxLen) (hw0 : 0 ≤ wh) (hw1 : wh ≤ 255) :
    Calls Try.prog 6 #[.agg #[u.cv t, u.bv t, u.rv t, u.nv t], wv, .int .u8 wh] w fun e w' => e = .returned (.bool true) ∧ Below w.heap.size w w' := by
  have LV0 := Lib.hid (fun (X : World) (hX : Below w.heap.size w X) => lives_any u t wv nw z 0 h0.big h0.z X (h0.l.below hX) h0.cc h0.cb (hw.below hX) hn (by omega) (by omega))
  have HAW := Lib.hid awake_any
  obtain ⟨wa, wc, rfl⟩ := hw.len
  clear h0 hw hn
  simp only [WV.cv, WV.bv, WV.rv, WV.nv] at LV0 ⊢
  have HA0 : Hid (BF w (w.alloc (.cells #[.slice u.ca t.nc u.cc, .slice u.ba t.nb u.bc, .slice u.ra t.nr u.rc, .slice u.na t.nn u.nc] 25)) [(w.heap.size, #[.slice u.ca t.nc u.cc, .slice u.ba t.nb u.bc, .slice u.ra t.nr u.rc, .slice u.na t.nn u.nc], 25)]) := (BF.base w).alloc _ _
  go_enter Try.func6, Try.ntmps6
  go_wp2_with fail
  refine (LV0.out _ HA0.out.fr).mono ?_
  rintro _ w5 ⟨V1, U1, T3, b, rfl, hb5, hlv⟩
  have HB5 := Lib.hid (HA0.out.below hb5).fr
  have HLR := Lib.hid hlv
  clear hb5 hlv HA0 LV0
  cases b
  · go_wp2_with (go_at_call 18; refine (HAW.out _).mono ?_; rintro _ w9 ⟨rfl, hb9⟩; have HB9 := Lib.hid (below_step (HB5.out.trans ((below_step (below_alloc w5 (.cells #[.slice V1.p0 V1.l0 V1.c0, .slice V1.p1 V1.l1 V1.c1, .slice V1.p2 V1.l2 V1.c2, .slice V1.p3 V1.l3 V1.c3] 25)) (below_alloc _ (.cells #[.slice U1.p0 U1.l0 U1.c0, .slice U1.p1 U1.l1 U1.c1, .slice U1.p2 U1.l2 U1.c2, .slice U1.p3 U1.l3 U1.c3] 75))).mono HB5.out.size)) hb9); clear hb9)
    go_ret
    exact ⟨rfl, HB9.out⟩
  obtain ⟨y, v, hv, hwl, hys, hyf, hya⟩ := (HLR.out rfl).live
  obtain ⟨p0, l0, e0, p1, l1, e1, p2, l2, e2, p3, l3, e3⟩ := V1
  simp only [WV.cv, WV.bv, WV.rv, WV.nv, Value.agg.injEq, Value.slice.injEq, Array.mk.injEq, List.cons.injEq, and_true] at hv
  obtain ⟨⟨rfl, rfl, rfl⟩, ⟨rfl, rfl, rfl⟩, ⟨rfl, rfl, rfl⟩, rfl, rfl, rfl⟩ := hv
  have hok := Okt.of_fault hyf
  have yng2 := hok.ng2; have yng4 := hok.ng4; have ync4 := hok.nc4; have ync1 := hok.nc1
  have HA6 : Hid (BF w ((w5.alloc (.cells #[.slice v.ca y.nc v.cc, .slice v.ba y.nb v.bc, .slice v.ra y.nr v.rc, .slice v.na y.nn v.nc] 25)).alloc (.cells #[.slice U1.p0 U1.l0 U1.c0, .slice U1.p1 U1.l1 U1.c1, .slice U1.p2 U1.l2 U1.c2, .slice U1.p3 U1.l3 U1.c3] 75)) [(w5.heap.size, #[.slice v.ca y.nc v.cc, .slice v.ba y.nb v.bc, .slice v.ra y.nr v.rc, .slice v.na y.nn v.nc], 25)]) := ((((BF.base w).below HB5.out).alloc #[.slice v.ca y.nc v.cc, .slice v.ba y.nb v.bc, .slice v.ra y.nr v.rc, .slice v.na y.nn v.nc] 25).below (below_alloc _ _)).sub (List.forall_mem_cons.2 ⟨.head _, List.forall_mem_nil _⟩)
  have HB6 : Hid (Below w5.heap.size w5 ((w5.alloc (.cells #[.slice v.ca y.nc v.cc, .slice v.ba y.nb v.bc, .slice v.ra y.nr v.rc, .slice v.na y.nn v.nc] 25)).alloc (.cells #[.slice U1.p0 U1.l0 U1.c0, .slice U1.p1 U1.l1 U1.c1, .slice U1.p2 U1.l2 U1.c2, .slice U1.p3 U1.l3 U1.c3] 75))) := below_step (below_alloc _ _) (below_alloc _ _)
  obtain ⟨c, hcq, hc⟩ : ∃ c : Nat, wh % (y.nc : Int) = (c : Int) ∧ c < y.nc := ⟨(wh % (y.nc : Int)).toNat, by have := Int.emod_nonneg wh (show (y.nc : Int) ≠ 0 by omega); omega, by have := Int.emod_lt_of_pos wh (show (0 : Int) < (y.nc : Int) by omega); have := Int.emod_nonneg wh (show (y.nc : Int) ≠ 0 by omega); omega⟩
  obtain ⟨g, hgq, hg⟩ : ∃ g : Nat, wh / 8 % (y.ng : Int) = (g : Int) ∧ g < y.ng := ⟨(wh / 8 % (y.ng : Int)).toNat, by have := Int.emod_nonneg (wh / 8) (show (y.ng : Int) ≠ 0 by omega); omega, by have := Int.emod_lt_of_pos (wh / 8) (show (0 : Int) < (y.ng : Int) by omega); have := Int.emod_nonneg (wh / 8) (show (y.ng : Int) ≠ 0 by omega); omega⟩
  have HTB : Hid (∀ X, Below w5.heap.size w5 X → Calls Try.prog 20 #[.agg #[v.cv y, v.bv y, v.rv y, v.nv y]] X fun e w' => ∃ v' : WV, e = .returned (.agg #[v'.cv y, v'.bv y, v'.rv y, v'.nv y]) ∧ WL w' v' y ∧ Below X.heap.size X w') := fun X hX => table_any v y hys X (hwl.below hX)
  have HGR : Hid (∀ X, Below w5.heap.size w5 X → Calls Try.prog 23 #[.agg #[v.cv y, v.bv y, v.rv y, v.nv y]] X fun e w' => e = .returned (.int .i64 (y.ng : Nat)) ∧ Below X.heap.size X w') := fun X hX => rgroups_any _ y X (hwl.below hX).tb hys
  have HBD : Hid (∀ (X : World) (v' : WV), WL X v' y → Calls Try.prog 39 #[.agg #[v'.cv y, v'.bv y, v'.rv y, v'.nv y]] X fun e w' => ∃ b, e = .returned (.tuple #[b, .int .i64 0]) ∧ RowsAt w' b y.nc (fun _ => y.ng) (bndR y off0) ∧ Below X.heap.size X w') := fun X v' h => Bounds_ok v' y hys X h hyf hya (fun c g hc hg => agree_ne hya (by omega) c g hc hg)
  have HWI : Hid (∀ X (n : Int), Below w5.heap.size w5 X → Calls Try.prog 40 #[.agg #[v.cv y, v.bv y, v.rv y, v.nv y], .int .i64 c, .int .i64 g, .agg #[.int .i64 n, .int .i64 n]] X fun e w' => ∃ ca cc, e = .returned (.agg #[.slice ca y.nc cc, v.bv y, v.rv y, v.nv y]) ∧ WLi w' { v with ca := ca, cc := cc } (y.setC c g (n, n)) ∧ Below X.heap.size X w') := fun X n hX => with_any v y c g n n X (hwl.below hX) hc (by rw [hok.rl c hc]; exact hg) (by omega) (by rw [hok.rl c hc]; omega)
  have HTW : Hid (∀ X ca cc (n : Int), WLi X { v with ca := ca, cc := cc } (y.setC c g (n, n)) → Calls Try.prog 20 #[.agg #[.slice ca y.nc cc, v.bv y, v.rv y, v.nv y]] X fun e w' => ∃ v' : WV, e = .returned (.agg #[v'.cv y, v'.bv y, v'.rv y, v'.nv y]) ∧ WL w' v' (y.setC c g (n, n)) ∧ Below X.heap.size X w') := fun X ca cc n h => table_any { v with ca := ca, cc := cc } (y.setC c g (n, n)) hys X h
  have HBW : Hid (∀ (X : World) (v' : WV) (n : Int), (y.setC c g (n, n)).fault = 0 → WL X v' (y.setC c g (n, n)) → Calls Try.prog 39 #[.agg #[v'.cv y, v'.bv y, v'.rv y, v'.nv y]] X fun e w' => ∃ b, e = .returned (.tuple #[b, .int .i64 (agN (y.setC c g (n, n)))]) ∧ Below X.heap.size X w') := fun X v' n hf h => bounds_res v' (y.setC c g (n, n)) hys X h hf
  simp only [WV.cv, WV.bv, WV.rv, WV.nv] at HTB HGR HBD HWI HTW HBW
  obtain ⟨p, q, hpq⟩ : ∃ p q, bndR y off0 c g = (p, q) := ⟨_, _, rfl⟩
  obtain ⟨o1, o2, hCT⟩ : ∃ o1 o2, y.ct c g = (o1, o2) := ⟨_, _, rfl⟩
  obtain ⟨b1, b2, b3, b4, b5, b6, hfour⟩ := ends_four hyf hya hc hg hpq hCT
  have HFOUR := Lib.hid hfour
  obtain ⟨ca', co, ra1, rc1, hca, hcb, hx1, hr1⟩ := hwl.1.at (k := c) hc
  obtain ⟨rb, ro, rfl, hrb, x1, x2⟩ := hr1.at (k := g) (by rw [hok.rl c hc]; exact hg)
  rw [hCT] at x1 x2
  simp only at x1 x2
  have gk : (g : Int) < (y.rl c : Int) := by rw [hok.rl c hc]; omega
  have HX := Lib.hid (And.intro hx1 (And.intro x1 x2)); have HCA := Lib.hid hca
  clear hfour hx1 x1 x2 hr1 hca hCT hwl hya hyf hok HLR
  have ci : (0 : Int) ≤ (c : Int) := by omega
  have cj : (c : Int) < (y.nc : Int) := by omega
  have gi : (0 : Int) ≤ (g : Int) := by omega
  have gj : (g : Int) < (y.ng : Int) := by omega
  have n1 : ¬ y.nc = 0 := by omega
  have n2 : ¬ y.ng = 0 := by omega
  have n3 : (IntKind.i64.wrap wh).tmod (y.nc : Int) = (c : Int) := by rw [IntWalk.i64_in _ (by omega), Int.tmod_eq_emod_of_nonneg hw0]; exact hcq
  have n4 : (IntKind.i64.wrap ((IntKind.i64.wrap wh).tdiv 8)).tmod (y.ng : Int) = (g : Int) := by
    rw [IntWalk.i64_in wh (by omega), Int.tdiv_eq_ediv_of_nonneg hw0, IntWalk.i64_in _ (by omega), Int.tmod_eq_emod_of_nonneg (by omega)]; exact hgq
  have k0 := HA6.out.cell (.head _) 0
  have k1 := HA6.out.cell (.head _) 1
  have k2 := HA6.out.cell (.head _) 2
  have k3 := HA6.out.cell (.head _) 3
  go_wp2_with fail
  refine (HTB.out _ HB6.out).mono ?_
  rintro _ w7 ⟨v7, rfl, hl7, hb7⟩
  go_wp2_with fail
  refine (HBD.out _ _ hl7).mono ?_
  rintro _ w8 ⟨bv, rfl, hrows, hb8⟩
  obtain ⟨ba, bc, rfl⟩ := hrows.toIn.slice
  have HB8 := Lib.hid (below_step (below_step HB6.out hb7) hb8)
  have HA8 := Lib.hid ((HA6.out.below hb7).below hb8)
  obtain ⟨bb, bo, rb2, rc2, rfl, hbb, hx2, hr2⟩ := hrows.at (k := c) hc
  obtain ⟨rb3, ro3, rfl, hrb3, x3, x4⟩ := hr2.toIn.at (k := g) hg
  rw [hpq] at x3 x4
  simp only at x3 x4
  have HXB := Lib.hid (And.intro hx2 (And.intro x3 x4))
  clear hl7 hb7 hb8 hrows HBD k0 k1 k2 k3 HA6 HB6 HB5 hx2 x3 x4 hr2 hpq HTB
  have k0 := HA8.out.cell (.head _) 0
  go_wp2_with fail
  clear k0
  have HC7 : Hid (∀ X, Below w8.heap.size w8 X → X.cell? ⟨w5.heap.size, 0, none⟩ = some (.slice v.ca y.nc v.cc) ∧ X.cell? ⟨w5.heap.size, 1, none⟩ = some (.slice v.ba y.nb v.bc) ∧ X.cell? ⟨w5.heap.size, 2, none⟩ = some (.slice v.ra y.nr v.rc) ∧ X.cell? ⟨w5.heap.size, 3, none⟩ = some (.slice v.na y.nn v.nc)) := fun X hX => by
    have hA := HA8.out.below hX
    exact ⟨hA.cell (.head _) 0, hA.cell (.head _) 1, hA.cell (.head _) 2, hA.cell (.head _) 3⟩
  go_cut [13, 14] (fun s13 s14 wx => s13 = .int .i64 c ∧ s14 = .int .i64 g ∧ Below w8.heap.size w8 wx)
  case first =>
    have HAX : Hid (Below w8.heap.size w8 w8.drew) := (Below.refl _ _).drew
    refine wp_region_held_drew (S := fun X => X.cell? ⟨w5.heap.size, 0, none⟩ = some (.slice v.ca y.nc v.cc) ∧ X.cell? ⟨w5.heap.size, 1, none⟩ = some (.slice v.ba y.nb v.bc) ∧ X.cell? ⟨w5.heap.size, 2, none⟩ = some (.slice v.ra y.nr v.rc) ∧ X.cell? ⟨w5.heap.size, 3, none⟩ = some (.slice v.na y.nn v.nc)) (by kernel_rfl) (HC7.out _ HAX.out) (fun hS => ?_)
    generalize w8.drew = X at *
    refine wpAnyH_take (i := 0) (oi := ⟨some 47, _, _, _, _, _⟩) (v := ?_) rfl (by kernel_rfl) (by kernel_rfl) (by kernel_rfl) (fun _ _ _ h => h) (Or.inl ⟨by rfl, ?_⟩) hS ?_
    rotate_left
    · rintro W' ⟨z0, z1, z2, z3⟩; go_simp; try with_reducible rfl
    try simp only [Act.put, putA, putZ, putS]
    refine wpAnyH_take (i := 1) (oi := ⟨some 48, _, _, _, _, _⟩) (v := ?_) rfl (by kernel_rfl) (by kernel_rfl) (by kernel_rfl) (fun _ _ _ h => h) (Or.inl ⟨by rfl, ?_⟩) hS ?_
    rotate_left
    · rintro W' ⟨z0, z1, z2, z3⟩; go_simp; try with_reducible rfl
    try simp only [Act.put, putA, putZ, putS]
    refine wpAnyH_take (i := 2) (oi := ⟨some 49, _, _, _, _, _⟩) (v := ?_) rfl (by kernel_rfl) (by kernel_rfl) (by kernel_rfl) (fun _ _ _ h => h) (Or.inl ⟨by rfl, ?_⟩) hS ?_
    rotate_left
    · rintro W' ⟨z0, z1, z2, z3⟩; go_simp; try with_reducible rfl
    try simp only [Act.put, putA, putZ, putS]
    refine wpAnyH_take (i := 3) (oi := ⟨some 50, _, _, _, _, _⟩) (v := ?_) rfl (by kernel_rfl) (by kernel_rfl) (by kernel_rfl) (fun _ _ _ h => h) (Or.inl ⟨by rfl, ?_⟩) hS ?_
    rotate_left
    · rintro W' ⟨z0, z1, z2, z3⟩; go_simp; try with_reducible rfl
    try simp only [Act.put, putA, putZ, putS]
    refine wpAnyH_take (i := 4) (oi := ⟨some 51, _, _, _, _, _⟩) (v := ?_) rfl (by kernel_rfl) (by kernel_rfl) (by kernel_rfl) (fun _ _ _ h => h) (Or.inl ⟨by rfl, ?_⟩) hS ?_
    rotate_left
    · rintro W' ⟨z0, z1, z2, z3⟩; go_simp; try with_reducible rfl
    try simp only [Act.put, putA, putZ, putS]
    refine wpAnyH_take (i := 5) (oi := ⟨some 52, _, _, _, _, _⟩) (v := .int .i64 c) rfl (by kernel_rfl) (by kernel_rfl) (by kernel_rfl) (fun _ _ _ h => h) (Or.inl ⟨by rfl, ?_⟩) hS ?_
    · rintro W' ⟨z0, z1, z2, z3⟩; go_simp
    try simp only [Act.put, putA, putZ, putS]
    refine wpAnyH_take (i := 6) (oi := ⟨some 53, _, _, _, _, _⟩) (v := ?_) rfl (by kernel_rfl) (by kernel_rfl) (by kernel_rfl) (fun _ _ _ h => h) (Or.inl ⟨by rfl, ?_⟩) hS ?_
    rotate_left
    · rintro W' ⟨z0, z1, z2, z3⟩; go_simp; try with_reducible rfl
    try simp only [Act.put, putA, putZ, putS]
    refine wpAnyH_take (i := 7) (oi := ⟨some 54, _, _, _, _, _⟩) (v := ?_) rfl (by kernel_rfl) (by kernel_rfl) (by kernel_rfl) (fun _ _ _ h => h) (Or.inl ⟨by rfl, ?_⟩) hS ?_
    rotate_left
    · rintro W' ⟨z0, z1, z2, z3⟩; go_simp; try with_reducible rfl
    try simp only [Act.put, putA, putZ, putS]
    refine wpAnyH_take (i := 8) (oi := ⟨some 55, _, _, _, _, _⟩) (v := ?_) rfl (by kernel_rfl) (by kernel_rfl) (by kernel_rfl) (fun _ _ _ h => h) (Or.inl ⟨by rfl, ?_⟩) hS ?_
    rotate_left
    · rintro W' ⟨z0, z1, z2, z3⟩; go_simp; try with_reducible rfl
    try simp only [Act.put, putA, putZ, putS]
    refine wpAnyH_take (i := 9) (oi := ⟨some 56, _, _, _, _, _⟩) (v := ?_) rfl (by kernel_rfl) (by kernel_rfl) (by kernel_rfl) (fun _ _ _ h => h) (Or.inl ⟨by rfl, ?_⟩) hS ?_
    rotate_left
    · rintro W' ⟨z0, z1, z2, z3⟩; go_simp; try with_reducible rfl
    try simp only [Act.put, putA, putZ, putS]
    refine wpAnyH_ready (rs := [10]) (by kernel_rfl) (by simp) ?_
    refine AllReadyH.cons (o := ⟨some 57, _, _, _, _, _⟩) rfl (fun K hK => ?_) ?_
    ·
     go_simp
     refine (HGR.out _ (below_step HB8.out HAX.out)).mono ?_
     rintro _ X0 ⟨rfl, hb0⟩
     (try go_wp2_with fail)
     have HA0 := Lib.hid (below_step HAX.out hb0)
     refine hK.out _ _ (HC7.out X0 HA0.out) (fun hS => ?_)
     clear hK K
     try simp only [Act.put, putA, putZ, putS]
     clear hb0
     refine wpAnyH_take (i := 11) (oi := ⟨some 58, _, _, _, _, _⟩) (v := .int .i64 g) rfl (by kernel_rfl) (by kernel_rfl) (by kernel_rfl) (fun _ _ _ h => h) (Or.inl ⟨by rfl, ?_⟩) hS ?_
     · rintro W' ⟨z0, z1, z2, z3⟩; go_simp
     try simp only [Act.put, putA, putZ, putS]
     refine wpAnyH_take (i := 12) (oi := ⟨some 13, _, _, _, _, _⟩) (v := ?_) rfl (by kernel_rfl) (by kernel_rfl) (by kernel_rfl) (fun _ _ _ h => h) (Or.inl ⟨by rfl, ?_⟩) hS ?_
     rotate_left
     · rintro W' ⟨z0, z1, z2, z3⟩; go_simp; try with_reducible rfl
     try simp only [Act.put, putA, putZ, putS]
     refine wpAnyH_take (i := 13) (oi := ⟨some 14, _, _, _, _, _⟩) (v := ?_) rfl (by kernel_rfl) (by kernel_rfl) (by kernel_rfl) (fun _ _ _ h => h) (Or.inl ⟨by rfl, ?_⟩) hS ?_
     rotate_left
     · rintro W' ⟨z0, z1, z2, z3⟩; go_simp; try with_reducible rfl
     try simp only [Act.put, putA, putZ, putS]
     refine wpAnyH_done (by kernel_rfl) ?_ _
     go_wp2_with fail
     go_meet
     exact ⟨rfl, rfl, HA0.out⟩
    exact AllReadyH.nil
  rename World => w9
  obtain ⟨rfl, rfl, hb9⟩ := hcut
  have HB9 := Lib.hid hb9
  clear hb9 hcq hgq n1 n2 n3 n4
  go_wp2_with fail
  have HC8 : Hid (∀ X, Below w8.heap.size w8 X → X.cell? ⟨bb, bo + c, none⟩ = some (.slice (some ⟨rb3, ro3, none⟩) y.ng rc2) ∧ X.cell? ⟨w5.heap.size, 0, none⟩ = some (.slice v.ca y.nc v.cc) ∧ X.cell? ⟨w5.heap.size, 1, none⟩ = some (.slice v.ba y.nb v.bc) ∧ X.cell? ⟨w5.heap.size, 2, none⟩ = some (.slice v.ra y.nr v.rc) ∧ X.cell? ⟨w5.heap.size, 3, none⟩ = some (.slice v.na y.nn v.nc)) := fun X hX => by
    obtain ⟨q0, q1, q2, q3⟩ := HC7.out X hX
    exact ⟨kept hX hbb HXB.out.1, q0, q1, q2, q3⟩
  go_cut [66] (fun s66 wx => s66 = .bool false ∧ Below w8.heap.size w8 wx)
  case first =>
    have HAX : Hid (Below w8.heap.size w8 w9.drew) := HB9.out.drew
    refine wp_region_held_drew (S := fun X => X.cell? ⟨bb, bo + c, none⟩ = some (.slice (some ⟨rb3, ro3, none⟩) y.ng rc2) ∧ X.cell? ⟨w5.heap.size, 0, none⟩ = some (.slice v.ca y.nc v.cc) ∧ X.cell? ⟨w5.heap.size, 1, none⟩ = some (.slice v.ba y.nb v.bc) ∧ X.cell? ⟨w5.heap.size, 2, none⟩ = some (.slice v.ra y.nr v.rc) ∧ X.cell? ⟨w5.heap.size, 3, none⟩ = some (.slice v.na y.nn v.nc)) (by kernel_rfl) (HC8.out _ HAX.out) (fun hS => ?_)
    generalize w9.drew = X at *
    refine wpAnyH_take (i := 0) (oi := ⟨some 59, _, _, _, _, _⟩) (v := ?_) rfl (by kernel_rfl) (by kernel_rfl) (by kernel_rfl) (fun _ _ _ h => h) (Or.inl ⟨by rfl, ?_⟩) hS ?_
    rotate_left
    · rintro W' ⟨z0, z1, z2, z3, z4⟩; go_simp; try with_reducible rfl
    try simp only [Act.put, putA, putZ, putS]
    refine wpAnyH_take (i := 1) (oi := ⟨some 60, _, _, _, _, _⟩) (v := ?_) rfl (by kernel_rfl) (by kernel_rfl) (by kernel_rfl) (fun _ _ _ h => h) (Or.inl ⟨by rfl, ?_⟩) hS ?_
    rotate_left
    · rintro W' ⟨z0, z1, z2, z3, z4⟩; go_simp; try with_reducible rfl
    try simp only [Act.put, putA, putZ, putS]
    refine wpAnyH_take (i := 2) (oi := ⟨some 61, _, _, _, _, _⟩) (v := ?_) rfl (by kernel_rfl) (by kernel_rfl) (by kernel_rfl) (fun _ _ _ h => h) (Or.inl ⟨by rfl, ?_⟩) hS ?_
    rotate_left
    · rintro W' ⟨z0, z1, z2, z3, z4⟩; go_simp; try with_reducible rfl
    try simp only [Act.put, putA, putZ, putS]
    refine wpAnyH_take (i := 3) (oi := ⟨some 62, _, _, _, _, _⟩) (v := ?_) rfl (by kernel_rfl) (by kernel_rfl) (by kernel_rfl) (fun _ _ _ h => h) (Or.inl ⟨by rfl, ?_⟩) hS ?_
    rotate_left
    · rintro W' ⟨z0, z1, z2, z3, z4⟩; go_simp; try with_reducible rfl
    try simp only [Act.put, putA, putZ, putS]
    refine wpAnyH_take (i := 4) (oi := ⟨some 63, _, _, _, _, _⟩) (v := ?_) rfl (by kernel_rfl) (by kernel_rfl) (by kernel_rfl) (fun _ _ _ h => h) (Or.inl ⟨by rfl, ?_⟩) hS ?_
    rotate_left
    · rintro W' ⟨z0, z1, z2, z3, z4⟩; go_simp; try with_reducible rfl
    try simp only [Act.put, putA, putZ, putS]
    refine wpAnyH_take (i := 5) (oi := ⟨some 64, _, _, _, _, _⟩) (v := ?_) rfl (by kernel_rfl) (by kernel_rfl) (by kernel_rfl) (fun _ _ _ h => h) (Or.inl ⟨by rfl, ?_⟩) hS ?_
    rotate_left
    · rintro W' ⟨z0, z1, z2, z3, z4⟩; go_simp; try with_reducible rfl
    try simp only [Act.put, putA, putZ, putS]
    refine wpAnyH_ready (rs := [6]) (by kernel_rfl) (by simp) ?_
    refine AllReadyH.cons (o := ⟨some 65, _, _, _, _, _⟩) rfl (fun K hK => ?_) ?_
    ·
     go_simp
     refine (HGR.out _ (below_step HB8.out HAX.out)).mono ?_
     rintro _ X0 ⟨rfl, hb0⟩
     (try go_wp2_with fail)
     have HA0 := Lib.hid (below_step HAX.out hb0)
     refine hK.out _ _ (HC8.out X0 HA0.out) (fun hS => ?_)
     clear hK K
     try simp only [Act.put, putA, putZ, putS]
     clear hb0
     refine wpAnyH_take (i := 7) (oi := ⟨some 66, _, _, _, _, _⟩) (v := ?_) rfl (by kernel_rfl) (by kernel_rfl) (by kernel_rfl) (fun _ _ _ h => h) (Or.inl ⟨by rfl, ?_⟩) hS ?_
     rotate_left
     · rintro W' ⟨z0, z1, z2, z3, z4⟩; go_simp; try with_reducible rfl
     try simp only [Act.put, putA, putZ, putS]
     refine wpAnyH_done (by kernel_rfl) ?_ _
     go_wp2_with fail
     go_meet
     exact ⟨by simp, HA0.out⟩
    exact AllReadyH.nil
  rename World => w10
  obtain ⟨rfl, hb10⟩ := hcut
  have HB10 := Lib.hid hb10
  clear hb10 HB9 HC8
  have k0 : w10.cell? ⟨w5.heap.size, 0, none⟩ = some (.slice (some ⟨ca', co, none⟩) y.nc v.cc) := by rw [← HCA.out]; exact (HC7.out _ HB10.out).1
  have k1 := kept (below_step HB8.out HB10.out) hcb HX.out.1
  have k2 := kept (below_step HB8.out HB10.out) hrb HX.out.2.1
  have k3 := kept (below_step HB8.out HB10.out) hrb HX.out.2.2
  go_wp2_with fail
  have HA10 := Lib.hid (((HA8.out.below HB10.out).alloc #[.int .i64 o1, .int .i64 o2] 43))
  have HB11 : Hid (Below w8.heap.size w8 (w10.alloc (.cells #[.int .i64 o1, .int .i64 o2] 43))) := below_step HB10.out (below_alloc _ _)
  clear k0 k1 k2 k3 HB10
  generalize w10.heap.size = ob at *
  generalize (w10.alloc (.cells #[.int .i64 o1, .int .i64 o2] 43)) = w11 at *
  go_loopw [16] (fun i wr => ∃ k : Nat, k ≤ 4 ∧ i = .int .i64 k ∧ Below w11.heap.size w11 wr) (fun i _ => 4 - (intOf i).toNat)
  case atStart => exact ⟨0, by omega, rfl, Below.refl _ _⟩
  case round =>
    obtain ⟨k, hk, rfl, hbl⟩ := hrel
    have HBL := Lib.hid hbl
    clear hbl
    have ki : (0 : Int) ≤ (k : Int) := by omega
    by_cases hlt : k < 4
    · have kj : (k : Int) < 4 := by omega
      obtain ⟨n, hnk, hin, hfa⟩ := HFOUR.out k hlt
      have wq1 : IntKind.i64.wrap (p - 1) = p - 1 := IntWalk.i64_in _ (by omega)
      have wq2 : IntKind.i64.wrap (q + 1) = q + 1 := IntWalk.i64_in _ (by omega)
      have HC14 : Hid (∀ X, Below wr.heap.size wr X → X.cell? ⟨bb, bo + c, none⟩ = some (.slice (some ⟨rb3, ro3, none⟩) y.ng rc2) ∧ X.cell? ⟨rb3, ro3 + g * 2, none⟩ = some (.int .i64 p) ∧ X.cell? ⟨rb3, ro3 + g * 2 + 1, none⟩ = some (.int .i64 q)) := fun X hX => by
        have h9 := below_step (below_step HB11.out HBL.out) hX
        exact ⟨kept h9 hbb HXB.out.1, kept h9 hrb3 HXB.out.2.1, kept h9 hrb3 HXB.out.2.2⟩
      go_wp2_with fail
      go_cut [17] (fun s17 wx => s17 = .int .i64 n ∧ Below wr.heap.size wr wx)
      case first =>
        have HAX : Hid (Below wr.heap.size wr wr.drew) := (Below.refl _ _).drew
        refine wp_region_held_drew (S := fun X => X.cell? ⟨bb, bo + c, none⟩ = some (.slice (some ⟨rb3, ro3, none⟩) y.ng rc2) ∧ X.cell? ⟨rb3, ro3 + g * 2, none⟩ = some (.int .i64 p) ∧ X.cell? ⟨rb3, ro3 + g * 2 + 1, none⟩ = some (.int .i64 q)) (by kernel_rfl) (HC14.out _ HAX.out) (fun hS => ?_)
        generalize wr.drew = X at *
        refine wpAnyH_take (i := 0) (oi := ⟨some 79, _, _, _, _, _⟩) (v := ?_) rfl (by kernel_rfl) (by kernel_rfl) (by kernel_rfl) (fun _ _ _ h => h) (Or.inl ⟨by rfl, ?_⟩) hS ?_
        rotate_left
        · rintro W' ⟨z0, z1, z2⟩; go_simp; try with_reducible rfl
        try simp only [Act.put, putA, putZ, putS]
        refine wpAnyH_take (i := 1) (oi := ⟨some 80, _, _, _, _, _⟩) (v := ?_) rfl (by kernel_rfl) (by kernel_rfl) (by kernel_rfl) (fun _ _ _ h => h) (Or.inl ⟨by rfl, ?_⟩) hS ?_
        rotate_left
        · rintro W' ⟨z0, z1, z2⟩; go_simp; try with_reducible rfl
        try simp only [Act.put, putA, putZ, putS]
        refine wpAnyH_take (i := 2) (oi := ⟨some 81, _, _, _, _, _⟩) (v := ?_) rfl (by kernel_rfl) (by kernel_rfl) (by kernel_rfl) (fun _ _ _ h => h) (Or.inl ⟨by rfl, ?_⟩) hS ?_
        rotate_left
        · rintro W' ⟨z0, z1, z2⟩; go_simp; try with_reducible rfl
        try simp only [Act.put, putA, putZ, putS]
        refine wpAnyH_take (i := 3) (oi := ⟨some 82, _, _, _, _, _⟩) (v := ?_) rfl (by kernel_rfl) (by kernel_rfl) (by kernel_rfl) (fun _ _ _ h => h) (Or.inl ⟨by rfl, ?_⟩) hS ?_
        rotate_left
        · rintro W' ⟨z0, z1, z2⟩; go_simp; try with_reducible rfl
        try simp only [Act.put, putA, putZ, putS]
        refine wpAnyH_take (i := 4) (oi := ⟨some 83, _, _, _, _, _⟩) (v := ?_) rfl (by kernel_rfl) (by kernel_rfl) (by kernel_rfl) (fun _ _ _ h => h) (Or.inl ⟨by rfl, ?_⟩) hS ?_
        rotate_left
        · rintro W' ⟨z0, z1, z2⟩; go_simp; try with_reducible rfl
        try simp only [Act.put, putA, putZ, putS]
        refine wpAnyH_take (i := 5) (oi := ⟨some 84, _, _, _, _, _⟩) (v := ?_) rfl (by kernel_rfl) (by kernel_rfl) (by kernel_rfl) (fun _ _ _ h => h) (Or.inl ⟨by rfl, ?_⟩) hS ?_
        rotate_left
        · rintro W' ⟨z0, z1, z2⟩; go_simp; try with_reducible rfl
        try simp only [Act.put, putA, putZ, putS]
        refine wpAnyH_take (i := 6) (oi := ⟨some 85, _, _, _, _, _⟩) (v := ?_) rfl (by kernel_rfl) (by kernel_rfl) (by kernel_rfl) (fun _ _ _ h => h) (Or.inl ⟨by rfl, ?_⟩) hS ?_
        rotate_left
        · rintro W' ⟨z0, z1, z2⟩; go_simp; try with_reducible rfl
        try simp only [Act.put, putA, putZ, putS]
        refine wpAnyH_take (i := 7) (oi := ⟨some 86, _, _, _, _, _⟩) (v := ?_) rfl (by kernel_rfl) (by kernel_rfl) (by kernel_rfl) (fun _ _ _ h => h) (Or.inl ⟨by rfl, ?_⟩) hS ?_
        rotate_left
        · rintro W' ⟨z0, z1, z2⟩; go_simp; try with_reducible rfl
        try simp only [Act.put, putA, putZ, putS]
        refine wpAnyH_take (i := 8) (oi := ⟨some 87, _, _, _, _, _⟩) (v := ?_) rfl (by kernel_rfl) (by kernel_rfl) (by kernel_rfl) (fun _ _ _ h => h) (Or.inl ⟨by rfl, ?_⟩) hS ?_
        rotate_left
        · rintro W' ⟨z0, z1, z2⟩; go_simp; try with_reducible rfl
        try simp only [Act.put, putA, putZ, putS]
        refine wpAnyH_take (i := 9) (oi := ⟨some 88, _, _, _, _, _⟩) (v := ?_) rfl (by kernel_rfl) (by kernel_rfl) (by kernel_rfl) (fun _ _ _ h => h) (Or.inl ⟨by rfl, ?_⟩) hS ?_
        rotate_left
        · rintro W' ⟨z0, z1, z2⟩; go_simp; try with_reducible rfl
        try simp only [Act.put, putA, putZ, putS]
        refine wpAnyH_take (i := 10) (oi := ⟨some 89, _, _, _, _, _⟩) (v := ?_) rfl (by kernel_rfl) (by kernel_rfl) (by kernel_rfl) (fun _ _ _ h => h) (Or.inl ⟨by rfl, ?_⟩) hS ?_
        rotate_left
        · rintro W' ⟨z0, z1, z2⟩; go_simp; try with_reducible rfl
        try simp only [Act.put, putA, putZ, putS]
        refine wpAnyH_take (i := 11) (oi := ⟨some 90, _, _, _, _, _⟩) (v := ?_) rfl (by kernel_rfl) (by kernel_rfl) (by kernel_rfl) (fun _ _ _ h => h) (Or.inl ⟨by rfl, ?_⟩) hS ?_
        rotate_left
        · rintro W' ⟨z0, z1, z2⟩; go_simp; try with_reducible rfl
        try simp only [Act.put, putA, putZ, putS]
        refine wpAnyH_take (i := 12) (oi := ⟨some 91, _, _, _, _, _⟩) (v := ?_) rfl (by kernel_rfl) (by kernel_rfl) (by kernel_rfl) (fun _ _ _ h => h) (Or.inl ⟨by rfl, ?_⟩) hS ?_
        rotate_left
        · rintro W' ⟨z0, z1, z2⟩; go_simp; try with_reducible rfl
        try simp only [Act.put, putA, putZ, putS]
        refine wpAnyH_take (i := 13) (oi := ⟨some 92, _, _, _, _, _⟩) (v := ?_) rfl (by kernel_rfl) (by kernel_rfl) (by kernel_rfl) (fun _ _ _ h => h) (Or.inl ⟨by rfl, ?_⟩) hS ?_
        rotate_left
        · rintro W' ⟨z0, z1, z2⟩; go_simp; try with_reducible rfl
        try simp only [Act.put, putA, putZ, putS]
        refine wpAnyH_take (i := 14) (oi := ⟨some 93, _, _, _, _, _⟩) (v := ?_) rfl (by kernel_rfl) (by kernel_rfl) (by kernel_rfl) (fun _ _ _ h => h) (Or.inl ⟨by rfl, ?_⟩) hS ?_
        rotate_left
        · rintro W' ⟨z0, z1, z2⟩; go_simp; try with_reducible rfl
        try simp only [Act.put, putA, putZ, putS]
        refine wpAnyH_take (i := 15) (oi := ⟨some 94, _, _, _, _, _⟩) (v := ?_) rfl (by kernel_rfl) (by kernel_rfl) (by kernel_rfl) (fun _ _ _ h => h) (Or.inl ⟨by rfl, ?_⟩) hS ?_
        rotate_left
        · rintro W' ⟨z0, z1, z2⟩; go_simp; try with_reducible rfl
        try simp only [Act.put, putA, putZ, putS]
        refine wpAnyH_take (i := 16) (oi := ⟨some 95, _, _, _, _, _⟩) (v := ?_) rfl (by kernel_rfl) (by kernel_rfl) (by kernel_rfl) (fun _ _ _ h => h) (Or.inl ⟨by rfl, ?_⟩) hS ?_
        rotate_left
        · rintro W' ⟨z0, z1, z2⟩; go_simp; try with_reducible rfl
        try simp only [Act.put, putA, putZ, putS]
        refine wpAnyH_take (i := 17) (oi := ⟨some 96, _, _, _, _, _⟩) (v := ?_) rfl (by kernel_rfl) (by kernel_rfl) (by kernel_rfl) (fun _ _ _ h => h) (Or.inl ⟨by rfl, ?_⟩) hS ?_
        rotate_left
        · rintro W' ⟨z0, z1, z2⟩; go_simp; try with_reducible rfl
        try simp only [Act.put, putA, putZ, putS]
        refine wpAnyH_take (i := 18) (oi := ⟨some 97, _, _, _, _, _⟩) (v := ?_) rfl (by kernel_rfl) (by kernel_rfl) (by kernel_rfl) (fun _ _ _ h => h) (Or.inl ⟨by rfl, ?_⟩) hS ?_
        rotate_left
        · rintro W' ⟨z0, z1, z2⟩; go_simp; try with_reducible rfl
        try simp only [Act.put, putA, putZ, putS]
        refine wpAnyH_take (i := 19) (oi := ⟨some 98, _, _, _, _, _⟩) (v := ?_) rfl (by kernel_rfl) (by kernel_rfl) (by kernel_rfl) (fun _ _ _ h => h) (Or.inl ⟨by rfl, ?_⟩) hS ?_
        rotate_left
        · rintro W' ⟨z0, z1, z2⟩; go_simp; try with_reducible rfl
        try simp only [Act.put, putA, putZ, putS]
        refine wpAnyH_take (i := 20) (oi := ⟨some 99, _, _, _, _, _⟩) (v := ?_) rfl (by kernel_rfl) (by kernel_rfl) (by kernel_rfl) (fun _ _ _ h => h) (Or.inl ⟨by rfl, ?_⟩) hS ?_
        rotate_left
        · rintro W' ⟨z0, z1, z2⟩; go_simp; try with_reducible rfl
        try simp only [Act.put, putA, putZ, putS]
        refine wpAnyH_take (i := 21) (oi := ⟨some 100, _, _, _, _, _⟩) (v := ?_) rfl (by kernel_rfl) (by kernel_rfl) (by kernel_rfl) (fun _ _ _ h => h) (Or.inl ⟨by rfl, ?_⟩) hS ?_
        rotate_left
        · rintro W' ⟨z0, z1, z2⟩; go_simp; try with_reducible rfl
        try simp only [Act.put, putA, putZ, putS]
        refine wpAnyH_take (i := 22) (oi := ⟨some 101, _, _, _, _, _⟩) (v := ?_) rfl (by kernel_rfl) (by kernel_rfl) (by kernel_rfl) (fun _ _ _ h => h) (Or.inl ⟨by rfl, ?_⟩) hS ?_
        rotate_left
        · rintro W' ⟨z0, z1, z2⟩; go_simp; try with_reducible rfl
        try simp only [Act.put, putA, putZ, putS]
        refine wpAnyH_take (i := 23) (oi := ⟨some 102, _, _, _, _, _⟩) (v := ?_) rfl (by kernel_rfl) (by kernel_rfl) (by kernel_rfl) (fun _ _ _ h => h) (Or.inl ⟨by rfl, ?_⟩) hS ?_
        rotate_left
        · rintro W' ⟨z0, z1, z2⟩; go_simp; try with_reducible rfl
        try simp only [Act.put, putA, putZ, putS]
        refine wpAnyH_take (i := 24) (oi := ⟨some 103, _, _, _, _, _⟩) (v := ?_) rfl (by kernel_rfl) (by kernel_rfl) (by kernel_rfl) (fun _ _ _ h => h) (Or.inl ⟨by rfl, ?_⟩) hS ?_
        rotate_left
        · rintro W' ⟨z0, z1, z2⟩; go_simp; try with_reducible rfl
        try simp only [Act.put, putA, putZ, putS]
        refine wpAnyH_take (i := 25) (oi := ⟨some 104, _, _, _, _, _⟩) (v := ?_) rfl (by kernel_rfl) (by kernel_rfl) (by kernel_rfl) (fun _ _ _ h => h) (Or.inl ⟨by rfl, ?_⟩) hS ?_
        rotate_left
        · rintro W' ⟨z0, z1, z2⟩; go_simp; try with_reducible rfl
        try simp only [Act.put, putA, putZ, putS]
        refine wpAnyH_take (i := 26) (oi := ⟨some 105, _, _, _, _, _⟩) (v := ?_) rfl (by kernel_rfl) (by kernel_rfl) (by kernel_rfl) (fun _ _ _ h => h) (Or.inl ⟨by rfl, ?_⟩) hS ?_
        rotate_left
        · rintro W' ⟨z0, z1, z2⟩; go_simp; try with_reducible rfl
        try simp only [Act.put, putA, putZ, putS]
        refine wpAnyH_take (i := 27) (oi := ⟨some 106, _, _, _, _, _⟩) (v := ?_) rfl (by kernel_rfl) (by kernel_rfl) (by kernel_rfl) (fun _ _ _ h => h) (Or.inl ⟨by rfl, ?_⟩) hS ?_
        rotate_left
        · rintro W' ⟨z0, z1, z2⟩; go_simp; try with_reducible rfl
        try simp only [Act.put, putA, putZ, putS]
        refine wpAnyH_take (i := 28) (oi := ⟨some 107, _, _, _, _, _⟩) (v := ?_) rfl (by kernel_rfl) (by kernel_rfl) (by kernel_rfl) (fun _ _ _ h => h) (Or.inl ⟨by rfl, ?_⟩) hS ?_
        rotate_left
        · rintro W' ⟨z0, z1, z2⟩; go_simp; try with_reducible rfl
        try simp only [Act.put, putA, putZ, putS]
        refine wpAnyH_take (i := 29) (oi := ⟨some 108, _, _, _, _, _⟩) (v := ?_) rfl (by kernel_rfl) (by kernel_rfl) (by kernel_rfl) (fun _ _ _ h => h) (Or.inl ⟨by rfl, ?_⟩) hS ?_
        rotate_left
        · rintro W' ⟨z0, z1, z2⟩; go_simp; try with_reducible rfl
        try simp only [Act.put, putA, putZ, putS]
        refine wpAnyH_take (i := 30) (oi := ⟨some 109, _, _, _, _, _⟩) (v := ?_) rfl (by kernel_rfl) (by kernel_rfl) (by kernel_rfl) (fun _ _ _ h => h) (Or.inl ⟨by rfl, ?_⟩) hS ?_
        rotate_left
        · rintro W' ⟨z0, z1, z2⟩; go_simp; try with_reducible rfl
        try simp only [Act.put, putA, putZ, putS]
        refine wpAnyH_take (i := 31) (oi := ⟨some 110, _, _, _, _, _⟩) (v := ?_) rfl (by kernel_rfl) (by kernel_rfl) (by kernel_rfl) (fun _ _ _ h => h) (Or.inl ⟨by rfl, ?_⟩) hS ?_
        rotate_left
        · rintro W' ⟨z0, z1, z2⟩; go_simp; try with_reducible rfl
        try simp only [Act.put, putA, putZ, putS]
        refine wpAnyH_take (i := 32) (oi := ⟨some 111, _, _, _, _, _⟩) (v := ?_) rfl (by kernel_rfl) (by kernel_rfl) (by kernel_rfl) (fun _ _ _ h => h) (Or.inl ⟨by rfl, ?_⟩) hS ?_
        rotate_left
        · rintro W' ⟨z0, z1, z2⟩; go_simp; try with_reducible rfl
        try simp only [Act.put, putA, putZ, putS]
        refine wpAnyH_take (i := 33) (oi := ⟨some 112, _, _, _, _, _⟩) (v := ?_) rfl (by kernel_rfl) (by kernel_rfl) (by kernel_rfl) (fun _ _ _ h => h) (Or.inl ⟨by rfl, ?_⟩) hS ?_
        rotate_left
        · rintro W' ⟨z0, z1, z2⟩; go_simp; try with_reducible rfl
        try simp only [Act.put, putA, putZ, putS]
        refine wpAnyH_take (i := 35) (oi := ⟨some 114, _, _, _, _, _⟩) (v := ?_) rfl (by kernel_rfl) (by kernel_rfl) (by kernel_rfl) (fun _ _ _ h => h) (Or.inl ⟨by rfl, ?_⟩) hS ?_
        rotate_left
        · rintro W' ⟨z0, z1, z2⟩; go_simp; try with_reducible rfl
        try simp only [Act.put, putA, putZ, putS]
        refine wpAnyH_ready (rs := [34]) (by kernel_rfl) (by simp) ?_
        refine AllReadyH.cons (o := ⟨some 113, _, _, _, _, _⟩) rfl (fun K hK => ?_) ?_
        ·
         go_simp
         have HB1 : Hid (Below wr.heap.size wr (X.alloc (.cells #[.int .i64 p, .int .i64 q, .int .i64 (p - 1), .int .i64 (q + 1)] 3))) := below_step HAX.out (below_alloc _ _)
         have HJ : Hid ((X.alloc (.cells #[.int .i64 p, .int .i64 q, .int .i64 (p - 1), .int .i64 (q + 1)] 3)).heap[X.heap.size]? = some (.cells #[.int .i64 p, .int .i64 q, .int .i64 (p - 1), .int .i64 (q + 1)] 3 (0, 0))) := heap_alloc_new _ _
         refine hK.out _ _ (HC14.out (X.alloc (.cells #[.int .i64 p, .int .i64 q, .int .i64 (p - 1), .int .i64 (q + 1)] 3)) HB1.out) (fun hS => ?_)
         clear hK K
         try simp only [Act.put, putA, putZ, putS]
         generalize X.heap.size = J at *
         generalize (X.alloc (.cells #[.int .i64 p, .int .i64 q, .int .i64 (p - 1), .int .i64 (q + 1)] 3)) = X1 at *
         refine wpAnyH_take (i := 36) (oi := ⟨some 115, _, _, _, _, _⟩) (v := ?_) rfl (by kernel_rfl) (by kernel_rfl) (by kernel_rfl) (fun _ _ _ h => h) (Or.inl ⟨by rfl, ?_⟩) hS ?_
         rotate_left
         · rintro W' ⟨z0, z1, z2⟩; go_simp; try with_reducible rfl
         try simp only [Act.put, putA, putZ, putS]
         refine wpAnyH_ready (rs := [37]) (by kernel_rfl) (by simp) ?_
         refine AllReadyH.cons (o := ⟨some 116, _, _, _, _, _⟩) rfl (fun K hK => ?_) ?_
         ·
          have j0 := (cell_of_row _ _ k _ _ _ HJ.out).trans hnk
          go_simp
          refine hK.out _ _ (HC14.out X1 HB1.out) (fun hS => ?_)
          clear hK K
          try simp only [Act.put, putA, putZ, putS]
          refine wpAnyH_take (i := 38) (oi := ⟨some 17, _, _, _, _, _⟩) (v := ?_) rfl (by kernel_rfl) (by kernel_rfl) (by kernel_rfl) (fun _ _ _ h => h) (Or.inl ⟨by rfl, ?_⟩) hS ?_
          rotate_left
          · rintro W' ⟨z0, z1, z2⟩; go_simp; try with_reducible rfl
          try simp only [Act.put, putA, putZ, putS]
          refine wpAnyH_done (by kernel_rfl) ?_ _
          go_wp2_with fail
          go_meet
          exact ⟨rfl, HB1.out⟩
         exact AllReadyH.nil
        exact AllReadyH.nil
      rename World => wx
      obtain ⟨rfl, hbx⟩ := hcut
      have HBX := Lib.hid (below_step HBL.out hbx)
      have HAX := Lib.hid (HA10.out.below (below_step HBL.out hbx))
      clear hbx HBL HC14
      have c0 := HAX.out.cell (.head _) 0
      have c1 := HAX.out.cell (.head _) 1
      by_cases hI : o1 ≤ n ∧ n ≤ o2
      · have hib : inB n o1 o2 = true := by unfold inB; rw [decide_eq_true hI.1, decide_eq_true hI.2]; rfl
        obtain ⟨hff, hag⟩ := hfa hI.1 hI.2
        have k0 := HAX.out.cell (.tail _ (.head _)) 0
        have k1 := HAX.out.cell (.tail _ (.head _)) 1
        have k2 := HAX.out.cell (.tail _ (.head _)) 2
        have k3 := HAX.out.cell (.tail _ (.head _)) 3
        have HBW2 : Hid (∀ (X : World) (v' : WV), WL X v' (y.setC c g (n, n)) → Calls Try.prog 39 #[.agg #[.slice v'.ca y.nc v'.cc, .slice v'.ba y.nb v'.bc, .slice v'.ra y.nr v'.rc, .slice v'.na y.nn v'.nc]] X fun e w' => ∃ b, e = .returned (.tuple #[b, .int .i64 (if k < 2 then 0 else 9)]) ∧ Below X.heap.size X w') := fun X v' h => by rw [← hag]; exact HBW.out X v' n hff h
        clear hfa hag hff hnk hin
        go_wp2_with (go_at_call 22; refine (rIn_any _ _ _ _).mono ?_; rw [hib]; rintro _ _ ⟨rfl, rfl⟩)
        refine (HWI.out _ _ (below_step (below_step HB8.out HB11.out) HBX.out)).mono ?_
        rintro _ w12 ⟨ca2, cc2, rfl, hwi, hb12⟩
        go_wp2_with fail
        refine (HTW.out _ _ _ _ hwi).mono ?_
        rintro _ w13 ⟨v13, rfl, hl13, hb13⟩
        go_wp2_with fail
        refine (HBW2.out _ _ hl13).mono ?_
        by_cases hk2 : k < 2
        · rw [if_pos hk2]
          rintro _ w14 ⟨bv2, rfl, hb14⟩
          have HBN := Lib.hid (below_step (below_step (below_step HBX.out hb12) hb13) hb14)
          have kk : (k : Int) < 2 := by omega
          clear hb12 hb13 hb14 hl13 hwi k0 k1 k2 k3 c0 c1
          go_wp2_with fail
          go_roundw
          case rel => exact ⟨k + 1, by omega, by go_num, HBN.out⟩
          case measure => simp [intOf]; omega
        · rw [if_neg hk2]
          rintro _ w14 ⟨bv2, rfl, hb14⟩
          have HBN := Lib.hid (below_step (below_step (below_step HBX.out hb12) hb13) hb14)
          have kk : ¬ (k : Int) < 2 := by omega
          have kk2 : (2 : Int) ≤ (k : Int) := by omega
          clear hb12 hb13 hb14 hl13 hwi k0 k1 k2 k3 c0 c1
          go_wp2_with fail
          go_roundw
          case rel => exact ⟨k + 1, by omega, by go_num, HBN.out⟩
          case measure => simp [intOf]; omega
      · have hib : inB n o1 o2 = false := by
          unfold inB
          by_cases h1 : o1 ≤ n
          · rw [decide_eq_true h1, decide_eq_false (fun h2 => hI ⟨h1, h2⟩)]; rfl
          · rw [decide_eq_false h1]; rfl
        have hk2 : ¬ k < 2 := fun h => hI (hin h)
        have kk : ¬ (k : Int) < 2 := by omega
        clear hfa hnk hin
        go_wp2_with (go_at_call 22; refine (rIn_any _ _ _ _).mono ?_; rw [hib]; rintro _ _ ⟨rfl, rfl⟩)
        go_roundw
        case rel => exact ⟨k + 1, by omega, by go_num, HBX.out⟩
        case measure => simp [intOf]; omega
    · obtain rfl : k = 4 := by omega
      go_wp2_with (go_at_call 18; refine (HAW.out _).mono ?_; rintro _ w12 ⟨rfl, hb12⟩; have HB12 := Lib.hid (HA10.out.below (below_step HBL.out hb12)).fr; clear hb12)
      go_ret
      exact ⟨rfl, HB12.out⟩
end Go.Proofs.Ytjaoflfophcibaa
