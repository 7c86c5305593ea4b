/- FlowTruth: the walk. Printed by gen_it.py. -/
import Derived.Test.YtjaoflfophcibaaJA
import Derived.Test.YtjaoflfophcibaaGO
import Derived.Test.YtjaoflfophcibaaPM
namespace Go.Proofs.Ytjaoflfophcibaa
open Go.RowKit Go.Shelf

theorem ex_eq {α : Type} (a : α) : ∃ b, Hid (a = b) := ⟨a, rfl⟩
theorem inside_of2 {r : R2} {a b : Int} (h : a ≤ r.1 ∧ r.1 ≤ r.2 ∧ r.2 ≤ b) : insideR r a b = true := by
  unfold insideR
  rw [decide_eq_true h.1, decide_eq_true h.2.1, decide_eq_true h.2.2]; rfl
theorem Okt.faultZ {t : Tb} (h : Okt t) : t.fault = 0 := by
  have := h.nc4; have := h.ng4; have := h.nb
  have hrow : ∀ q, q < t.nc → t.rowOk q = true := fun q hq => by
    unfold Tb.rowOk
    rw [h.rl q hq, allB_true (p := fun g => isCountR (t.ct q g)) (fun g hg => inside_of2 (h.ct q g hq hg))]
    simp
  unfold Tb.fault
  rw [if_neg (by omega), if_pos]
  unfold Tb.okAll
  rw [allB_true hrow, allB_true (p := fun j => isCountR (t.b j)) (fun j hj => inside_of2 (h.b j hj)), allB_true (p := fun j => isRateR (t.r j)) (fun j hj => inside_of2 (h.r j hj)), allB_true (p := fun j => isNetR (t.n j)) (fun j hj => inside_of2 (h.n j hj)), decide_eq_true h.ng2, decide_eq_true (by omega : (t.nb : Int) = t.nc - 1), decide_eq_true h.nr, decide_eq_true h.nn]
  rfl
theorem LvR.truth {W : World} {t : Tb} {nw : Nat} {z : Nat → Int} {T1 T2 T3 : Value} (h : LvR W t nw z 0 T1 T2 T3) :
    ∃ (y : Tb) (u : WV) (v : XV) (x : Tr) (sa : Option Addr) (sc : Nat), T1 = .agg #[u.cv y, u.bv y, u.rv y, u.nv y] ∧ T2 = .agg #[.slice v.fa x.nf v.fc, .slice v.ba x.nb v.bc, .slice v.da x.nd v.dc, .slice v.ma x.nm v.mc] ∧ T3 = .slice sa y.nc sc ∧
      WLi W u y ∧ XL W v x ∧ IRows W (.slice sa y.nc sc) y.nc (fun _ => y.ng) (siz y.ng x) ∧ y.small ∧ Liv y x ∧ canC y x y.nb = true ∧ y.isTr x = true ∧ TrSm x ∧ Okt t ∧ y.nc = t.nc ∧ y.ng = t.ng ∧ y.nb = t.nb ∧ y.nr = t.nr ∧ y.nn = t.nn ∧ y.b = t.b ∧ y.r = t.r ∧ y.n = t.n := by
  obtain ⟨u, y, x, sa, sc, e1, e2, e3, hw, hxl, hir, hf, hg, xb, xd, xm, hc⟩ := h.ex
  have ht := Okt.of_fault h.ft
  have hng := cnted_ng ht x nw z 0
  have hl := Liv.of ht hg hc hf
  have h1 := ht.nb; have h2 := ht.nc4; have h3 := ht.ng4
  refine ⟨t.cnted x nw z 0, u, y, x, sa, sc, e1, e2, e3, hw, hxl, ?_, cnted_small ht x nw z 0, hl, ?_, ?_, ?_, ht, rfl, hng, rfl, rfl, rfl, rfl, rfl, rfl⟩
  · rw [hng]; exact hir
  · rw [canC_tab (t := t.cnted x nw z 0) (t' := t) hng rfl]; exact hc
  · exact hl.isTr (by rw [hng]; exact hg.nf) xb xd xm (fun q hq => by rw [hng]; exact hg.dl q hq) (fun q hq => by rw [hng]; exact hg.ml q hq)
  · refine ⟨by rw [hg.nf]; omega, by omega, by omega, by omega, fun c hc => ?_, fun c hc => ?_⟩
    · rw [hg.dl c (by omega)]; omega
    · rw [hg.ml c (by omega)]; omega
theorem proj_two {y : Tb} : (∃ g, g < y.ng ∧ emptyR (y.before off0 y.nc g) = true) ∨ ∀ g, g < y.ng → emptyR (y.before off0 y.nc g) = false := by
  by_cases h : ∃ g, g < y.ng ∧ emptyR (y.before off0 y.nc g) = true
  · exact .inl h
  · exact .inr (fun g hg => by
      cases e : emptyR (y.before off0 y.nc g)
      · rfl
      · exact absurd ⟨g, hg, e⟩ h)
theorem WL.bornW {X : World} {v : WV} {y : Tb} (h : WL X v y) (b : R2) : WL X v (y.born b) := by
  refine ⟨h.1, ?_, h.2.2.1, h.2.2.2⟩
  rcases h.2.1 with h2 | ⟨bb, off, cap, h2, hb, hz⟩
  · exact .inl h2
  · refine .inr ⟨bb, off, cap, h2, hb, fun j hj => ?_⟩
    have hj2 : j < y.nb := hj
    have e : (y.born b).b j = y.b j := if_neg (show ¬ j = y.nb by omega)
    rw [e]
    exact hz j hj
/-- What Project returns. -/
def PjT (y : Tb) (b : R2) (W : World) (pv : Value) (pn : Nat) (pe : Int) : Prop :=
  (pe = 9 ∧ ∃ g, g < y.ng ∧ emptyR ((y.born b).before off0 y.nc g) = true) ∨ (pe = 0 ∧ pn = y.ng ∧ RsAt W pv y.ng ((y.born b).before off0 y.nc))
theorem PjT.below {y : Tb} {b : R2} {W W' : World} {pv : Value} {pn : Nat} {pe : Int} (h : PjT y b W pv pn pe) (hb : Below W.heap.size W W') : PjT y b W' pv pn pe := by
  rcases h with h | ⟨h1, h2, h3⟩
  · exact .inl h
  · exact .inr ⟨h1, h2, h3.below hb⟩
theorem project_two (v : WV) (y : Tb) (b0 b1 : Int) (X : World) (hs : y.small) (hok : Okt y) (ha : y.agree off0 = true) (hl : WL X v y) (hb : isCountR (b0, b1) = true) :
    Calls Try.prog 31 #[.agg #[v.cv y, v.bv y, v.rv y, v.nv y], .agg #[.int .i64 b0, .int .i64 b1]] X fun e w' => ∃ pa pn pc pe, e = .returned (.tuple #[.slice pa pn pc, .int .i64 pe]) ∧ PjT y (b0, b1) w' (.slice pa pn pc) pn pe ∧ Below X.heap.size X w' := by
  have hng := hok.ng2
  refine (Project_ok v (y.born (b0, b1)) hs X (hl.bornW _) (born_ok hok).faultZ b0 b1 (if_pos rfl) hb (by rw [born_agree hok]; exact ha)).mono ?_
  rintro e w' ⟨⟨hg, rfl⟩ | ⟨_, pv, rfl, hrs⟩, hbb⟩
  · exact ⟨_, _, _, _, rfl, .inl ⟨rfl, hg⟩, hbb⟩
  · obtain ⟨pa, pc, rfl⟩ := hrs.slice
    exact ⟨_, _, _, _, rfl, .inr ⟨rfl, rfl, hrs⟩, hbb⟩
theorem leave_nil (v : WV) (y : Tb) (X : World) (hs : y.small) (hok : Okt y) (ha : y.agree off0 = true) (hl : WL X v y) :
    Calls Try.prog 33 #[.agg #[v.cv y, v.bv y, v.rv y, v.nv y]] X fun e w' => ∃ a c, e = .returned (.tuple #[.slice a 0 c, .int .i64 0]) ∧ Below X.heap.size X w' := by
  refine (Leave_ok v y hs X hl hok.faultZ).mono ?_
  rintro e w' ⟨⟨lv, rfl, hc⟩, hb⟩
  rw [agree_leave ha] at hc ⊢
  obtain ⟨a, c, rfl⟩ := hc.slice
  exact ⟨a, c, rfl, hb⟩
theorem would_in (v : WV) (y : Tb) (x : Tr) (c g : Nat) (X : World) (hs : y.small) (h : Liv y x) (hl : WL X v y) (hc : c < y.nc) (hg : g < y.ng) :
    Calls Try.prog 19 #[.agg #[v.cv y, v.bv y, v.rv y, v.nv y], .agg #[.int .i64 c, .int .i64 g]] X fun e w' => ∃ W1 W2, e = .returned (.tuple #[.agg #[.int .i64 W1, .int .i64 W2], .int .i64 0]) ∧ W1 ≤ siz y.ng x c g ∧ siz y.ng x c g ≤ W2 ∧ Below X.heap.size X w' := by
  refine (Would_ok v y hs c g X hl h.ok.faultZ).mono ?_
  rintro e w' hP
  unfold WouldP at hP
  obtain ⟨h1, h2⟩ := h.would (outC c g)
  have hE : wouldE y c g = 0 := by
    have hc2 : inB (c : Int) 0 ((y.nc : Int) - 1) = true := by unfold inB; rw [decide_eq_true (by omega : (0 : Int) ≤ c), decide_eq_true (by omega : (c : Int) ≤ (y.nc : Int) - 1)]; rfl
    have hg2 : inB (g : Int) 0 ((y.ng : Int) - 1) = true := by unfold inB; rw [decide_eq_true (by omega : (0 : Int) ≤ g), decide_eq_true (by omega : (g : Int) ≤ (y.ng : Int) - 1)]; rfl
    unfold wouldE
    rw [if_neg (by rw [h.ok.faultZ]; simp), hc2, hg2, Int.toNat_natCast, Int.toNat_natCast, h1]
    rfl
  have hR : wouldR y c g = bndR y (outC c g) c g := by
    unfold wouldR
    rw [if_pos hE, Int.toNat_natCast, Int.toNat_natCast]
  rw [hE, hR] at hP
  have h3 := h2 c g hc hg
  exact ⟨_, _, hP.1, h3.1, h3.2, hP.2⟩
theorem rows_get0 {w : World} {b n cap k : Nat} {rl : Nat → Nat} {ct : Nat → Nat → R2} (h : RowsAt w (.slice (some ⟨b, 0, none⟩) n cap) n rl ct) (hk : k < n) : ∃ ra rc, b < w.heap.size ∧ w.cell? ⟨b, k, none⟩ = some (.slice ra (rl k) rc) ∧ RsAt w (.slice ra (rl k) rc) (rl k) (ct k) := by
  obtain ⟨b', off, ra, rc, e, h1, h2, h3⟩ := h.at hk
  cases e
  rw [Nat.zero_add] at h2
  exact ⟨ra, rc, h1, h2, h3⟩
theorem Rws.nil4 (base : Nat) (X : World) (T1 T2 : TypeId) (s1 s2 : Nat) : Rws base X [⟨T1, s1, .slice none 0 0, 0, []⟩, ⟨T2, s2, .slice none 0 0, 0, []⟩, ⟨T1, s1, .slice none 0 0, 0, []⟩, ⟨T2, s2, .slice none 0 0, 0, []⟩] := by
  refine ⟨fun i p hp => ?_, fun i j p q hne hp hq k e1 e2 => ?_⟩
  · match i, hp with
    | 0, hp => cases hp; exact ⟨by simp, .inl ⟨rfl, rfl⟩⟩
    | 1, hp => cases hp; exact ⟨by simp, .inl ⟨rfl, rfl⟩⟩
    | 2, hp => cases hp; exact ⟨by simp, .inl ⟨rfl, rfl⟩⟩
    | 3, hp => cases hp; exact ⟨by simp, .inl ⟨rfl, rfl⟩⟩
    | i + 4, hp => cases hp
  · match i, hp with
    | 0, hp => cases hp; cases e1
    | 1, hp => cases hp; cases e1
    | 2, hp => cases hp; cases e1
    | 3, hp => cases hp; cases e1
    | i + 4, hp => cases hp
theorem IRows.take2 {w : World} {b off n m cap cap2 : Nat} {rl : Nat → Nat} {ct : Nat → Nat → Int} (h : IRows w (.slice (some ⟨b, off, none⟩) n cap) n rl ct) (hm : m ≤ n) : IRows w (.slice (some ⟨b, off, none⟩) m cap2) m rl ct := by
  rcases h with ⟨h, _⟩ | ⟨b', off', cap', e, hb, hz⟩
  · cases h
  · cases e
    exact .inr ⟨_, _, _, rfl, hb, fun j hj => hz j (by omega)⟩
/-- One census more, counted as the first one. -/
def Tb.long (t : Tb) (b : R2) : Tb := { t with nc := t.nc + 1, nb := t.nb + 1, rl := fun c => if c = t.nc then t.rl 0 else t.rl c, ct := fun c g => if c = t.nc then t.ct 0 g else t.ct c g, b := fun c => if c = t.nb then b else t.b c }
theorem long_ng {t : Tb} (ht : Okt t) (b : R2) : (t.long b).ng = t.ng := by
  have := ht.nc1
  show (if t.nc + 1 = 0 then 0 else if 0 = t.nc then t.rl 0 else t.rl 0) = t.ng
  rw [if_neg (by omega), if_neg (by omega)]
  unfold Tb.ng
  rw [if_neg (by omega)]
theorem long_small {t : Tb} (h : t.small) (ht : Okt t) (b : R2) : (t.long b).small := by
  have h1 := ht.nc4; have h3 := ht.nb
  refine ⟨by show t.nc + 1 ≤ 100000; omega, fun c => ?_, by show t.nb + 1 ≤ 100000; omega, h.2.2.2.1, h.2.2.2.2⟩
  show (if c = t.nc then t.rl 0 else t.rl c) ≤ 100000
  split
  · exact h.2.1 0
  · exact h.2.1 c
theorem flatR_congr {R R' : Nat → R2} : ∀ (n : Nat), (∀ j, j < n → R j = R' j) → flatR R n = flatR R' n
  | 0, _ => rfl
  | n + 1, h => by rw [flatR_succ, flatR_succ, flatR_congr n (fun j hj => h j (by omega)), h n (by omega)]
theorem long_wli {w0 X : World} {t : Tb} {hb hc bc frc : Nat} {ba ra na fa : Option Addr} {rrc nnc : Nat} {F : Nat → Value} {base : Nat} {b0 b1 : Int} (h1c : 1 ≤ t.nc) (hr : RsIn w0 (.slice ra t.nr rrc) t.nr t.r ∧ RsIn w0 (.slice na t.nn nnc) t.nn t.n) (hF : ∀ j, j < t.nc → RsIn w0 (F j) (t.rl j) (t.ct j)) (hX : Below w0.heap.size w0 X) (hF0 : F 0 = .slice fa (t.rl 0) frc)
    (h2 : X.ownsRow base 23 1 (.slice (some ⟨hb, 0, none⟩) (t.nc + 1) hc) (t.nc + 1) ((List.range t.nc).map F ++ [.slice fa (t.rl 0) frc]))
    (h3 : X.ownsRow base 43 2 (.slice ba (t.nb + 1) bc) (t.nb + 1) (flatR t.b t.nb ++ [.int .i64 b0, .int .i64 b1])) :
    WLi X ⟨some ⟨hb, 0, none⟩, hc, ba, bc, ra, rrc, na, nnc⟩ (t.long (b0, b1)) := by
  have e : flatR t.b t.nb ++ [.int .i64 b0, .int .i64 b1] = flatR (t.long (b0, b1)).b (t.nb + 1) := by
    rw [flatR_succ]
    have e1 : flatR (t.long (b0, b1)).b t.nb = flatR t.b t.nb := by
      exact flatR_congr _ (fun j hj => if_neg (show ¬ j = t.nb by omega))
    have e2 : (t.long (b0, b1)).b t.nb = (b0, b1) := if_pos rfl
    rw [e1, e2]
  rw [e] at h3
  refine ⟨.inr ⟨hb, 0, hc, rfl, own_lt h2 rfl, fun j hj => ?_⟩, (RsAt.ownT h3).toIn, hr.1.below hX, hr.2.below hX⟩
  rw [Nat.zero_add]
  have hj' : j < t.nc + 1 := hj
  have hcell := h2.cellAt j (by omega)
  by_cases e : j = t.nc
  · subst e
    rw [List.getElem?_append_right (by simp)] at hcell
    simp only [List.length_map, List.length_range, Nat.sub_self, List.getElem?_cons_zero] at hcell
    refine ⟨_, hcell, ?_⟩
    show RsIn X _ (if t.nc = t.nc then t.rl 0 else t.rl t.nc) (fun g => if t.nc = t.nc then t.ct 0 g else t.ct t.nc g)
    rw [if_pos rfl, ← hF0]
    exact ((hF 0 (by omega)).below hX).congr (fun g _ => (if_pos rfl).symm)
  · rw [List.getElem?_append_left (by simp; omega), map_get (by omega)] at hcell
    refine ⟨_, hcell, ?_⟩
    show RsIn X _ (if j = t.nc then t.rl 0 else t.rl j) (fun g => if j = t.nc then t.ct 0 g else t.ct j g)
    rw [if_neg e]
    exact ((hF j (by omega)).below hX).congr (fun g _ => (if_neg e).symm)
set_option maxRecDepth 100000 in
set_option maxHeartbeats 8000000 in
theorem flowTruth_walk (u : WV) (t : Tb) (wv : Value) (nw : Nat) (z : Nat → Int) (b0 b1 : Int) (w : World) (h0 : TbLaw w u t) (hw : WordsIn w wv nw z) (hn : nw ≤ maxLen) :
    Calls Try.prog 15 #[.agg #[u.cv t, u.bv t, u.rv t, u.nv t], wv, .agg #[.int .i64 b0, .int .i64 b1]] w fun e w' => e = .returned (.bool true) ∧ Below w.heap.size w w' := by
  obtain ⟨uca, ucc, uba, ubc, ura, urc, una, unc⟩ := u
  have LV0 := Lib.hid (fun (X : World) (hX : Below w.heap.size w X) => lives_any ⟨uca, ucc, uba, ubc, ura, urc, una, unc⟩ t wv nw z 0 h0.big h0.z X (h0.l.below hX) h0.cc h0.cb (hw.below hX) hn (by omega) (by omega))
  have HAW := Lib.hid awake_any
  have HT0 := Lib.hid h0; have HWD := Lib.hid hw
  obtain ⟨i0, hi0, hz0, hz1, hz2⟩ := info_parts Try.infoRangeR
  obtain ⟨i1, hi1, hy0, hy1, hy2⟩ := info_parts Try.infoRangesR
  obtain ⟨wda, wdc, rfl⟩ := hw.len
  clear h0 hw
  simp only [WV.cv, WV.bv, WV.rv, WV.nv] at LV0 ⊢
  have HA0 : Hid (BF w ((w.alloc (.cells #[.slice uca t.nc ucc, .slice uba t.nb ubc, .slice ura t.nr urc, .slice una t.nn unc] 25)).alloc (.cells #[.int .i64 b0, .int .i64 b1] 43)) [(w.heap.size, #[.slice uca t.nc ucc, .slice uba t.nb ubc, .slice ura t.nr urc, .slice una t.nn unc], 25), (w.heap.size + 1, #[.int .i64 b0, .int .i64 b1], 43)]) := BF.made2 w _ _ _ _
  have k0 := HA0.out.cell (.head _) 0
  have k1 := HA0.out.cell (.head _) 1
  have k2 := HA0.out.cell (.head _) 2
  have k3 := HA0.out.cell (.head _) 3
  go_enter Try.func15, Try.ntmps15
  go_wp2_with fail
  refine (LV0.out _ HA0.out.fr).mono ?_
  rintro _ w5 ⟨V1, U1, T3, b, rfl, hb5, hlv⟩
  have HA5 := Lib.hid (HA0.out.below hb5)
  have HLR := Lib.hid hlv
  clear hb5 hlv HA0 LV0 k0 k1 k2 k3
  cases b
  · go_wp2_with (go_at_call 18; refine (HAW.out _).mono ?_; rintro _ w9 ⟨rfl, hb9⟩; have HB9 := Lib.hid (below_step (HA5.out.fr.trans ((below_step (below_alloc w5 (.cells #[.slice V1.p0 V1.l0 V1.c0, .slice V1.p1 V1.l1 V1.c1, .slice V1.p2 V1.l2 V1.c2, .slice V1.p3 V1.l3 V1.c3] 25)) (below_alloc _ (.cells #[.slice U1.p0 U1.l0 U1.c0, .slice U1.p1 U1.l1 U1.c1, .slice U1.p2 U1.l2 U1.c2, .slice U1.p3 U1.l3 U1.c3] 75))).mono HA5.out.fr.size)) hb9); clear hb9)
    go_ret
    exact ⟨rfl, HB9.out⟩
  obtain ⟨y, v, xv, x, sa, sc, hv, hxv, rfl, hwl5, hxl5, hir5, hys, hliv, hcan, htr, htsm, htok, ync, yng, ynb, ynr, ynn, yb, yr, yn⟩ := (HLR.out rfl).truth
  have hts : t.small := Tb.thin_small (HLR.out rfl).th HT0.out.z
  obtain ⟨p0, l0, e0, p1, l1, e1, p2, l2, e2, p3, l3, e3⟩ := V1
  simp only [WV.cv, WV.bv, WV.rv, WV.nv, Value.agg.injEq, Value.slice.injEq, Array.mk.injEq, List.cons.injEq, and_true] at hv
  obtain ⟨⟨rfl, rfl, rfl⟩, ⟨rfl, rfl, rfl⟩, ⟨rfl, rfl, rfl⟩, rfl, rfl, rfl⟩ := hv
  obtain ⟨p0, l0, e0, p1, l1, e1, p2, l2, e2, p3, l3, e3⟩ := U1
  simp only [Value.agg.injEq, Value.slice.injEq, Array.mk.injEq, List.cons.injEq, and_true] at hxv
  obtain ⟨⟨rfl, rfl, rfl⟩, ⟨rfl, rfl, rfl⟩, ⟨rfl, rfl, rfl⟩, rfl, rfl, rfl⟩ := hxv
  obtain ⟨vca, vcc, vba, vbc, vra, vrc, vna, vnc⟩ := v
  obtain ⟨xfa, xfc, xba, xbc, xda, xdc, xma, xmc⟩ := xv
  simp only at *
  have hok := hliv.ok
  have yng2 := hok.ng2; have yng4 := hok.ng4; have ync4 := hok.nc4; have ync1 := hok.nc1; have nb9 : y.nb ≤ 9 := by have := hok.nb; omega
  have HEQ := Lib.hid (And.intro ync (And.intro yng (And.intro ynb (And.intro ynr (And.intro ynn (And.intro yb (And.intro yr yn)))))))
  clear ync yng ynb ynr ynn yb yr yn
  have HSP := Lib.hid (span_any b0 b1 0 500)
  have HA6 : Hid (BF w ((w5.alloc (.cells #[.slice vca y.nc vcc, .slice vba y.nb vbc, .slice vra y.nr vrc, .slice vna y.nn vnc] 25)).alloc (.cells #[.slice xfa x.nf xfc, .slice xba x.nb xbc, .slice xda x.nd xdc, .slice xma x.nm xmc] 75)) [(w5.heap.size + 1, #[.slice xfa x.nf xfc, .slice xba x.nb xbc, .slice xda x.nd xdc, .slice xma x.nm xmc], 75), (w5.heap.size, #[.slice vca y.nc vcc, .slice vba y.nb vbc, .slice vra y.nr vrc, .slice vna y.nn vnc], 25), (w.heap.size, #[.slice uca t.nc ucc, .slice uba t.nb ubc, .slice ura t.nr urc, .slice una t.nn unc], 25), (w.heap.size + 1, #[.int .i64 b0, .int .i64 b1], 43)]) := by
    have h := (HA5.out.alloc #[.slice vca y.nc vcc, .slice vba y.nb vbc, .slice vra y.nr vrc, .slice vna y.nn vnc] 25).alloc #[.slice xfa x.nf xfc, .slice xba x.nb xbc, .slice xda x.nd xdc, .slice xma x.nm xmc] 75
    rw [World.size_alloc] at h
    exact h
  have HB56 : Hid (Below w5.heap.size w5 ((w5.alloc (.cells #[.slice vca y.nc vcc, .slice vba y.nb vbc, .slice vra y.nr vrc, .slice vna y.nn vnc] 25)).alloc (.cells #[.slice xfa x.nf xfc, .slice xba x.nb xbc, .slice xda x.nd xdc, .slice xma x.nm xmc] 75))) := below_step (below_alloc _ _) (below_alloc _ _)
  have q0 := HA6.out.cell (.tail _ (.tail _ (.tail _ (.head _)))) 0
  have q1 := HA6.out.cell (.tail _ (.tail _ (.tail _ (.head _)))) 1
  clear HA5 HLR
  cases hsp : insideR (b0, b1) 0 500
  · go_wp2_with (first | (go_at_call 32; refine (HSP.out _).mono ?_; rw [hsp]; rintro _ w7 ⟨rfl, hb7⟩; have HA7 := Lib.hid (HA6.out.below hb7); clear hb7) | (go_at_call 18; refine (HAW.out _).mono ?_; rintro _ w9 ⟨rfl, hb9⟩; have HB9 := Lib.hid (HA7.out.below hb9).fr; clear hb9))
    go_ret
    exact ⟨rfl, HB9.out⟩
  have hbb : 0 ≤ b0 ∧ b0 ≤ b1 ∧ b1 ≤ 500 := by
    unfold insideR at hsp
    simp only [Bool.and_eq_true, decide_eq_true_eq] at hsp
    exact ⟨hsp.1.1, hsp.1.2, hsp.2⟩
  have hcb : isCountR (b0, b1) = true := hsp
  go_wp2_with (go_at_call 32; refine (HSP.out _).mono ?_; rw [hsp]; rintro _ w7 ⟨rfl, hb7⟩; have HB7 := Lib.hid hb7; clear hb7; have k0 := (HA6.out.below HB7.out).cell (.tail _ (.head _)) 0; have k1 := (HA6.out.below HB7.out).cell (.tail _ (.head _)) 1; have k2 := (HA6.out.below HB7.out).cell (.tail _ (.head _)) 2; have k3 := (HA6.out.below HB7.out).cell (.tail _ (.head _)) 3)
  have hwl6 := hwl5.below HB56.out; have hxl6 := hxl5.below HB56.out; have hir6 := hir5.below HB56.out
  generalize ((w5.alloc (.cells #[.slice vca y.nc vcc, .slice vba y.nb vbc, .slice vra y.nr vrc, .slice vna y.nn vnc] 25)).alloc (.cells #[.slice xfa x.nf xfc, .slice xba x.nb xbc, .slice xda x.nd xdc, .slice xma x.nm xmc] 75)) = w6 at *
  have hag := hliv.agree
  have HWL := Lib.hid hwl6; have HXL := Lib.hid hxl6; have HIR := Lib.hid hir6; have HLIV := Lib.hid hliv; have HYS := Lib.hid hys; have HBB := Lib.hid hbb; have HTO := Lib.hid htok; have HTS := Lib.hid hts
  have HC6 : Hid (∀ X, Below w6.heap.size w6 X → (X.cell? ⟨w.heap.size, 0, none⟩ = some (.slice uca t.nc ucc) ∧ X.cell? ⟨w.heap.size, 1, none⟩ = some (.slice uba t.nb ubc) ∧ X.cell? ⟨w.heap.size, 2, none⟩ = some (.slice ura t.nr urc) ∧ X.cell? ⟨w.heap.size, 3, none⟩ = some (.slice una t.nn unc) ∧ X.cell? ⟨w5.heap.size, 0, none⟩ = some (.slice vca y.nc vcc) ∧ X.cell? ⟨w5.heap.size, 1, none⟩ = some (.slice vba y.nb vbc) ∧ X.cell? ⟨w5.heap.size, 2, none⟩ = some (.slice vra y.nr vrc) ∧ X.cell? ⟨w5.heap.size, 3, none⟩ = some (.slice vna y.nn vnc) ∧ X.cell? ⟨w5.heap.size + 1, 0, none⟩ = some (.slice xfa x.nf xfc) ∧ X.cell? ⟨w5.heap.size + 1, 1, none⟩ = some (.slice xba x.nb xbc) ∧ X.cell? ⟨w5.heap.size + 1, 2, none⟩ = some (.slice xda x.nd xdc) ∧ X.cell? ⟨w5.heap.size + 1, 3, none⟩ = some (.slice xma x.nm xmc) ∧ X.cell? ⟨w.heap.size + 1, 0, none⟩ = some (.int .i64 b0) ∧ X.cell? ⟨w.heap.size + 1, 1, none⟩ = some (.int .i64 b1))) := fun X hX => by
    have h := HA6.out.below hX
    exact ⟨h.cell (.tail _ (.tail _ (.head _))) 0, h.cell (.tail _ (.tail _ (.head _))) 1, h.cell (.tail _ (.tail _ (.head _))) 2, h.cell (.tail _ (.tail _ (.head _))) 3, h.cell (.tail _ (.head _)) 0, h.cell (.tail _ (.head _)) 1, h.cell (.tail _ (.head _)) 2, h.cell (.tail _ (.head _)) 3, h.cell (.head _) 0, h.cell (.head _) 1, h.cell (.head _) 2, h.cell (.head _) 3, h.cell (.tail _ (.tail _ (.tail _ (.head _)))) 0, h.cell (.tail _ (.tail _ (.tail _ (.head _)))) 1⟩
  have HTB : Hid (∀ X, Below w6.heap.size w6 X → Calls Try.prog 20 #[.agg #[.slice vca y.nc vcc, .slice vba y.nb vbc, .slice vra y.nr vrc, .slice vna y.nn vnc]] X fun e w' => ∃ v' : WV, e = .returned (.agg #[v'.cv y, v'.bv y, v'.rv y, v'.nv y]) ∧ WL w' v' y ∧ Below X.heap.size X w') := fun X hX => table_any ⟨vca, vcc, vba, vbc, vra, vrc, vna, vnc⟩ y hys X (hwl6.below hX)
  have HTR : Hid (∀ X, Below w6.heap.size w6 X → Calls Try.prog 49 #[.agg #[.slice xfa x.nf xfc, .slice xba x.nb xbc, .slice xda x.nd xdc, .slice xma x.nm xmc]] X fun e w' => ∃ y' : XV, e = .returned (.agg #[.slice y'.fa x.nf y'.fc, .slice y'.ba x.nb y'.bc, .slice y'.da x.nd y'.dc, .slice y'.ma x.nm y'.mc]) ∧ XL w' y' x ∧ Below X.heap.size X w') := fun X hX => truth_conv ⟨xfa, xfc, xba, xbc, xda, xdc, xma, xmc⟩ x X (hxl6.below hX).toIn htsm
  have HBD : Hid (∀ (X : World) (v' : WV), WL X v' y → Calls Try.prog 39 #[.agg #[v'.cv y, v'.bv y, v'.rv y, v'.nv y]] X fun e w' => ∃ OB, e = .returned (.tuple #[.slice (some ⟨OB, 0, none⟩) y.nc y.nc, .int .i64 0]) ∧ RowsAt w' (.slice (some ⟨OB, 0, none⟩) y.nc y.nc) y.nc (fun _ => y.ng) (bndR y off0) ∧ Below X.heap.size X w') := fun X v' h => Bounds_okS v' y hys X h hok.faultZ hag (fun c g hc hg => agree_ne hag (by omega) c g hc hg)
  have HPJ : Hid (∀ (X : World) (v' : WV), WL X v' y → Calls Try.prog 31 #[.agg #[v'.cv y, v'.bv y, v'.rv y, v'.nv y], .agg #[.int .i64 b0, .int .i64 b1]] X fun e w' => ∃ pa pn pc pe, e = .returned (.tuple #[.slice pa pn pc, .int .i64 pe]) ∧ PjT y (b0, b1) w' (.slice pa pn pc) pn pe ∧ Below X.heap.size X w') := fun X v' h => project_two v' y b0 b1 X hys hok hag h hcb
  have HLE : Hid (∀ (X : World) (v' : WV), WL X v' y → Calls Try.prog 33 #[.agg #[v'.cv y, v'.bv y, v'.rv y, v'.nv y]] X fun e w' => ∃ a c, e = .returned (.tuple #[.slice a 0 c, .int .i64 0]) ∧ Below X.heap.size X w') := fun X v' h => leave_nil v' y X hys hok hag h
  have HPR : Hid (∀ (X : World) (v' : WV) (y' : XV), WL X v' y → XL X y' x → Calls Try.prog 50 #[.agg #[v'.cv y, v'.bv y, v'.rv y, v'.nv y], .agg #[.slice y'.fa x.nf y'.fc, .slice y'.ba x.nb y'.bc, .slice y'.da x.nd y'.dc, .slice y'.ma x.nm y'.mc]] X fun e w' => e = .returned (.bool true) ∧ Below X.heap.size X w') := fun X v' y' h hx => by
    have h2 := Prove_fits v' y y' x hys X h hx hok.faultZ htsm htr hcan
    rw [hliv.fits] at h2
    exact h2
  have HWO : Hid (∀ (X : World) (v' : WV) (c g : Nat), WL X v' y → c < y.nc → g < y.ng → Calls Try.prog 19 #[.agg #[v'.cv y, v'.bv y, v'.rv y, v'.nv y], .agg #[.int .i64 c, .int .i64 g]] X fun e w' => ∃ W1 W2, e = .returned (.tuple #[.agg #[.int .i64 W1, .int .i64 W2], .int .i64 0]) ∧ W1 ≤ siz y.ng x c g ∧ siz y.ng x c g ≤ W2 ∧ Below X.heap.size X w') := fun X v' c g h hc hg => would_in v' y x c g X hys hliv h hc hg
  have HGR : Hid (∀ X, Below w6.heap.size w6 X → Calls Try.prog 23 #[.agg #[.slice uca t.nc ucc, .slice uba t.nb ubc, .slice ura t.nr urc, .slice una t.nn unc]] X fun e w' => e = .returned (.int .i64 (y.ng : Nat)) ∧ Below X.heap.size X w') := fun X hX => by
    have h := rgroups_any _ t X (HT0.out.l.below (HA6.out.below hX).fr).tb hts
    rw [← HEQ.out.2.1] at h
    exact h
  simp only [WV.cv, WV.bv, WV.rv, WV.nv] at HTB HBD HPJ HLE HPR HWO HGR
  clear hwl5 hxl5 hir5 hwl6 hxl6 hir6 hliv hys hbb htok htsm htr hcan hag hok hts q0 q1 hsp HSP HB56
  refine (HTB.out _ HB7.out).mono ?_
  rintro _ w10 ⟨v10, rfl, hl10, hb10⟩
  go_wp2_with fail
  refine (HBD.out _ _ hl10).mono ?_
  rintro _ w11 ⟨OB, rfl, hrb, hb11⟩
  have HB11 := Lib.hid (below_step HB7.out (below_step hb10 hb11))
  have HRB := Lib.hid hrb
  clear hl10 hb10 hb11 hrb k0 k1 k2 k3 HBD HB7
  go_wp2_with fail
  go_cut [13, 14] (fun s13 s14 wy => ∃ pa pn pc pe, s13 = .slice pa pn pc ∧ s14 = .int .i64 pe ∧ PjT y (b0, b1) wy (.slice pa pn pc) pn pe ∧ Below w11.heap.size w11 wy)
  case first => as_aux_lemma =>
    have HAX : Hid (Below w11.heap.size w11 w11.drew) := (Below.refl _ _).drew
    refine wp_region_held_drew (S := fun X => X.cell? ⟨w5.heap.size, 0, none⟩ = some (.slice vca y.nc vcc) ∧ X.cell? ⟨w5.heap.size, 1, none⟩ = some (.slice vba y.nb vbc) ∧ X.cell? ⟨w5.heap.size, 2, none⟩ = some (.slice vra y.nr vrc) ∧ X.cell? ⟨w5.heap.size, 3, none⟩ = some (.slice vna y.nn vnc) ∧ X.cell? ⟨w.heap.size + 1, 0, none⟩ = some (.int .i64 b0) ∧ X.cell? ⟨w.heap.size + 1, 1, none⟩ = some (.int .i64 b1)) (by kernel_rfl) (⟨(HC6.out _ (below_step HB11.out HAX.out)).2.2.2.2.1, (HC6.out _ (below_step HB11.out HAX.out)).2.2.2.2.2.1, (HC6.out _ (below_step HB11.out HAX.out)).2.2.2.2.2.2.1, (HC6.out _ (below_step HB11.out HAX.out)).2.2.2.2.2.2.2.1, (HC6.out _ (below_step HB11.out HAX.out)).2.2.2.2.2.2.2.2.2.2.2.2.1, (HC6.out _ (below_step HB11.out HAX.out)).2.2.2.2.2.2.2.2.2.2.2.2.2⟩) (fun hS => ?_)
    generalize w11.drew = X at *
    refine tk [0, 2] ?_
    repeat (refine tkH (oi := ⟨_, _, _, _, _, _⟩) (v := ?_) rfl (by kernel_rfl) (by rfl) (fun _ _ _ h => h) hS ?_ ?_; rotate_left; (· rintro W' ⟨z0, z1, z2, z3, z4, z5⟩; go_simp; try with_reducible rfl); try simp only [Act.put, putA, putZ, putS])
    refine tk0 ?_
    refine wpAnyH_ready (rs := [1]) (by kernel_rfl) (by simp) ?_
    refine AllReadyH.cons (o := ⟨some 51, _, _, _, _, _⟩) rfl (fun K hK => ?_) AllReadyH.nil
    go_simp
    refine (HTB.out _ (below_step HB11.out HAX.out)).mono ?_
    rintro _ X0 ⟨vT, rfl, hlT, hb0⟩
    (try go_wp2_with fail)
    have HA0 := Lib.hid (below_step HAX.out hb0)
    have HT0 := Lib.hid hlT
    refine hK.out _ _ (⟨(HC6.out X0 (below_step HB11.out HA0.out)).2.2.2.2.1, (HC6.out X0 (below_step HB11.out HA0.out)).2.2.2.2.2.1, (HC6.out X0 (below_step HB11.out HA0.out)).2.2.2.2.2.2.1, (HC6.out X0 (below_step HB11.out HA0.out)).2.2.2.2.2.2.2.1, (HC6.out X0 (below_step HB11.out HA0.out)).2.2.2.2.2.2.2.2.2.2.2.2.1, (HC6.out X0 (below_step HB11.out HA0.out)).2.2.2.2.2.2.2.2.2.2.2.2.2⟩) (fun hS => ?_)
    clear hK K
    try simp only [Act.put, putA, putZ, putS]
    clear hb0 hlT
    refine wpAnyH_ready (rs := [3]) (by kernel_rfl) (by simp) ?_
    refine AllReadyH.cons (o := ⟨some 53, _, _, _, _, _⟩) rfl (fun K hK => ?_) AllReadyH.nil
    go_simp
    refine (to_any b0 b1 _).mono ?_
    rintro _ X1 ⟨rfl, hb1⟩
    (try go_wp2_with fail)
    have HA1 := Lib.hid (below_step HA0.out hb1)
    have HT1 := Lib.hid (HT0.out.below hb1)
    refine hK.out _ _ (⟨(HC6.out X1 (below_step HB11.out HA1.out)).2.2.2.2.1, (HC6.out X1 (below_step HB11.out HA1.out)).2.2.2.2.2.1, (HC6.out X1 (below_step HB11.out HA1.out)).2.2.2.2.2.2.1, (HC6.out X1 (below_step HB11.out HA1.out)).2.2.2.2.2.2.2.1, (HC6.out X1 (below_step HB11.out HA1.out)).2.2.2.2.2.2.2.2.2.2.2.2.1, (HC6.out X1 (below_step HB11.out HA1.out)).2.2.2.2.2.2.2.2.2.2.2.2.2⟩) (fun hS => ?_)
    clear hK K
    try simp only [Act.put, putA, putZ, putS]
    clear hb1
    refine wpAnyH_ready (rs := [4]) (by kernel_rfl) (by simp) ?_
    refine AllReadyH.cons (o := ⟨some 54, _, _, _, _, _⟩) rfl (fun K hK => ?_) AllReadyH.nil
    go_simp
    refine (HPJ.out _ _ HT1.out).mono ?_
    rintro _ X2 ⟨pa, pn, pc, pe, rfl, hpj, hb2⟩
    (try go_wp2_with fail)
    have HA2 := Lib.hid (below_step HA1.out hb2)
    have HPT := Lib.hid hpj
    refine hK.out _ _ (⟨(HC6.out X2 (below_step HB11.out HA2.out)).2.2.2.2.1, (HC6.out X2 (below_step HB11.out HA2.out)).2.2.2.2.2.1, (HC6.out X2 (below_step HB11.out HA2.out)).2.2.2.2.2.2.1, (HC6.out X2 (below_step HB11.out HA2.out)).2.2.2.2.2.2.2.1, (HC6.out X2 (below_step HB11.out HA2.out)).2.2.2.2.2.2.2.2.2.2.2.2.1, (HC6.out X2 (below_step HB11.out HA2.out)).2.2.2.2.2.2.2.2.2.2.2.2.2⟩) (fun hS => ?_)
    clear hK K
    try simp only [Act.put, putA, putZ, putS]
    clear hb2 hpj
    refine tk [5, 6, 7, 8, 9] ?_
    repeat (refine tkH (oi := ⟨_, _, _, _, _, _⟩) (v := ?_) rfl (by kernel_rfl) (by rfl) (fun _ _ _ h => h) hS ?_ ?_; rotate_left; (· rintro W' ⟨z0, z1, z2, z3, z4, z5⟩; go_simp; try with_reducible rfl); try simp only [Act.put, putA, putZ, putS])
    refine tk0 ?_
    refine wpAnyH_done (by kernel_rfl) ?_ _
    go_wp2_with fail
    go_meet
    exact ⟨pa, pn, pc, pe, rfl, rfl, HPT.out, HA2.out⟩
  rename World => w12
  obtain ⟨pa, pn, pc, pe, rfl, rfl, hpj, hb12⟩ := hcut
  have HB12 := Lib.hid (below_step HB11.out hb12)
  have HRB12 := Lib.hid (HRB.out.below hb12)
  have HPT := Lib.hid hpj
  clear hpj hb12 HRB HPJ
  have k0 := (HC6.out _ HB12.out).2.2.2.2.1
  have k1 := (HC6.out _ HB12.out).2.2.2.2.2.1
  have k2 := (HC6.out _ HB12.out).2.2.2.2.2.2.1
  have k3 := (HC6.out _ HB12.out).2.2.2.2.2.2.2.1
  go_wp2_with fail
  refine (HTB.out _ HB12.out).mono ?_
  rintro _ w14 ⟨v14, rfl, hl14, hb14⟩
  go_wp2_with fail
  refine (HLE.out _ _ hl14).mono ?_
  rintro _ w15 ⟨la, lc, rfl, hb15⟩
  have hb := below_step hb14 hb15
  have HB15 := Lib.hid (below_step HB12.out hb); have HRB15 := Lib.hid (HRB12.out.below hb); have HPT15 := Lib.hid (HPT.out.below hb)
  clear hl14 hb14 hb15 hb k0 k1 k2 k3 HLE HB11 HB12 HRB12 HPT
  go_wp2_with fail
  go_cut [107] (fun s107 wy => s107 = .bool false ∧ Below w15.heap.size w15 wy)
  case first => as_aux_lemma =>
    have HAX : Hid (Below w15.heap.size w15 w15.drew) := (Below.refl _ _).drew
    rcases HPT15.out with ⟨rfl, _⟩ | ⟨rfl, rfl, _⟩
    · refine wp_region_held_drew (S := fun X => X.cell? ⟨w.heap.size, 0, none⟩ = some (.slice uca t.nc ucc) ∧ X.cell? ⟨w.heap.size, 1, none⟩ = some (.slice uba t.nb ubc) ∧ X.cell? ⟨w.heap.size, 2, none⟩ = some (.slice ura t.nr urc) ∧ X.cell? ⟨w.heap.size, 3, none⟩ = some (.slice una t.nn unc) ∧ X.cell? ⟨w5.heap.size, 0, none⟩ = some (.slice vca y.nc vcc) ∧ X.cell? ⟨w5.heap.size, 1, none⟩ = some (.slice vba y.nb vbc) ∧ X.cell? ⟨w5.heap.size, 2, none⟩ = some (.slice vra y.nr vrc) ∧ X.cell? ⟨w5.heap.size, 3, none⟩ = some (.slice vna y.nn vnc) ∧ X.cell? ⟨w5.heap.size + 1, 0, none⟩ = some (.slice xfa x.nf xfc) ∧ X.cell? ⟨w5.heap.size + 1, 1, none⟩ = some (.slice xba x.nb xbc) ∧ X.cell? ⟨w5.heap.size + 1, 2, none⟩ = some (.slice xda x.nd xdc) ∧ X.cell? ⟨w5.heap.size + 1, 3, none⟩ = some (.slice xma x.nm xmc) ∧ X.cell? ⟨w.heap.size + 1, 0, none⟩ = some (.int .i64 b0) ∧ X.cell? ⟨w.heap.size + 1, 1, none⟩ = some (.int .i64 b1)) (by kernel_rfl) (HC6.out _ (below_step HB15.out HAX.out)) (fun hS => ?_)
      generalize w15.drew = X at *
      refine tk [0, 1, 2, 3, 4, 5, 6, 7, 8, 9, 10, 11, 12, 13, 14, 15, 16, 17, 18, 19, 20] ?_
      repeat (refine tkH (oi := ⟨_, _, _, _, _, _⟩) (v := ?_) rfl (by kernel_rfl) (by rfl) (fun _ _ _ h => h) hS ?_ ?_; rotate_left; (· rintro W' ⟨z0, z1, z2, z3, z4, z5, z6, z7, z8, z9, z10, z11, z12, z13⟩; go_simp; try with_reducible rfl); try simp only [Act.put, putA, putZ, putS])
      refine tk0 ?_
      refine wpAnyH_take (i := 21) (oi := ⟨some 84, _, _, _, _, _⟩) (v := undef) rfl (by kernel_rfl) (by kernel_rfl) (by kernel_rfl) (fun _ _ _ h => h) (Or.inr ⟨by rfl, rfl⟩) hS ?_
      try simp only [Act.put, putA, putZ, putS]
      refine wpAnyH_take (i := 22) (oi := ⟨some 85, _, _, _, _, _⟩) (v := undef) rfl (by kernel_rfl) (by kernel_rfl) (by kernel_rfl) (fun _ _ _ h => h) (Or.inr ⟨by rfl, rfl⟩) hS ?_
      try simp only [Act.put, putA, putZ, putS]
      refine wpAnyH_take (i := 23) (oi := ⟨some 86, _, _, _, _, _⟩) (v := undef) rfl (by kernel_rfl) (by kernel_rfl) (by kernel_rfl) (fun _ _ _ h => h) (Or.inr ⟨by rfl, rfl⟩) hS ?_
      try simp only [Act.put, putA, putZ, putS]
      refine wpAnyH_take (i := 24) (oi := ⟨some 87, _, _, _, _, _⟩) (v := undef) rfl (by kernel_rfl) (by kernel_rfl) (by kernel_rfl) (fun _ _ _ h => h) (Or.inr ⟨by rfl, rfl⟩) hS ?_
      try simp only [Act.put, putA, putZ, putS]
      refine wpAnyH_take (i := 25) (oi := ⟨some 88, _, _, _, _, _⟩) (v := undef) rfl (by kernel_rfl) (by kernel_rfl) (by kernel_rfl) (fun _ _ _ h => h) (Or.inr ⟨by rfl, rfl⟩) hS ?_
      try simp only [Act.put, putA, putZ, putS]
      refine tk [26, 27, 28, 29, 30, 31, 32, 33, 34, 35, 36, 37, 38, 40] ?_
      repeat (refine tkH (oi := ⟨_, _, _, _, _, _⟩) (v := ?_) rfl (by kernel_rfl) (by rfl) (fun _ _ _ h => h) hS ?_ ?_; rotate_left; (· rintro W' ⟨z0, z1, z2, z3, z4, z5, z6, z7, z8, z9, z10, z11, z12, z13⟩; go_simp; try with_reducible rfl); try simp only [Act.put, putA, putZ, putS])
      refine tk0 ?_
      refine wpAnyH_ready (rs := [39]) (by kernel_rfl) (by simp) ?_
      refine AllReadyH.cons (o := ⟨some 102, _, _, _, _, _⟩) rfl (fun K hK => ?_) AllReadyH.nil
      go_simp
      refine (HTB.out _ (below_step HB15.out HAX.out)).mono ?_
      rintro _ X0 ⟨vT, rfl, hlT, hb0⟩
      (try go_wp2_with fail)
      have HA0 := Lib.hid (below_step HAX.out hb0)
      have HT0 := Lib.hid hlT
      refine hK.out _ _ (HC6.out X0 (below_step HB15.out HA0.out)) (fun hS => ?_)
      clear hK K
      try simp only [Act.put, putA, putZ, putS]
      clear hb0 hlT
      refine wpAnyH_ready (rs := [41]) (by kernel_rfl) (by simp) ?_
      refine AllReadyH.cons (o := ⟨some 104, _, _, _, _, _⟩) rfl (fun K hK => ?_) AllReadyH.nil
      go_simp
      refine (HTR.out _ (below_step HB15.out HA0.out)).mono ?_
      rintro _ X1 ⟨xT, rfl, hxT, hb1⟩
      (try go_wp2_with fail)
      have HA1 := Lib.hid (below_step HA0.out hb1)
      have HT1 := Lib.hid (HT0.out.below hb1)
      have HXT := Lib.hid hxT
      refine hK.out _ _ (HC6.out X1 (below_step HB15.out HA1.out)) (fun hS => ?_)
      clear hK K
      try simp only [Act.put, putA, putZ, putS]
      clear hb1 hxT
      refine wpAnyH_ready (rs := [42]) (by kernel_rfl) (by simp) ?_
      refine AllReadyH.cons (o := ⟨some 105, _, _, _, _, _⟩) rfl (fun K hK => ?_) AllReadyH.nil
      go_simp
      refine (HPR.out _ _ _ HT1.out HXT.out).mono ?_
      rintro _ X2 ⟨rfl, hb2⟩
      (try go_wp2_with fail)
      have HA2 := Lib.hid (below_step HA1.out hb2)
      refine hK.out _ _ (HC6.out X2 (below_step HB15.out HA2.out)) (fun hS => ?_)
      clear hK K
      try simp only [Act.put, putA, putZ, putS]
      clear hb2
      refine tk [43, 44] ?_
      repeat (refine tkH (oi := ⟨_, _, _, _, _, _⟩) (v := ?_) rfl (by kernel_rfl) (by rfl) (fun _ _ _ h => h) hS ?_ ?_; rotate_left; (· rintro W' ⟨z0, z1, z2, z3, z4, z5, z6, z7, z8, z9, z10, z11, z12, z13⟩; go_simp; try with_reducible rfl); try simp only [Act.put, putA, putZ, putS])
      refine tk0 ?_
      refine wpAnyH_done (by kernel_rfl) ?_ _
      go_wp2_with fail
      go_meet
      exact ⟨by trivial, HA2.out⟩
    · refine wp_region_held_drew (S := fun X => X.cell? ⟨w.heap.size, 0, none⟩ = some (.slice uca t.nc ucc) ∧ X.cell? ⟨w.heap.size, 1, none⟩ = some (.slice uba t.nb ubc) ∧ X.cell? ⟨w.heap.size, 2, none⟩ = some (.slice ura t.nr urc) ∧ X.cell? ⟨w.heap.size, 3, none⟩ = some (.slice una t.nn unc) ∧ X.cell? ⟨w5.heap.size, 0, none⟩ = some (.slice vca y.nc vcc) ∧ X.cell? ⟨w5.heap.size, 1, none⟩ = some (.slice vba y.nb vbc) ∧ X.cell? ⟨w5.heap.size, 2, none⟩ = some (.slice vra y.nr vrc) ∧ X.cell? ⟨w5.heap.size, 3, none⟩ = some (.slice vna y.nn vnc) ∧ X.cell? ⟨w5.heap.size + 1, 0, none⟩ = some (.slice xfa x.nf xfc) ∧ X.cell? ⟨w5.heap.size + 1, 1, none⟩ = some (.slice xba x.nb xbc) ∧ X.cell? ⟨w5.heap.size + 1, 2, none⟩ = some (.slice xda x.nd xdc) ∧ X.cell? ⟨w5.heap.size + 1, 3, none⟩ = some (.slice xma x.nm xmc) ∧ X.cell? ⟨w.heap.size + 1, 0, none⟩ = some (.int .i64 b0) ∧ X.cell? ⟨w.heap.size + 1, 1, none⟩ = some (.int .i64 b1)) (by kernel_rfl) (HC6.out _ (below_step HB15.out HAX.out)) (fun hS => ?_)
      generalize w15.drew = X at *
      refine tk [0, 1, 2, 3, 4, 5, 6, 7, 8, 9, 10, 11, 12] ?_
      repeat (refine tkH (oi := ⟨_, _, _, _, _, _⟩) (v := ?_) rfl (by kernel_rfl) (by rfl) (fun _ _ _ h => h) hS ?_ ?_; rotate_left; (· rintro W' ⟨z0, z1, z2, z3, z4, z5, z6, z7, z8, z9, z10, z11, z12, z13⟩; go_simp; try with_reducible rfl); try simp only [Act.put, putA, putZ, putS])
      refine tk0 ?_
      refine wpAnyH_take (i := 13) (oi := ⟨some 76, _, _, _, _, _⟩) (v := undef) rfl (by kernel_rfl) (by kernel_rfl) (by kernel_rfl) (fun _ _ _ h => h) (Or.inr ⟨by rfl, rfl⟩) hS ?_
      try simp only [Act.put, putA, putZ, putS]
      refine wpAnyH_take (i := 14) (oi := ⟨some 77, _, _, _, _, _⟩) (v := undef) rfl (by kernel_rfl) (by kernel_rfl) (by kernel_rfl) (fun _ _ _ h => h) (Or.inr ⟨by rfl, rfl⟩) hS ?_
      try simp only [Act.put, putA, putZ, putS]
      refine tk [15, 16, 17, 18, 19, 20, 21, 22, 23] ?_
      repeat (refine tkH (oi := ⟨_, _, _, _, _, _⟩) (v := ?_) rfl (by kernel_rfl) (by rfl) (fun _ _ _ h => h) hS ?_ ?_; rotate_left; (· rintro W' ⟨z0, z1, z2, z3, z4, z5, z6, z7, z8, z9, z10, z11, z12, z13⟩; go_simp; try with_reducible rfl); try simp only [Act.put, putA, putZ, putS])
      refine tk0 ?_
      refine wpAnyH_ready (rs := [24]) (by kernel_rfl) (by simp) ?_
      refine AllReadyH.cons (o := ⟨some 87, _, _, _, _, _⟩) rfl (fun K hK => ?_) AllReadyH.nil
      go_simp
      refine (HGR.out _ (below_step HB15.out HAX.out)).mono ?_
      rintro _ X0 ⟨rfl, hb0⟩
      (try go_wp2_with fail)
      have HA0 := Lib.hid (below_step HAX.out hb0)
      refine hK.out _ _ (HC6.out X0 (below_step HB15.out HA0.out)) (fun hS => ?_)
      clear hK K
      try simp only [Act.put, putA, putZ, putS]
      clear hb0
      refine tk [25, 26, 27, 28, 29, 30, 31, 32, 33, 34, 35, 36, 37, 38, 40] ?_
      repeat (refine tkH (oi := ⟨_, _, _, _, _, _⟩) (v := ?_) rfl (by kernel_rfl) (by rfl) (fun _ _ _ h => h) hS ?_ ?_; rotate_left; (· rintro W' ⟨z0, z1, z2, z3, z4, z5, z6, z7, z8, z9, z10, z11, z12, z13⟩; go_simp; try with_reducible rfl); try simp only [Act.put, putA, putZ, putS])
      refine tk0 ?_
      refine wpAnyH_ready (rs := [39]) (by kernel_rfl) (by simp) ?_
      refine AllReadyH.cons (o := ⟨some 102, _, _, _, _, _⟩) rfl (fun K hK => ?_) AllReadyH.nil
      go_simp
      refine (HTB.out _ (below_step HB15.out HA0.out)).mono ?_
      rintro _ X1 ⟨vT, rfl, hlT, hb1⟩
      (try go_wp2_with fail)
      have HA1 := Lib.hid (below_step HA0.out hb1)
      have HT1 := Lib.hid hlT
      refine hK.out _ _ (HC6.out X1 (below_step HB15.out HA1.out)) (fun hS => ?_)
      clear hK K
      try simp only [Act.put, putA, putZ, putS]
      clear hb1 hlT
      refine wpAnyH_ready (rs := [41]) (by kernel_rfl) (by simp) ?_
      refine AllReadyH.cons (o := ⟨some 104, _, _, _, _, _⟩) rfl (fun K hK => ?_) AllReadyH.nil
      go_simp
      refine (HTR.out _ (below_step HB15.out HA1.out)).mono ?_
      rintro _ X2 ⟨xT, rfl, hxT, hb2⟩
      (try go_wp2_with fail)
      have HA2 := Lib.hid (below_step HA1.out hb2)
      have HT2 := Lib.hid (HT1.out.below hb2)
      have HXT := Lib.hid hxT
      refine hK.out _ _ (HC6.out X2 (below_step HB15.out HA2.out)) (fun hS => ?_)
      clear hK K
      try simp only [Act.put, putA, putZ, putS]
      clear hb2 hxT
      refine wpAnyH_ready (rs := [42]) (by kernel_rfl) (by simp) ?_
      refine AllReadyH.cons (o := ⟨some 105, _, _, _, _, _⟩) rfl (fun K hK => ?_) AllReadyH.nil
      go_simp
      refine (HPR.out _ _ _ HT2.out HXT.out).mono ?_
      rintro _ X3 ⟨rfl, hb3⟩
      (try go_wp2_with fail)
      have HA3 := Lib.hid (below_step HA2.out hb3)
      refine hK.out _ _ (HC6.out X3 (below_step HB15.out HA3.out)) (fun hS => ?_)
      clear hK K
      try simp only [Act.put, putA, putZ, putS]
      clear hb3
      refine tk [43, 44] ?_
      repeat (refine tkH (oi := ⟨_, _, _, _, _, _⟩) (v := ?_) rfl (by kernel_rfl) (by rfl) (fun _ _ _ h => h) hS ?_ ?_; rotate_left; (· rintro W' ⟨z0, z1, z2, z3, z4, z5, z6, z7, z8, z9, z10, z11, z12, z13⟩; go_simp; try with_reducible rfl); try simp only [Act.put, putA, putZ, putS])
      refine tk0 ?_
      refine wpAnyH_done (by kernel_rfl) ?_ _
      go_wp2_with fail
      go_meet
      exact ⟨by trivial, HA3.out⟩
  rename World => w16
  obtain ⟨rfl, hb16⟩ := hcut
  have HB16 := Lib.hid (below_step HB15.out hb16); have HRB16 := Lib.hid (HRB15.out.below hb16); have HPT16 := Lib.hid (HPT15.out.below hb16)
  clear hb16 HB15 HRB15 HPT15 HPR HTR
  go_wp2_with fail
  have HBN := Lib.hid (fun (c g : Nat) (hc : c < y.nc) (hg : g < y.ng) => (HLIV.out.would off0).2 c g hc hg)
  go_loopw [17] (fun i wr => ∃ c : Nat, c ≤ y.nc ∧ i = .int .i64 c ∧ Below w16.heap.size w16 wr) (fun i _ => y.nc - (intOf i).toNat)
  case atStart => exact ⟨0, Nat.zero_le _, rfl, Below.refl _ _⟩
  case round =>
    obtain ⟨c, hc, rfl, hbx⟩ := hrel
    rename World => wx
    have HBX := Lib.hid hbx
    clear hbx
    have ci : (0 : Int) ≤ (c : Int) := by omega
    by_cases hlt : c < y.nc
    · have cj : (c : Int) < (y.nc : Int) := by omega
      obtain ⟨sb, so, qa, qc, rfl, hsb, x1, hsr⟩ := HIR.out.at (k := c) hlt
      obtain ⟨ra, rc, hob, x2, hbr⟩ := rows_get0 HRB16.out hlt
      have HSR := Lib.hid hsr; have HBR := Lib.hid hbr
      have HC12 : Hid (∀ X, Below w16.heap.size w16 X → (X.cell? ⟨sb, so + c, none⟩ = some (.slice qa y.ng qc) ∧ X.cell? ⟨OB, c, none⟩ = some (.slice ra y.ng rc))) := fun X hX => ⟨kept (below_step HB16.out hX) hsb x1, kept hX hob x2⟩
      clear x1 x2 hsb hob hsr hbr
      go_wp2_with fail
      go_cut [124] (fun s124 wy => s124 = .bool false ∧ Below w16.heap.size w16 wy)
      case first => as_aux_lemma =>
        have HAX := Lib.hid (HBX.out.drew)
        refine wp_region_held_drew (S := fun X => X.cell? ⟨sb, so + c, none⟩ = some (.slice qa y.ng qc) ∧ X.cell? ⟨OB, c, none⟩ = some (.slice ra y.ng rc)) (by kernel_rfl) (HC12.out _ HAX.out) (fun hS => ?_)
        generalize wx.drew = X at *
        refine tk [0, 1, 2, 3, 4, 5, 6, 7, 8, 9, 10] ?_
        repeat (refine tkH (oi := ⟨_, _, _, _, _, _⟩) (v := ?_) rfl (by kernel_rfl) (by rfl) (fun _ _ _ h => h) hS ?_ ?_; rotate_left; (· rintro W' ⟨z0, z1⟩; go_simp; try with_reducible rfl); try simp only [Act.put, putA, putZ, putS])
        refine tk0 ?_
        refine wpAnyH_done (by kernel_rfl) ?_ _
        go_wp2_with fail
        go_meet
        exact ⟨by trivial, HAX.out⟩
      rename World => wy
      obtain ⟨rfl, hby⟩ := hcut
      have HBY := Lib.hid hby
      clear hby HBX
      have x1 := (HC12.out _ HBY.out).1
      go_wp2_with fail
      go_loopw [18] (fun i wr => ∃ g : Nat, g ≤ y.ng ∧ i = .int .i64 g ∧ Below w16.heap.size w16 wr) (fun i _ => y.ng - (intOf i).toNat)
      case atStart => exact ⟨0, Nat.zero_le _, rfl, HBY.out⟩
      case round =>
        obtain ⟨g, hg, rfl, hbx⟩ := hrel
        rename World => wv
        have HBX := Lib.hid hbx
        clear hbx x1 HBY
        have x1 := (HC12.out _ HBX.out).1
        have gi : (0 : Int) ≤ (g : Int) := by omega
        by_cases hlg : g < y.ng
        · as_aux_lemma =>
          have gj : (g : Int) < (y.ng : Int) := by omega
          obtain ⟨qb, qo, rfl, hqb, x3⟩ := HSR.out.at (k := g) hlg
          obtain ⟨rb, ro, rfl, hrb, x4, x5⟩ := HBR.out.at (k := g) hlg
          obtain ⟨B1, B2, hB⟩ : ∃ B1 B2, bndR y off0 c g = (B1, B2) := ⟨_, _, rfl⟩
          obtain ⟨sz, HSZ⟩ : ∃ sz, Hid (siz y.ng x c g = sz) := ⟨_, rfl⟩
          have hin := HBN.out c g hlt hlg
          rw [hB, HSZ.out] at hin
          obtain ⟨hn1, hn2⟩ := hin
          simp only at hn1 hn2
          rw [hB] at x4 x5
          rw [HSZ.out] at x3
          have HC18 : Hid (∀ X, Below w16.heap.size w16 X → (X.cell? ⟨sb, so + c, none⟩ = some (.slice (some ⟨qb, qo, none⟩) y.ng qc) ∧ X.cell? ⟨qb, qo + g, none⟩ = some (.int .i64 sz) ∧ X.cell? ⟨OB, c, none⟩ = some (.slice (some ⟨rb, ro, none⟩) y.ng rc) ∧ X.cell? ⟨rb, ro + g * 2, none⟩ = some (.int .i64 B1) ∧ X.cell? ⟨rb, ro + g * 2 + 1, none⟩ = some (.int .i64 B2))) := fun X hX => ⟨(HC12.out X hX).1, kept (below_step HB16.out hX) hqb x3, (HC12.out X hX).2, kept hX hrb x4, kept hX hrb x5⟩
          have HWO2 : Hid (∀ (X : World) (v' : WV), WL X v' y → Calls Try.prog 19 #[.agg #[.slice v'.ca y.nc v'.cc, .slice v'.ba y.nb v'.bc, .slice v'.ra y.nr v'.rc, .slice v'.na y.nn v'.nc], .agg #[.int .i64 c, .int .i64 g]] X fun e w' => ∃ W1 W2, e = .returned (.tuple #[.agg #[.int .i64 W1, .int .i64 W2], .int .i64 0]) ∧ W1 ≤ sz ∧ sz ≤ W2 ∧ Below X.heap.size X w') := fun X v' h => by
            have h2 := HWO.out X v' c g h hlt hlg
            rw [HSZ.out] at h2
            exact h2
          clear x3 x4 x5 hqb hrb hB
          have k0 := (HC6.out _ (below_step HB16.out HBX.out)).2.2.2.2.1
          have k1 := (HC6.out _ (below_step HB16.out HBX.out)).2.2.2.2.2.1
          have k2 := (HC6.out _ (below_step HB16.out HBX.out)).2.2.2.2.2.2.1
          have k3 := (HC6.out _ (below_step HB16.out HBX.out)).2.2.2.2.2.2.2.1
          go_wp2_with fail
          refine (HTB.out _ (below_step HB16.out HBX.out)).mono ?_
          rintro _ wa1 ⟨va1, rfl, hla1, hba1⟩
          go_wp2_with fail
          refine (HWO2.out _ _ hla1).mono ?_
          rintro _ wa2 ⟨W1, W2, rfl, hW1, hW2, hba2⟩
          have HBA := Lib.hid (below_step HBX.out (below_step hba1 hba2))
          clear hla1 hba1 hba2 k0 k1 k2 k3 x1
          have HAA : Hid (BF w16 (wa2.alloc (.cells #[.int .i64 W1, .int .i64 W2] 29)) [(wa2.heap.size, #[.int .i64 W1, .int .i64 W2], 29)]) := Lib.hid (((BF.base w16).below HBA.out).alloc _ _)
          go_wp2_with fail
          obtain ⟨WB, hWB⟩ : ∃ WB, WB = wa2.heap.size := ⟨_, rfl⟩
          rw [← hWB] at HAA ⊢
          generalize (wa2.alloc (.cells #[.int .i64 W1, .int .i64 W2] 29)) = wa3 at *
          clear hWB
          go_cut [204] (fun s204 wy => s204 = .bool false ∧ Below w16.heap.size w16 wy)
          case first => as_aux_lemma =>
            have HAX := Lib.hid (HAA.out.below (Below.refl _ wa3).drew)
            obtain ⟨u1, u2, u3, u4, u5⟩ := HC18.out _ HAX.out.fr
            refine wp_region_held_drew (S := fun X => X.cell? ⟨sb, so + c, none⟩ = some (.slice (some ⟨qb, qo, none⟩) y.ng qc) ∧ X.cell? ⟨qb, qo + g, none⟩ = some (.int .i64 sz) ∧ X.cell? ⟨OB, c, none⟩ = some (.slice (some ⟨rb, ro, none⟩) y.ng rc) ∧ X.cell? ⟨rb, ro + g * 2, none⟩ = some (.int .i64 B1) ∧ X.cell? ⟨rb, ro + g * 2 + 1, none⟩ = some (.int .i64 B2) ∧ X.cell? ⟨WB, 0, none⟩ = some (.int .i64 W1) ∧ X.cell? ⟨WB, 1, none⟩ = some (.int .i64 W2)) (by kernel_rfl) (⟨u1, u2, u3, u4, u5, HAX.out.cell (.head _) 0, HAX.out.cell (.head _) 1⟩) (fun hS => ?_)
            clear u1 u2 u3 u4 u5
            generalize wa3.drew = X at *
            refine tk [0, 1, 2, 3, 4, 5, 6, 7, 8, 9, 10, 11, 12, 13, 14] ?_
            repeat (refine tkH (oi := ⟨_, _, _, _, _, _⟩) (v := ?_) rfl (by kernel_rfl) (by rfl) (fun _ _ _ h => h) hS ?_ ?_; rotate_left; (· rintro W' ⟨z0, z1, z2, z3, z4, z5, z6⟩; go_simp; try with_reducible rfl); try simp only [Act.put, putA, putZ, putS])
            refine tk0 ?_
            refine tH 15 (oi := ⟨_, _, _, _, _, _⟩) (v := .bool false) rfl (by kernel_rfl) (by rfl) (fun _ _ _ h => h) hS ?_ ?_
            · rintro W' ⟨z0, z1, z2, z3, z4, z5, z6⟩; go_simp; (try omega)
            try simp only [Act.put, putA, putZ, putS]
            refine tk [16, 17, 18, 19, 20, 21, 22, 23, 24, 25, 26, 27, 28, 29, 30, 31] ?_
            repeat (refine tkH (oi := ⟨_, _, _, _, _, _⟩) (v := ?_) rfl (by kernel_rfl) (by rfl) (fun _ _ _ h => h) hS ?_ ?_; rotate_left; (· rintro W' ⟨z0, z1, z2, z3, z4, z5, z6⟩; go_simp; try with_reducible rfl); try simp only [Act.put, putA, putZ, putS])
            refine tk0 ?_
            refine tH 32 (oi := ⟨_, _, _, _, _, _⟩) (v := .bool false) rfl (by kernel_rfl) (by rfl) (fun _ _ _ h => h) hS ?_ ?_
            · rintro W' ⟨z0, z1, z2, z3, z4, z5, z6⟩; go_simp; (try omega)
            try simp only [Act.put, putA, putZ, putS]
            refine tk [33, 34, 35, 36, 37, 38, 39, 40, 41, 42, 43, 44, 45, 46, 47] ?_
            repeat (refine tkH (oi := ⟨_, _, _, _, _, _⟩) (v := ?_) rfl (by kernel_rfl) (by rfl) (fun _ _ _ h => h) hS ?_ ?_; rotate_left; (· rintro W' ⟨z0, z1, z2, z3, z4, z5, z6⟩; go_simp; try with_reducible rfl); try simp only [Act.put, putA, putZ, putS])
            refine tk0 ?_
            refine tH 48 (oi := ⟨_, _, _, _, _, _⟩) (v := .bool false) rfl (by kernel_rfl) (by rfl) (fun _ _ _ h => h) hS ?_ ?_
            · rintro W' ⟨z0, z1, z2, z3, z4, z5, z6⟩; go_simp; (try omega)
            try simp only [Act.put, putA, putZ, putS]
            refine tk [49, 50, 51, 52, 53, 54, 55, 56, 57, 58, 59] ?_
            repeat (refine tkH (oi := ⟨_, _, _, _, _, _⟩) (v := ?_) rfl (by kernel_rfl) (by rfl) (fun _ _ _ h => h) hS ?_ ?_; rotate_left; (· rintro W' ⟨z0, z1, z2, z3, z4, z5, z6⟩; go_simp; try with_reducible rfl); try simp only [Act.put, putA, putZ, putS])
            refine tk0 ?_
            refine tH 60 (oi := ⟨_, _, _, _, _, _⟩) (v := .bool false) rfl (by kernel_rfl) (by rfl) (fun _ _ _ h => h) hS ?_ ?_
            · rintro W' ⟨z0, z1, z2, z3, z4, z5, z6⟩; go_simp; (try omega)
            try simp only [Act.put, putA, putZ, putS]
            refine tH 61 (oi := ⟨_, _, _, _, _, _⟩) (v := ?_) rfl (by kernel_rfl) (by rfl) (fun _ _ _ h => h) hS ?_ ?_
            rotate_left
            · rintro W' ⟨z0, z1, z2, z3, z4, z5, z6⟩; go_simp; try with_reducible rfl
            try simp only [Act.put, putA, putZ, putS]
            refine wpAnyH_done (by kernel_rfl) ?_ _
            go_wp2_with fail
            go_meet
            exact ⟨by trivial, HAX.out.fr⟩
          rename World => wb
          obtain ⟨rfl, hbb⟩ := hcut
          have HBB2 := Lib.hid hbb
          clear hbb
          go_wp2_with fail
          go_roundw
          case rel => exact ⟨g + 1, by omega, by go_num, HBB2.out⟩
          case measure => simp [intOf]; omega
        · obtain rfl : g = y.ng := by omega
          go_wp2_with fail
          go_roundw
          case rel => exact ⟨c + 1, by omega, by go_num, HBX.out⟩
          case measure => simp [intOf]; omega
    · as_aux_lemma =>
      obtain rfl : c = y.nc := by omega
      have HB17 := Lib.hid (below_step HB16.out HBX.out); have HPT17 := Lib.hid (HPT16.out.below HBX.out)
      have tnc1 := HTO.out.nc1; have tnc4 := HTO.out.nc4; have tnb9 : t.nb ≤ 9 := by have := HTO.out.nb; omega
      have HW0 : Hid (Below w.heap.size w wx) := (HA6.out.below HB17.out).fr
      obtain ⟨qc, oc, F, rfl, hqc, hF⟩ := rows_fn HT0.out.l.1 (by omega)
      obtain ⟨fa, frc, hF0⟩ := (hF 0 (by omega)).2.slice
      have HF := Lib.hid hF; have HF0 := Lib.hid hF0
      clear hF hF0 HPT16 HRB16 HBN HWO HTB HB16 HBX HWL HXL
      obtain ⟨k0, k1, k2, k3, _⟩ := HC6.out _ HB17.out
      have nc0 : 0 < t.nc := by omega
      have HX18 : Hid (BF wx (wx.alloc (.cells #[.slice (some ⟨qc, oc, none⟩) t.nc ucc, .slice uba t.nb ubc, .slice ura t.nr urc, .slice una t.nn unc] 25)) [(wx.heap.size, #[.slice (some ⟨qc, oc, none⟩) t.nc ucc, .slice uba t.nb ubc, .slice ura t.nr urc, .slice una t.nn unc], 25)]) := (BF.base wx).alloc _ _
      go_wp2_with fail
      clear k0 k1 k2 k3
      have HR18 := Lib.hid (Rws.nil4 wx.heap.size (wx.alloc (.cells #[.slice (some ⟨qc, oc, none⟩) t.nc ucc, .slice uba t.nb ubc, .slice ura t.nr urc, .slice una t.nn unc] 25)) 23 43 1 2)
      generalize (wx.alloc (.cells #[.slice (some ⟨qc, oc, none⟩) t.nc ucc, .slice uba t.nb ubc, .slice ura t.nr urc, .slice una t.nn unc] 25)) = w18 at *
      have HC21 : Hid (∀ X, Below wx.heap.size wx X → (X.cell? ⟨w.heap.size, 0, none⟩ = some (.slice (some ⟨qc, oc, none⟩) t.nc ucc) ∧ X.cell? ⟨w.heap.size, 1, none⟩ = some (.slice uba t.nb ubc) ∧ X.cell? ⟨qc, oc, none⟩ = some (.slice fa (t.rl 0) frc) ∧ X.cell? ⟨w.heap.size + 1, 0, none⟩ = some (.int .i64 b0) ∧ X.cell? ⟨w.heap.size + 1, 1, none⟩ = some (.int .i64 b1))) := fun X hX => by
        have h := HC6.out X (below_step HB17.out hX)
        have h2 := (HF.out 0 (by omega)).1
        rw [HF0.out] at h2
        exact ⟨h.1, h.2.1, kept (below_step HW0.out hX) hqc h2, h.2.2.2.2.2.2.2.2.2.2.2.2.1, h.2.2.2.2.2.2.2.2.2.2.2.2.2⟩
      go_cut [] (fun wy => ∃ hb hc J Jc, BF wx wy [(wx.heap.size, #[.slice (some ⟨hb, 0, none⟩) (t.nc + 1) hc, .slice uba t.nb ubc, .slice ura t.nr urc, .slice una t.nn unc], 25)] ∧ Rws wx.heap.size wy [⟨23, 1, .slice (some ⟨hb, 0, none⟩) (t.nc + 1) hc, t.nc + 1, (List.range t.nc).map F ++ [.slice fa (t.rl 0) frc]⟩, ⟨43, 2, .slice none 0 0, 0, []⟩, ⟨23, 1, .slice (some ⟨J, 0, none⟩) 1 Jc, 1, [.slice fa (t.rl 0) frc]⟩, ⟨43, 2, .slice none 0 0, 0, []⟩])
      case first => as_aux_lemma =>
        have HAX := Lib.hid (HX18.out.below (Below.refl _ w18).drew)
        have HRX := Lib.hid (HR18.out.below (Below.refl _ w18).drew)
        refine wp_region_Z (S := fun X => X.cell? ⟨w.heap.size, 0, none⟩ = some (.slice (some ⟨qc, oc, none⟩) t.nc ucc) ∧ X.cell? ⟨w.heap.size, 1, none⟩ = some (.slice uba t.nb ubc) ∧ X.cell? ⟨qc, oc, none⟩ = some (.slice fa (t.rl 0) frc) ∧ X.cell? ⟨w.heap.size + 1, 0, none⟩ = some (.int .i64 b0) ∧ X.cell? ⟨w.heap.size + 1, 1, none⟩ = some (.int .i64 b1)) (by kernel_rfl) (HC21.out _ HAX.out.fr) (fun hS => ?_)
        generalize w18.drew = X at *
        refine tk [1, 2, 4, 5, 6, 7] ?_
        repeat (refine tkZ (oi := ⟨_, _, _, _, _, _⟩) (v := ?_) rfl (by kernel_rfl) (by rfl) (fun _ _ _ h => h) hS ?_ ?_; rotate_left; (· rintro W' ⟨z0, z1, z2, z3, z4⟩; go_simp; try with_reducible rfl); try simp only [Act.put, putA, putZ, putS])
        refine tk0 ?_
        refine wpAnyZ_next (rs := [0, 8]) (by kernel_rfl) (by simp) ?_
        refine NextZ.cons (o := ⟨some 206, _, _, _, _, _⟩) rfl (fun K hK => ?_) ?_
        ·
         go_simp
         have HA0 := Lib.hid (HAX.out.below (below_alloc X (.cells #[] 23)))
         have HR0 : Hid (Rws wx.heap.size (X.alloc (.cells #[] 23)) [⟨23, 1, .slice (some ⟨X.heap.size, 0, none⟩) 0 0, 0, []⟩, ⟨43, 2, .slice none 0 0, 0, []⟩, ⟨23, 1, .slice none 0 0, 0, []⟩, ⟨43, 2, .slice none 0 0, 0, []⟩]) := HRX.out.made HAX.out.fr.size 0 23 1
         refine hK.out _ _ (HC21.out (X.alloc (.cells #[] 23)) HA0.out.fr) (fun hS => ?_)
         clear hK K
         try simp only [Act.put, putA, putZ, putS]
         generalize X.heap.size = J20 at *
         generalize (X.alloc (.cells #[] 23)) = X0 at *
         refine wpAnyZ_next (rs := [3, 8]) (by kernel_rfl) (by simp) ?_
         refine NextZ.cons (o := ⟨some 209, _, _, _, _, _⟩) rfl (fun K hK => ?_) ?_
         ·
          refine step_append_src X0 (by rfl) (.tmp 206) (.tmp 208) 22 (by rfl) wx.heap.size 23 i1 (.slice none 0 0) 1 24 Try.underlying22 hi1 hy0 hy1 hy2 rfl (by decide) (.slice (some ⟨J20, 0, none⟩) 0 0) (0) ([]) (by rfl) (HR0.out.own 0 _ rfl) (some ⟨qc, oc, none⟩) t.nc ucc ((List.range t.nc).map F) (by rfl) ⟨by simp, fun j v hv => by
            have hj : j < t.nc := by have := (List.getElem?_eq_some_iff.1 hv).1; simpa using this
            rw [List.getElem?_map, List.getElem?_range hj] at hv
            cases hv
            refine ⟨_, rfl, ?_⟩
            rw [addr_add]
            exact kept (below_step HW0.out HA0.out.fr) hqc (HF.out j hj).1⟩ (by
            intro v hv
            simp only [List.mem_map, List.mem_range] at hv
            obtain ⟨j, hj, rfl⟩ := hv
            obtain ⟨xa, xc, hx⟩ := (HF.out j hj).2.slice
            rw [hx]; rfl) (by unfold maxLen; omega) (by omega) HA0.out.fr.size ?_
          intro v1 X1 hown hgr hl
          rw [Nat.zero_add, List.nil_append] at hown
          obtain ⟨qa1, qc1, rfl⟩ := own_slice' hown
          have HA1 := Lib.hid (BF.grow HA0.out HR0.out (i := 0) rfl (List.forall_mem_cons.2 ⟨(show 25 ≠ 23 by decide), List.forall_mem_nil _⟩) (Nat.le_refl _) hgr)
          have HR1 : Hid (Rws wx.heap.size X1 [⟨23, 1, .slice qa1 t.nc qc1, t.nc, (List.range t.nc).map F⟩, ⟨43, 2, .slice none 0 0, 0, []⟩, ⟨23, 1, .slice none 0 0, 0, []⟩, ⟨43, 2, .slice none 0 0, 0, []⟩]) := HR0.out.app2 (i := 0) rfl hown hgr hl
          clear hown hgr hl
          refine hK.out _ _ (HC21.out X1 HA1.out.fr) (fun hS => ?_)
          clear hK K
          try simp only [Act.put, putA, putZ, putS]
          refine wpAnyZ_next (rs := [8]) (by kernel_rfl) (by simp) ?_
          refine NextZ.cons (o := ⟨some 214, _, _, _, _, _⟩) rfl (fun K hK => ?_) NextZ.nil
          go_simp
          have HA2 := Lib.hid (HA1.out.below (below_alloc X1 (.cells #[.slice fa (t.rl 0) frc] 23)))
          have HR2 : Hid (Rws wx.heap.size (X1.alloc (.cells #[.slice fa (t.rl 0) frc] 23)) [⟨23, 1, .slice qa1 t.nc qc1, t.nc, (List.range t.nc).map F⟩, ⟨43, 2, .slice none 0 0, 0, []⟩, ⟨23, 1, .slice (some ⟨X1.heap.size, 0, none⟩) 1 1, 1, [.slice fa (t.rl 0) frc]⟩, ⟨43, 2, .slice none 0 0, 0, []⟩]) := HR1.out.new (i := 2) (sz := 1) (n := 1) rfl HA1.out.fr.size rfl (by unfold maxLen; omega)
          refine hK.out _ _ (HC21.out (X1.alloc (.cells #[.slice fa (t.rl 0) frc] 23)) HA2.out.fr) (fun hS => ?_)
          clear hK K
          try simp only [Act.put, putA, putZ, putS]
          generalize X1.heap.size = J21 at *
          generalize (X1.alloc (.cells #[.slice fa (t.rl 0) frc] 23)) = X2 at *
          refine wpAnyZ_next (rs := [9]) (by kernel_rfl) (by simp) ?_
          refine NextZ.cons (o := ⟨some 215, _, _, _, _, _⟩) rfl (fun K hK => ?_) NextZ.nil
          refine step_append_src X2 (by rfl) (.tmp 209) (.tmp 214) 22 (by rfl) wx.heap.size 23 i1 (.slice none 0 0) 1 24 Try.underlying22 hi1 hy0 hy1 hy2 rfl (by decide) (.slice qa1 t.nc qc1) (t.nc) ((List.range t.nc).map F) (by rfl) (HR2.out.own 0 _ rfl) (some ⟨J21, 0, none⟩) 1 1 [.slice fa (t.rl 0) frc] (by rfl) (own_src (HR2.out.own 2 _ rfl)) (by simp [Value.oneCell']) (by unfold maxLen; omega) (by omega) HA2.out.fr.size ?_
          intro v3 X3 hown hgr hl
          obtain ⟨qa3, qc3, rfl⟩ := own_slice' hown
          obtain ⟨hbk, rfl⟩ := own_somep hown (by omega)
          have HA3 := Lib.hid (BF.grow HA2.out HR2.out (i := 0) rfl (List.forall_mem_cons.2 ⟨(show 25 ≠ 23 by decide), List.forall_mem_nil _⟩) (Nat.le_refl _) hgr)
          have HR3 : Hid (Rws wx.heap.size X3 [⟨23, 1, .slice (some ⟨hbk, 0, none⟩) (t.nc + 1) qc3, t.nc + 1, (List.range t.nc).map F ++ [.slice fa (t.rl 0) frc]⟩, ⟨43, 2, .slice none 0 0, 0, []⟩, ⟨23, 1, .slice (some ⟨J21, 0, none⟩) 1 1, 1, [.slice fa (t.rl 0) frc]⟩, ⟨43, 2, .slice none 0 0, 0, []⟩]) := HR2.out.app2 (i := 0) rfl hown hgr hl
          clear hown hgr hl
          refine hK.out _ _ (HC21.out X3 HA3.out.fr) (fun hS => ?_)
          clear hK K
          try simp only [Act.put, putA, putZ, putS]
          refine tZ 10 (oi := ⟨_, _, _, _, _, _⟩) (v := ?_) rfl (by kernel_rfl) (by rfl) (fun _ _ _ h => h) hS ?_ ?_
          rotate_left
          · rintro W' ⟨z0, z1, z2, z3, z4⟩; go_simp; try with_reducible rfl
          try simp only [Act.put, putA, putZ, putS]
          refine wpAnyZ_next (rs := [11]) (by kernel_rfl) (by simp) ?_
          refine NextZ.last (o := ⟨none, _, _, _, _, _⟩) rfl (by kernel_rfl) (fun K hK => ?_)
          have e0 := HA3.out.cell (.head _) 0
          have f0 := HA3.out.thaw (.head _) 0
          have HA4 := Lib.hid (BF.set1 (i := 0) (cs' := #[.slice (some ⟨hbk, 0, none⟩) (t.nc + 1) qc3, .slice uba t.nb ubc, .slice ura t.nr urc, .slice una t.nn unc]) HA3.out (.head _) (.slice (some ⟨hbk, 0, none⟩) (t.nc + 1) qc3) (by simp) rfl (L' := []) (List.forall_mem_nil _))
          have HR4 : Hid (Rws wx.heap.size (X3.setCell ⟨wx.heap.size, 0, none⟩ (.slice (some ⟨hbk, 0, none⟩) (t.nc + 1) qc3)) [⟨23, 1, .slice (some ⟨hbk, 0, none⟩) (t.nc + 1) qc3, t.nc + 1, (List.range t.nc).map F ++ [.slice fa (t.rl 0) frc]⟩, ⟨43, 2, .slice none 0 0, 0, []⟩, ⟨23, 1, .slice (some ⟨J21, 0, none⟩) 1 1, 1, [.slice fa (t.rl 0) frc]⟩, ⟨43, 2, .slice none 0 0, 0, []⟩]) := HR3.out.tab (HA3.out.bk _ _ _ (.head _)).2 (List.forall_mem_cons.2 ⟨(show 25 ≠ 23 by decide), List.forall_mem_cons.2 ⟨(show 25 ≠ 43 by decide), List.forall_mem_cons.2 ⟨(show 25 ≠ 23 by decide), List.forall_mem_cons.2 ⟨(show 25 ≠ 43 by decide), List.forall_mem_nil _⟩⟩⟩⟩) (Fr.set _ _ _ _)
          go_simp
          refine hK.out _ _ ?_
          clear hK K
          (try simp only [Act.put])
          refine wpAnyZ_done (by kernel_rfl) ?_ _
          go_wp2_with fail
          go_meet
          exact ⟨_, _, _, _, HA4.out, HR4.out⟩
         refine NextZ.cons (o := ⟨some 214, _, _, _, _, _⟩) rfl (fun K hK => ?_) NextZ.nil
         go_simp
         have HA5 := Lib.hid (HA0.out.below (below_alloc X0 (.cells #[.slice fa (t.rl 0) frc] 23)))
         have HR5 : Hid (Rws wx.heap.size (X0.alloc (.cells #[.slice fa (t.rl 0) frc] 23)) [⟨23, 1, .slice (some ⟨J20, 0, none⟩) 0 0, 0, []⟩, ⟨43, 2, .slice none 0 0, 0, []⟩, ⟨23, 1, .slice (some ⟨X0.heap.size, 0, none⟩) 1 1, 1, [.slice fa (t.rl 0) frc]⟩, ⟨43, 2, .slice none 0 0, 0, []⟩]) := HR0.out.new (i := 2) (sz := 1) (n := 1) rfl HA0.out.fr.size rfl (by unfold maxLen; omega)
         refine hK.out _ _ (HC21.out (X0.alloc (.cells #[.slice fa (t.rl 0) frc] 23)) HA5.out.fr) (fun hS => ?_)
         clear hK K
         try simp only [Act.put, putA, putZ, putS]
         generalize X0.heap.size = J21 at *
         generalize (X0.alloc (.cells #[.slice fa (t.rl 0) frc] 23)) = X5 at *
         refine wpAnyZ_next (rs := [3]) (by kernel_rfl) (by simp) ?_
         refine NextZ.cons (o := ⟨some 209, _, _, _, _, _⟩) rfl (fun K hK => ?_) NextZ.nil
         refine step_append_src X5 (by rfl) (.tmp 206) (.tmp 208) 22 (by rfl) wx.heap.size 23 i1 (.slice none 0 0) 1 24 Try.underlying22 hi1 hy0 hy1 hy2 rfl (by decide) (.slice (some ⟨J20, 0, none⟩) 0 0) (0) ([]) (by rfl) (HR5.out.own 0 _ rfl) (some ⟨qc, oc, none⟩) t.nc ucc ((List.range t.nc).map F) (by rfl) ⟨by simp, fun j v hv => by
           have hj : j < t.nc := by have := (List.getElem?_eq_some_iff.1 hv).1; simpa using this
           rw [List.getElem?_map, List.getElem?_range hj] at hv
           cases hv
           refine ⟨_, rfl, ?_⟩
           rw [addr_add]
           exact kept (below_step HW0.out HA5.out.fr) hqc (HF.out j hj).1⟩ (by
           intro v hv
           simp only [List.mem_map, List.mem_range] at hv
           obtain ⟨j, hj, rfl⟩ := hv
           obtain ⟨xa, xc, hx⟩ := (HF.out j hj).2.slice
           rw [hx]; rfl) (by unfold maxLen; omega) (by omega) HA5.out.fr.size ?_
         intro v6 X6 hown hgr hl
         rw [Nat.zero_add, List.nil_append] at hown
         obtain ⟨qa6, qc6, rfl⟩ := own_slice' hown
         have HA6 := Lib.hid (BF.grow HA5.out HR5.out (i := 0) rfl (List.forall_mem_cons.2 ⟨(show 25 ≠ 23 by decide), List.forall_mem_nil _⟩) (Nat.le_refl _) hgr)
         have HR6 : Hid (Rws wx.heap.size X6 [⟨23, 1, .slice qa6 t.nc qc6, t.nc, (List.range t.nc).map F⟩, ⟨43, 2, .slice none 0 0, 0, []⟩, ⟨23, 1, .slice (some ⟨J21, 0, none⟩) 1 1, 1, [.slice fa (t.rl 0) frc]⟩, ⟨43, 2, .slice none 0 0, 0, []⟩]) := HR5.out.app2 (i := 0) rfl hown hgr hl
         clear hown hgr hl
         refine hK.out _ _ (HC21.out X6 HA6.out.fr) (fun hS => ?_)
         clear hK K
         try simp only [Act.put, putA, putZ, putS]
         refine wpAnyZ_next (rs := [9]) (by kernel_rfl) (by simp) ?_
         refine NextZ.cons (o := ⟨some 215, _, _, _, _, _⟩) rfl (fun K hK => ?_) NextZ.nil
         refine step_append_src X6 (by rfl) (.tmp 209) (.tmp 214) 22 (by rfl) wx.heap.size 23 i1 (.slice none 0 0) 1 24 Try.underlying22 hi1 hy0 hy1 hy2 rfl (by decide) (.slice qa6 t.nc qc6) (t.nc) ((List.range t.nc).map F) (by rfl) (HR6.out.own 0 _ rfl) (some ⟨J21, 0, none⟩) 1 1 [.slice fa (t.rl 0) frc] (by rfl) (own_src (HR6.out.own 2 _ rfl)) (by simp [Value.oneCell']) (by unfold maxLen; omega) (by omega) HA6.out.fr.size ?_
         intro v7 X7 hown hgr hl
         obtain ⟨qa7, qc7, rfl⟩ := own_slice' hown
         obtain ⟨hbk, rfl⟩ := own_somep hown (by omega)
         have HA7 := Lib.hid (BF.grow HA6.out HR6.out (i := 0) rfl (List.forall_mem_cons.2 ⟨(show 25 ≠ 23 by decide), List.forall_mem_nil _⟩) (Nat.le_refl _) hgr)
         have HR7 : Hid (Rws wx.heap.size X7 [⟨23, 1, .slice (some ⟨hbk, 0, none⟩) (t.nc + 1) qc7, t.nc + 1, (List.range t.nc).map F ++ [.slice fa (t.rl 0) frc]⟩, ⟨43, 2, .slice none 0 0, 0, []⟩, ⟨23, 1, .slice (some ⟨J21, 0, none⟩) 1 1, 1, [.slice fa (t.rl 0) frc]⟩, ⟨43, 2, .slice none 0 0, 0, []⟩]) := HR6.out.app2 (i := 0) rfl hown hgr hl
         clear hown hgr hl
         refine hK.out _ _ (HC21.out X7 HA7.out.fr) (fun hS => ?_)
         clear hK K
         try simp only [Act.put, putA, putZ, putS]
         refine tZ 10 (oi := ⟨_, _, _, _, _, _⟩) (v := ?_) rfl (by kernel_rfl) (by rfl) (fun _ _ _ h => h) hS ?_ ?_
         rotate_left
         · rintro W' ⟨z0, z1, z2, z3, z4⟩; go_simp; try with_reducible rfl
         try simp only [Act.put, putA, putZ, putS]
         refine wpAnyZ_next (rs := [11]) (by kernel_rfl) (by simp) ?_
         refine NextZ.last (o := ⟨none, _, _, _, _, _⟩) rfl (by kernel_rfl) (fun K hK => ?_)
         have e0 := HA7.out.cell (.head _) 0
         have f0 := HA7.out.thaw (.head _) 0
         have HA8 := Lib.hid (BF.set1 (i := 0) (cs' := #[.slice (some ⟨hbk, 0, none⟩) (t.nc + 1) qc7, .slice uba t.nb ubc, .slice ura t.nr urc, .slice una t.nn unc]) HA7.out (.head _) (.slice (some ⟨hbk, 0, none⟩) (t.nc + 1) qc7) (by simp) rfl (L' := []) (List.forall_mem_nil _))
         have HR8 : Hid (Rws wx.heap.size (X7.setCell ⟨wx.heap.size, 0, none⟩ (.slice (some ⟨hbk, 0, none⟩) (t.nc + 1) qc7)) [⟨23, 1, .slice (some ⟨hbk, 0, none⟩) (t.nc + 1) qc7, t.nc + 1, (List.range t.nc).map F ++ [.slice fa (t.rl 0) frc]⟩, ⟨43, 2, .slice none 0 0, 0, []⟩, ⟨23, 1, .slice (some ⟨J21, 0, none⟩) 1 1, 1, [.slice fa (t.rl 0) frc]⟩, ⟨43, 2, .slice none 0 0, 0, []⟩]) := HR7.out.tab (HA7.out.bk _ _ _ (.head _)).2 (List.forall_mem_cons.2 ⟨(show 25 ≠ 23 by decide), List.forall_mem_cons.2 ⟨(show 25 ≠ 43 by decide), List.forall_mem_cons.2 ⟨(show 25 ≠ 23 by decide), List.forall_mem_cons.2 ⟨(show 25 ≠ 43 by decide), List.forall_mem_nil _⟩⟩⟩⟩) (Fr.set _ _ _ _)
         go_simp
         refine hK.out _ _ ?_
         clear hK K
         (try simp only [Act.put])
         refine wpAnyZ_done (by kernel_rfl) ?_ _
         go_wp2_with fail
         go_meet
         exact ⟨_, _, _, _, HA8.out, HR8.out⟩
        refine NextZ.cons (o := ⟨some 214, _, _, _, _, _⟩) rfl (fun K hK => ?_) NextZ.nil
        go_simp
        have HA9 := Lib.hid (HAX.out.below (below_alloc X (.cells #[.slice fa (t.rl 0) frc] 23)))
        have HR9 : Hid (Rws wx.heap.size (X.alloc (.cells #[.slice fa (t.rl 0) frc] 23)) [⟨23, 1, .slice none 0 0, 0, []⟩, ⟨43, 2, .slice none 0 0, 0, []⟩, ⟨23, 1, .slice (some ⟨X.heap.size, 0, none⟩) 1 1, 1, [.slice fa (t.rl 0) frc]⟩, ⟨43, 2, .slice none 0 0, 0, []⟩]) := HRX.out.new (i := 2) (sz := 1) (n := 1) rfl HAX.out.fr.size rfl (by unfold maxLen; omega)
        refine hK.out _ _ (HC21.out (X.alloc (.cells #[.slice fa (t.rl 0) frc] 23)) HA9.out.fr) (fun hS => ?_)
        clear hK K
        try simp only [Act.put, putA, putZ, putS]
        generalize X.heap.size = J21 at *
        generalize (X.alloc (.cells #[.slice fa (t.rl 0) frc] 23)) = X9 at *
        refine wpAnyZ_next (rs := [0]) (by kernel_rfl) (by simp) ?_
        refine NextZ.cons (o := ⟨some 206, _, _, _, _, _⟩) rfl (fun K hK => ?_) NextZ.nil
        go_simp
        have HA10 := Lib.hid (HA9.out.below (below_alloc X9 (.cells #[] 23)))
        have HR10 : Hid (Rws wx.heap.size (X9.alloc (.cells #[] 23)) [⟨23, 1, .slice (some ⟨X9.heap.size, 0, none⟩) 0 0, 0, []⟩, ⟨43, 2, .slice none 0 0, 0, []⟩, ⟨23, 1, .slice (some ⟨J21, 0, none⟩) 1 1, 1, [.slice fa (t.rl 0) frc]⟩, ⟨43, 2, .slice none 0 0, 0, []⟩]) := HR9.out.made HA9.out.fr.size 0 23 1
        refine hK.out _ _ (HC21.out (X9.alloc (.cells #[] 23)) HA10.out.fr) (fun hS => ?_)
        clear hK K
        try simp only [Act.put, putA, putZ, putS]
        generalize X9.heap.size = J20 at *
        generalize (X9.alloc (.cells #[] 23)) = X10 at *
        refine wpAnyZ_next (rs := [3]) (by kernel_rfl) (by simp) ?_
        refine NextZ.cons (o := ⟨some 209, _, _, _, _, _⟩) rfl (fun K hK => ?_) NextZ.nil
        refine step_append_src X10 (by rfl) (.tmp 206) (.tmp 208) 22 (by rfl) wx.heap.size 23 i1 (.slice none 0 0) 1 24 Try.underlying22 hi1 hy0 hy1 hy2 rfl (by decide) (.slice (some ⟨J20, 0, none⟩) 0 0) (0) ([]) (by rfl) (HR10.out.own 0 _ rfl) (some ⟨qc, oc, none⟩) t.nc ucc ((List.range t.nc).map F) (by rfl) ⟨by simp, fun j v hv => by
          have hj : j < t.nc := by have := (List.getElem?_eq_some_iff.1 hv).1; simpa using this
          rw [List.getElem?_map, List.getElem?_range hj] at hv
          cases hv
          refine ⟨_, rfl, ?_⟩
          rw [addr_add]
          exact kept (below_step HW0.out HA10.out.fr) hqc (HF.out j hj).1⟩ (by
          intro v hv
          simp only [List.mem_map, List.mem_range] at hv
          obtain ⟨j, hj, rfl⟩ := hv
          obtain ⟨xa, xc, hx⟩ := (HF.out j hj).2.slice
          rw [hx]; rfl) (by unfold maxLen; omega) (by omega) HA10.out.fr.size ?_
        intro v11 X11 hown hgr hl
        rw [Nat.zero_add, List.nil_append] at hown
        obtain ⟨qa11, qc11, rfl⟩ := own_slice' hown
        have HA11 := Lib.hid (BF.grow HA10.out HR10.out (i := 0) rfl (List.forall_mem_cons.2 ⟨(show 25 ≠ 23 by decide), List.forall_mem_nil _⟩) (Nat.le_refl _) hgr)
        have HR11 : Hid (Rws wx.heap.size X11 [⟨23, 1, .slice qa11 t.nc qc11, t.nc, (List.range t.nc).map F⟩, ⟨43, 2, .slice none 0 0, 0, []⟩, ⟨23, 1, .slice (some ⟨J21, 0, none⟩) 1 1, 1, [.slice fa (t.rl 0) frc]⟩, ⟨43, 2, .slice none 0 0, 0, []⟩]) := HR10.out.app2 (i := 0) rfl hown hgr hl
        clear hown hgr hl
        refine hK.out _ _ (HC21.out X11 HA11.out.fr) (fun hS => ?_)
        clear hK K
        try simp only [Act.put, putA, putZ, putS]
        refine wpAnyZ_next (rs := [9]) (by kernel_rfl) (by simp) ?_
        refine NextZ.cons (o := ⟨some 215, _, _, _, _, _⟩) rfl (fun K hK => ?_) NextZ.nil
        refine step_append_src X11 (by rfl) (.tmp 209) (.tmp 214) 22 (by rfl) wx.heap.size 23 i1 (.slice none 0 0) 1 24 Try.underlying22 hi1 hy0 hy1 hy2 rfl (by decide) (.slice qa11 t.nc qc11) (t.nc) ((List.range t.nc).map F) (by rfl) (HR11.out.own 0 _ rfl) (some ⟨J21, 0, none⟩) 1 1 [.slice fa (t.rl 0) frc] (by rfl) (own_src (HR11.out.own 2 _ rfl)) (by simp [Value.oneCell']) (by unfold maxLen; omega) (by omega) HA11.out.fr.size ?_
        intro v12 X12 hown hgr hl
        obtain ⟨qa12, qc12, rfl⟩ := own_slice' hown
        obtain ⟨hbk, rfl⟩ := own_somep hown (by omega)
        have HA12 := Lib.hid (BF.grow HA11.out HR11.out (i := 0) rfl (List.forall_mem_cons.2 ⟨(show 25 ≠ 23 by decide), List.forall_mem_nil _⟩) (Nat.le_refl _) hgr)
        have HR12 : Hid (Rws wx.heap.size X12 [⟨23, 1, .slice (some ⟨hbk, 0, none⟩) (t.nc + 1) qc12, t.nc + 1, (List.range t.nc).map F ++ [.slice fa (t.rl 0) frc]⟩, ⟨43, 2, .slice none 0 0, 0, []⟩, ⟨23, 1, .slice (some ⟨J21, 0, none⟩) 1 1, 1, [.slice fa (t.rl 0) frc]⟩, ⟨43, 2, .slice none 0 0, 0, []⟩]) := HR11.out.app2 (i := 0) rfl hown hgr hl
        clear hown hgr hl
        refine hK.out _ _ (HC21.out X12 HA12.out.fr) (fun hS => ?_)
        clear hK K
        try simp only [Act.put, putA, putZ, putS]
        refine tZ 10 (oi := ⟨_, _, _, _, _, _⟩) (v := ?_) rfl (by kernel_rfl) (by rfl) (fun _ _ _ h => h) hS ?_ ?_
        rotate_left
        · rintro W' ⟨z0, z1, z2, z3, z4⟩; go_simp; try with_reducible rfl
        try simp only [Act.put, putA, putZ, putS]
        refine wpAnyZ_next (rs := [11]) (by kernel_rfl) (by simp) ?_
        refine NextZ.last (o := ⟨none, _, _, _, _, _⟩) rfl (by kernel_rfl) (fun K hK => ?_)
        have e0 := HA12.out.cell (.head _) 0
        have f0 := HA12.out.thaw (.head _) 0
        have HA13 := Lib.hid (BF.set1 (i := 0) (cs' := #[.slice (some ⟨hbk, 0, none⟩) (t.nc + 1) qc12, .slice uba t.nb ubc, .slice ura t.nr urc, .slice una t.nn unc]) HA12.out (.head _) (.slice (some ⟨hbk, 0, none⟩) (t.nc + 1) qc12) (by simp) rfl (L' := []) (List.forall_mem_nil _))
        have HR13 : Hid (Rws wx.heap.size (X12.setCell ⟨wx.heap.size, 0, none⟩ (.slice (some ⟨hbk, 0, none⟩) (t.nc + 1) qc12)) [⟨23, 1, .slice (some ⟨hbk, 0, none⟩) (t.nc + 1) qc12, t.nc + 1, (List.range t.nc).map F ++ [.slice fa (t.rl 0) frc]⟩, ⟨43, 2, .slice none 0 0, 0, []⟩, ⟨23, 1, .slice (some ⟨J21, 0, none⟩) 1 1, 1, [.slice fa (t.rl 0) frc]⟩, ⟨43, 2, .slice none 0 0, 0, []⟩]) := HR12.out.tab (HA12.out.bk _ _ _ (.head _)).2 (List.forall_mem_cons.2 ⟨(show 25 ≠ 23 by decide), List.forall_mem_cons.2 ⟨(show 25 ≠ 43 by decide), List.forall_mem_cons.2 ⟨(show 25 ≠ 23 by decide), List.forall_mem_cons.2 ⟨(show 25 ≠ 43 by decide), List.forall_mem_nil _⟩⟩⟩⟩) (Fr.set _ _ _ _)
        go_simp
        refine hK.out _ _ ?_
        clear hK K
        (try simp only [Act.put])
        refine wpAnyZ_done (by kernel_rfl) ?_ _
        go_wp2_with fail
        go_meet
        exact ⟨_, _, _, _, HA13.out, HR13.out⟩
      rename World => w19
      obtain ⟨hb, hc, J, Jc, hbf, hrw⟩ := hcut
      have HX19 := Lib.hid hbf; have HR19 := Lib.hid hrw
      clear hbf hrw HX18 HR18
      go_wp2_with fail
      go_cut [] (fun wy => ∃ ba bc J2 Jc2, BF wx wy [(wx.heap.size, #[.slice (some ⟨hb, 0, none⟩) (t.nc + 1) hc, .slice ba (t.nb + 1) bc, .slice ura t.nr urc, .slice una t.nn unc], 25)] ∧ Rws wx.heap.size wy [⟨23, 1, .slice (some ⟨hb, 0, none⟩) (t.nc + 1) hc, t.nc + 1, (List.range t.nc).map F ++ [.slice fa (t.rl 0) frc]⟩, ⟨43, 2, .slice ba (t.nb + 1) bc, t.nb + 1, flatR t.b t.nb ++ [.int .i64 b0, .int .i64 b1]⟩, ⟨23, 1, .slice (some ⟨J, 0, none⟩) 1 Jc, 1, [.slice fa (t.rl 0) frc]⟩, ⟨43, 2, .slice (some ⟨J2, 0, none⟩) 1 Jc2, 1, [.int .i64 b0, .int .i64 b1]⟩])
      case first => as_aux_lemma =>
        have HAX := Lib.hid (HX19.out.below (Below.refl _ w19).drew)
        have HRX := Lib.hid (HR19.out.below (Below.refl _ w19).drew)
        refine wp_region_Z (S := fun X => X.cell? ⟨w.heap.size, 0, none⟩ = some (.slice (some ⟨qc, oc, none⟩) t.nc ucc) ∧ X.cell? ⟨w.heap.size, 1, none⟩ = some (.slice uba t.nb ubc) ∧ X.cell? ⟨qc, oc, none⟩ = some (.slice fa (t.rl 0) frc) ∧ X.cell? ⟨w.heap.size + 1, 0, none⟩ = some (.int .i64 b0) ∧ X.cell? ⟨w.heap.size + 1, 1, none⟩ = some (.int .i64 b1)) (by kernel_rfl) (HC21.out _ HAX.out.fr) (fun hS => ?_)
        generalize w19.drew = X at *
        refine tk [1, 2, 4] ?_
        repeat (refine tkZ (oi := ⟨_, _, _, _, _, _⟩) (v := ?_) rfl (by kernel_rfl) (by rfl) (fun _ _ _ h => h) hS ?_ ?_; rotate_left; (· rintro W' ⟨z0, z1, z2, z3, z4⟩; go_simp; try with_reducible rfl); try simp only [Act.put, putA, putZ, putS])
        refine tk0 ?_
        refine wpAnyZ_next (rs := [0, 5]) (by kernel_rfl) (by simp) ?_
        refine NextZ.cons (o := ⟨some 217, _, _, _, _, _⟩) rfl (fun K hK => ?_) ?_
        ·
         go_simp
         have HA0 := Lib.hid (HAX.out.below (below_alloc X (.cells #[] 43)))
         have HR0 : Hid (Rws wx.heap.size (X.alloc (.cells #[] 43)) [⟨23, 1, .slice (some ⟨hb, 0, none⟩) (t.nc + 1) hc, t.nc + 1, (List.range t.nc).map F ++ [.slice fa (t.rl 0) frc]⟩, ⟨43, 2, .slice (some ⟨X.heap.size, 0, none⟩) 0 0, 0, []⟩, ⟨23, 1, .slice (some ⟨J, 0, none⟩) 1 Jc, 1, [.slice fa (t.rl 0) frc]⟩, ⟨43, 2, .slice none 0 0, 0, []⟩]) := HRX.out.made HAX.out.fr.size 1 43 2
         refine hK.out _ _ (HC21.out (X.alloc (.cells #[] 43)) HA0.out.fr) (fun hS => ?_)
         clear hK K
         try simp only [Act.put, putA, putZ, putS]
         generalize X.heap.size = J22 at *
         generalize (X.alloc (.cells #[] 43)) = X0 at *
         refine wpAnyZ_next (rs := [3, 5]) (by kernel_rfl) (by simp) ?_
         refine NextZ.cons (o := ⟨some 220, _, _, _, _, _⟩) rfl (fun K hK => ?_) ?_
         ·
          refine step_append_src X0 (by rfl) (.tmp 217) (.tmp 219) 23 (by rfl) wx.heap.size 43 i0 (.agg #[.int .i64 0, .int .i64 0]) 2 16 Try.underlying23 hi0 hz0 hz1 hz2 rfl (by decide) (.slice (some ⟨J22, 0, none⟩) 0 0) (0) ([]) (by rfl) (HR0.out.own 1 _ rfl) uba t.nb ubc (flatR t.b t.nb) (by rfl) ((HT0.out.l.2.1.below (below_step HW0.out HA0.out.fr)).src) (flatR_one _ _) (by unfold maxLen; omega) (by omega) HA0.out.fr.size ?_
          intro v1 X1 hown hgr hl
          rw [Nat.zero_add, List.nil_append] at hown
          obtain ⟨qa1, qc1, rfl⟩ := own_slice' hown
          have HA1 := Lib.hid (BF.grow HA0.out HR0.out (i := 1) rfl (List.forall_mem_cons.2 ⟨(show 25 ≠ 43 by decide), List.forall_mem_nil _⟩) (Nat.le_refl _) hgr)
          have HR1 : Hid (Rws wx.heap.size X1 [⟨23, 1, .slice (some ⟨hb, 0, none⟩) (t.nc + 1) hc, t.nc + 1, (List.range t.nc).map F ++ [.slice fa (t.rl 0) frc]⟩, ⟨43, 2, .slice qa1 t.nb qc1, t.nb, flatR t.b t.nb⟩, ⟨23, 1, .slice (some ⟨J, 0, none⟩) 1 Jc, 1, [.slice fa (t.rl 0) frc]⟩, ⟨43, 2, .slice none 0 0, 0, []⟩]) := HR0.out.app2 (i := 1) rfl hown hgr hl
          clear hown hgr hl
          refine hK.out _ _ (HC21.out X1 HA1.out.fr) (fun hS => ?_)
          clear hK K
          try simp only [Act.put, putA, putZ, putS]
          refine wpAnyZ_next (rs := [5]) (by kernel_rfl) (by simp) ?_
          refine NextZ.cons (o := ⟨some 222, _, _, _, _, _⟩) rfl (fun K hK => ?_) NextZ.nil
          go_simp
          have HA2 := Lib.hid (HA1.out.below (below_alloc X1 (.cells #[.int .i64 b0, .int .i64 b1] 43)))
          have HR2 : Hid (Rws wx.heap.size (X1.alloc (.cells #[.int .i64 b0, .int .i64 b1] 43)) [⟨23, 1, .slice (some ⟨hb, 0, none⟩) (t.nc + 1) hc, t.nc + 1, (List.range t.nc).map F ++ [.slice fa (t.rl 0) frc]⟩, ⟨43, 2, .slice qa1 t.nb qc1, t.nb, flatR t.b t.nb⟩, ⟨23, 1, .slice (some ⟨J, 0, none⟩) 1 Jc, 1, [.slice fa (t.rl 0) frc]⟩, ⟨43, 2, .slice (some ⟨X1.heap.size, 0, none⟩) 1 1, 1, [.int .i64 b0, .int .i64 b1]⟩]) := HR1.out.new (i := 3) (sz := 2) (n := 1) rfl HA1.out.fr.size rfl (by unfold maxLen; omega)
          refine hK.out _ _ (HC21.out (X1.alloc (.cells #[.int .i64 b0, .int .i64 b1] 43)) HA2.out.fr) (fun hS => ?_)
          clear hK K
          try simp only [Act.put, putA, putZ, putS]
          generalize X1.heap.size = J23 at *
          generalize (X1.alloc (.cells #[.int .i64 b0, .int .i64 b1] 43)) = X2 at *
          refine wpAnyZ_next (rs := [6]) (by kernel_rfl) (by simp) ?_
          refine NextZ.cons (o := ⟨some 223, _, _, _, _, _⟩) rfl (fun K hK => ?_) NextZ.nil
          refine step_append_src X2 (by rfl) (.tmp 220) (.tmp 222) 23 (by rfl) wx.heap.size 43 i0 (.agg #[.int .i64 0, .int .i64 0]) 2 16 Try.underlying23 hi0 hz0 hz1 hz2 rfl (by decide) (.slice qa1 t.nb qc1) (t.nb) (flatR t.b t.nb) (by rfl) (HR2.out.own 1 _ rfl) (some ⟨J23, 0, none⟩) 1 1 [.int .i64 b0, .int .i64 b1] (by rfl) (own_src (HR2.out.own 3 _ rfl)) (by simp [Value.oneCell']) (by unfold maxLen; omega) (by omega) HA2.out.fr.size ?_
          intro v3 X3 hown hgr hl
          obtain ⟨qa3, qc3, rfl⟩ := own_slice' hown
          have HA3 := Lib.hid (BF.grow HA2.out HR2.out (i := 1) rfl (List.forall_mem_cons.2 ⟨(show 25 ≠ 43 by decide), List.forall_mem_nil _⟩) (Nat.le_refl _) hgr)
          have HR3 : Hid (Rws wx.heap.size X3 [⟨23, 1, .slice (some ⟨hb, 0, none⟩) (t.nc + 1) hc, t.nc + 1, (List.range t.nc).map F ++ [.slice fa (t.rl 0) frc]⟩, ⟨43, 2, .slice qa3 (t.nb + 1) qc3, t.nb + 1, flatR t.b t.nb ++ [.int .i64 b0, .int .i64 b1]⟩, ⟨23, 1, .slice (some ⟨J, 0, none⟩) 1 Jc, 1, [.slice fa (t.rl 0) frc]⟩, ⟨43, 2, .slice (some ⟨J23, 0, none⟩) 1 1, 1, [.int .i64 b0, .int .i64 b1]⟩]) := HR2.out.app2 (i := 1) rfl hown hgr hl
          clear hown hgr hl
          refine hK.out _ _ (HC21.out X3 HA3.out.fr) (fun hS => ?_)
          clear hK K
          try simp only [Act.put, putA, putZ, putS]
          refine tZ 7 (oi := ⟨_, _, _, _, _, _⟩) (v := ?_) rfl (by kernel_rfl) (by rfl) (fun _ _ _ h => h) hS ?_ ?_
          rotate_left
          · rintro W' ⟨z0, z1, z2, z3, z4⟩; go_simp; try with_reducible rfl
          try simp only [Act.put, putA, putZ, putS]
          refine wpAnyZ_next (rs := [8]) (by kernel_rfl) (by simp) ?_
          refine NextZ.last (o := ⟨none, _, _, _, _, _⟩) rfl (by kernel_rfl) (fun K hK => ?_)
          have e0 := HA3.out.cell (.head _) 1
          have f0 := HA3.out.thaw (.head _) 1
          have HA4 := Lib.hid (BF.set1 (i := 1) (cs' := #[.slice (some ⟨hb, 0, none⟩) (t.nc + 1) hc, .slice qa3 (t.nb + 1) qc3, .slice ura t.nr urc, .slice una t.nn unc]) HA3.out (.head _) (.slice qa3 (t.nb + 1) qc3) (by simp) rfl (L' := []) (List.forall_mem_nil _))
          have HR4 : Hid (Rws wx.heap.size (X3.setCell ⟨wx.heap.size, 1, none⟩ (.slice qa3 (t.nb + 1) qc3)) [⟨23, 1, .slice (some ⟨hb, 0, none⟩) (t.nc + 1) hc, t.nc + 1, (List.range t.nc).map F ++ [.slice fa (t.rl 0) frc]⟩, ⟨43, 2, .slice qa3 (t.nb + 1) qc3, t.nb + 1, flatR t.b t.nb ++ [.int .i64 b0, .int .i64 b1]⟩, ⟨23, 1, .slice (some ⟨J, 0, none⟩) 1 Jc, 1, [.slice fa (t.rl 0) frc]⟩, ⟨43, 2, .slice (some ⟨J23, 0, none⟩) 1 1, 1, [.int .i64 b0, .int .i64 b1]⟩]) := HR3.out.tab (HA3.out.bk _ _ _ (.head _)).2 (List.forall_mem_cons.2 ⟨(show 25 ≠ 23 by decide), List.forall_mem_cons.2 ⟨(show 25 ≠ 43 by decide), List.forall_mem_cons.2 ⟨(show 25 ≠ 23 by decide), List.forall_mem_cons.2 ⟨(show 25 ≠ 43 by decide), List.forall_mem_nil _⟩⟩⟩⟩) (Fr.set _ _ _ _)
          go_simp
          refine hK.out _ _ ?_
          clear hK K
          (try simp only [Act.put])
          refine wpAnyZ_done (by kernel_rfl) ?_ _
          go_wp2_with fail
          go_meet
          exact ⟨_, _, _, _, HA4.out, HR4.out⟩
         refine NextZ.cons (o := ⟨some 222, _, _, _, _, _⟩) rfl (fun K hK => ?_) NextZ.nil
         go_simp
         have HA5 := Lib.hid (HA0.out.below (below_alloc X0 (.cells #[.int .i64 b0, .int .i64 b1] 43)))
         have HR5 : Hid (Rws wx.heap.size (X0.alloc (.cells #[.int .i64 b0, .int .i64 b1] 43)) [⟨23, 1, .slice (some ⟨hb, 0, none⟩) (t.nc + 1) hc, t.nc + 1, (List.range t.nc).map F ++ [.slice fa (t.rl 0) frc]⟩, ⟨43, 2, .slice (some ⟨J22, 0, none⟩) 0 0, 0, []⟩, ⟨23, 1, .slice (some ⟨J, 0, none⟩) 1 Jc, 1, [.slice fa (t.rl 0) frc]⟩, ⟨43, 2, .slice (some ⟨X0.heap.size, 0, none⟩) 1 1, 1, [.int .i64 b0, .int .i64 b1]⟩]) := HR0.out.new (i := 3) (sz := 2) (n := 1) rfl HA0.out.fr.size rfl (by unfold maxLen; omega)
         refine hK.out _ _ (HC21.out (X0.alloc (.cells #[.int .i64 b0, .int .i64 b1] 43)) HA5.out.fr) (fun hS => ?_)
         clear hK K
         try simp only [Act.put, putA, putZ, putS]
         generalize X0.heap.size = J23 at *
         generalize (X0.alloc (.cells #[.int .i64 b0, .int .i64 b1] 43)) = X5 at *
         refine wpAnyZ_next (rs := [3]) (by kernel_rfl) (by simp) ?_
         refine NextZ.cons (o := ⟨some 220, _, _, _, _, _⟩) rfl (fun K hK => ?_) NextZ.nil
         refine step_append_src X5 (by rfl) (.tmp 217) (.tmp 219) 23 (by rfl) wx.heap.size 43 i0 (.agg #[.int .i64 0, .int .i64 0]) 2 16 Try.underlying23 hi0 hz0 hz1 hz2 rfl (by decide) (.slice (some ⟨J22, 0, none⟩) 0 0) (0) ([]) (by rfl) (HR5.out.own 1 _ rfl) uba t.nb ubc (flatR t.b t.nb) (by rfl) ((HT0.out.l.2.1.below (below_step HW0.out HA5.out.fr)).src) (flatR_one _ _) (by unfold maxLen; omega) (by omega) HA5.out.fr.size ?_
         intro v6 X6 hown hgr hl
         rw [Nat.zero_add, List.nil_append] at hown
         obtain ⟨qa6, qc6, rfl⟩ := own_slice' hown
         have HA6 := Lib.hid (BF.grow HA5.out HR5.out (i := 1) rfl (List.forall_mem_cons.2 ⟨(show 25 ≠ 43 by decide), List.forall_mem_nil _⟩) (Nat.le_refl _) hgr)
         have HR6 : Hid (Rws wx.heap.size X6 [⟨23, 1, .slice (some ⟨hb, 0, none⟩) (t.nc + 1) hc, t.nc + 1, (List.range t.nc).map F ++ [.slice fa (t.rl 0) frc]⟩, ⟨43, 2, .slice qa6 t.nb qc6, t.nb, flatR t.b t.nb⟩, ⟨23, 1, .slice (some ⟨J, 0, none⟩) 1 Jc, 1, [.slice fa (t.rl 0) frc]⟩, ⟨43, 2, .slice (some ⟨J23, 0, none⟩) 1 1, 1, [.int .i64 b0, .int .i64 b1]⟩]) := HR5.out.app2 (i := 1) rfl hown hgr hl
         clear hown hgr hl
         refine hK.out _ _ (HC21.out X6 HA6.out.fr) (fun hS => ?_)
         clear hK K
         try simp only [Act.put, putA, putZ, putS]
         refine wpAnyZ_next (rs := [6]) (by kernel_rfl) (by simp) ?_
         refine NextZ.cons (o := ⟨some 223, _, _, _, _, _⟩) rfl (fun K hK => ?_) NextZ.nil
         refine step_append_src X6 (by rfl) (.tmp 220) (.tmp 222) 23 (by rfl) wx.heap.size 43 i0 (.agg #[.int .i64 0, .int .i64 0]) 2 16 Try.underlying23 hi0 hz0 hz1 hz2 rfl (by decide) (.slice qa6 t.nb qc6) (t.nb) (flatR t.b t.nb) (by rfl) (HR6.out.own 1 _ rfl) (some ⟨J23, 0, none⟩) 1 1 [.int .i64 b0, .int .i64 b1] (by rfl) (own_src (HR6.out.own 3 _ rfl)) (by simp [Value.oneCell']) (by unfold maxLen; omega) (by omega) HA6.out.fr.size ?_
         intro v7 X7 hown hgr hl
         obtain ⟨qa7, qc7, rfl⟩ := own_slice' hown
         have HA7 := Lib.hid (BF.grow HA6.out HR6.out (i := 1) rfl (List.forall_mem_cons.2 ⟨(show 25 ≠ 43 by decide), List.forall_mem_nil _⟩) (Nat.le_refl _) hgr)
         have HR7 : Hid (Rws wx.heap.size X7 [⟨23, 1, .slice (some ⟨hb, 0, none⟩) (t.nc + 1) hc, t.nc + 1, (List.range t.nc).map F ++ [.slice fa (t.rl 0) frc]⟩, ⟨43, 2, .slice qa7 (t.nb + 1) qc7, t.nb + 1, flatR t.b t.nb ++ [.int .i64 b0, .int .i64 b1]⟩, ⟨23, 1, .slice (some ⟨J, 0, none⟩) 1 Jc, 1, [.slice fa (t.rl 0) frc]⟩, ⟨43, 2, .slice (some ⟨J23, 0, none⟩) 1 1, 1, [.int .i64 b0, .int .i64 b1]⟩]) := HR6.out.app2 (i := 1) rfl hown hgr hl
         clear hown hgr hl
         refine hK.out _ _ (HC21.out X7 HA7.out.fr) (fun hS => ?_)
         clear hK K
         try simp only [Act.put, putA, putZ, putS]
         refine tZ 7 (oi := ⟨_, _, _, _, _, _⟩) (v := ?_) rfl (by kernel_rfl) (by rfl) (fun _ _ _ h => h) hS ?_ ?_
         rotate_left
         · rintro W' ⟨z0, z1, z2, z3, z4⟩; go_simp; try with_reducible rfl
         try simp only [Act.put, putA, putZ, putS]
         refine wpAnyZ_next (rs := [8]) (by kernel_rfl) (by simp) ?_
         refine NextZ.last (o := ⟨none, _, _, _, _, _⟩) rfl (by kernel_rfl) (fun K hK => ?_)
         have e0 := HA7.out.cell (.head _) 1
         have f0 := HA7.out.thaw (.head _) 1
         have HA8 := Lib.hid (BF.set1 (i := 1) (cs' := #[.slice (some ⟨hb, 0, none⟩) (t.nc + 1) hc, .slice qa7 (t.nb + 1) qc7, .slice ura t.nr urc, .slice una t.nn unc]) HA7.out (.head _) (.slice qa7 (t.nb + 1) qc7) (by simp) rfl (L' := []) (List.forall_mem_nil _))
         have HR8 : Hid (Rws wx.heap.size (X7.setCell ⟨wx.heap.size, 1, none⟩ (.slice qa7 (t.nb + 1) qc7)) [⟨23, 1, .slice (some ⟨hb, 0, none⟩) (t.nc + 1) hc, t.nc + 1, (List.range t.nc).map F ++ [.slice fa (t.rl 0) frc]⟩, ⟨43, 2, .slice qa7 (t.nb + 1) qc7, t.nb + 1, flatR t.b t.nb ++ [.int .i64 b0, .int .i64 b1]⟩, ⟨23, 1, .slice (some ⟨J, 0, none⟩) 1 Jc, 1, [.slice fa (t.rl 0) frc]⟩, ⟨43, 2, .slice (some ⟨J23, 0, none⟩) 1 1, 1, [.int .i64 b0, .int .i64 b1]⟩]) := HR7.out.tab (HA7.out.bk _ _ _ (.head _)).2 (List.forall_mem_cons.2 ⟨(show 25 ≠ 23 by decide), List.forall_mem_cons.2 ⟨(show 25 ≠ 43 by decide), List.forall_mem_cons.2 ⟨(show 25 ≠ 23 by decide), List.forall_mem_cons.2 ⟨(show 25 ≠ 43 by decide), List.forall_mem_nil _⟩⟩⟩⟩) (Fr.set _ _ _ _)
         go_simp
         refine hK.out _ _ ?_
         clear hK K
         (try simp only [Act.put])
         refine wpAnyZ_done (by kernel_rfl) ?_ _
         go_wp2_with fail
         go_meet
         exact ⟨_, _, _, _, HA8.out, HR8.out⟩
        refine NextZ.cons (o := ⟨some 222, _, _, _, _, _⟩) rfl (fun K hK => ?_) NextZ.nil
        go_simp
        have HA9 := Lib.hid (HAX.out.below (below_alloc X (.cells #[.int .i64 b0, .int .i64 b1] 43)))
        have HR9 : Hid (Rws wx.heap.size (X.alloc (.cells #[.int .i64 b0, .int .i64 b1] 43)) [⟨23, 1, .slice (some ⟨hb, 0, none⟩) (t.nc + 1) hc, t.nc + 1, (List.range t.nc).map F ++ [.slice fa (t.rl 0) frc]⟩, ⟨43, 2, .slice none 0 0, 0, []⟩, ⟨23, 1, .slice (some ⟨J, 0, none⟩) 1 Jc, 1, [.slice fa (t.rl 0) frc]⟩, ⟨43, 2, .slice (some ⟨X.heap.size, 0, none⟩) 1 1, 1, [.int .i64 b0, .int .i64 b1]⟩]) := HRX.out.new (i := 3) (sz := 2) (n := 1) rfl HAX.out.fr.size rfl (by unfold maxLen; omega)
        refine hK.out _ _ (HC21.out (X.alloc (.cells #[.int .i64 b0, .int .i64 b1] 43)) HA9.out.fr) (fun hS => ?_)
        clear hK K
        try simp only [Act.put, putA, putZ, putS]
        generalize X.heap.size = J23 at *
        generalize (X.alloc (.cells #[.int .i64 b0, .int .i64 b1] 43)) = X9 at *
        refine wpAnyZ_next (rs := [0]) (by kernel_rfl) (by simp) ?_
        refine NextZ.cons (o := ⟨some 217, _, _, _, _, _⟩) rfl (fun K hK => ?_) NextZ.nil
        go_simp
        have HA10 := Lib.hid (HA9.out.below (below_alloc X9 (.cells #[] 43)))
        have HR10 : Hid (Rws wx.heap.size (X9.alloc (.cells #[] 43)) [⟨23, 1, .slice (some ⟨hb, 0, none⟩) (t.nc + 1) hc, t.nc + 1, (List.range t.nc).map F ++ [.slice fa (t.rl 0) frc]⟩, ⟨43, 2, .slice (some ⟨X9.heap.size, 0, none⟩) 0 0, 0, []⟩, ⟨23, 1, .slice (some ⟨J, 0, none⟩) 1 Jc, 1, [.slice fa (t.rl 0) frc]⟩, ⟨43, 2, .slice (some ⟨J23, 0, none⟩) 1 1, 1, [.int .i64 b0, .int .i64 b1]⟩]) := HR9.out.made HA9.out.fr.size 1 43 2
        refine hK.out _ _ (HC21.out (X9.alloc (.cells #[] 43)) HA10.out.fr) (fun hS => ?_)
        clear hK K
        try simp only [Act.put, putA, putZ, putS]
        generalize X9.heap.size = J22 at *
        generalize (X9.alloc (.cells #[] 43)) = X10 at *
        refine wpAnyZ_next (rs := [3]) (by kernel_rfl) (by simp) ?_
        refine NextZ.cons (o := ⟨some 220, _, _, _, _, _⟩) rfl (fun K hK => ?_) NextZ.nil
        refine step_append_src X10 (by rfl) (.tmp 217) (.tmp 219) 23 (by rfl) wx.heap.size 43 i0 (.agg #[.int .i64 0, .int .i64 0]) 2 16 Try.underlying23 hi0 hz0 hz1 hz2 rfl (by decide) (.slice (some ⟨J22, 0, none⟩) 0 0) (0) ([]) (by rfl) (HR10.out.own 1 _ rfl) uba t.nb ubc (flatR t.b t.nb) (by rfl) ((HT0.out.l.2.1.below (below_step HW0.out HA10.out.fr)).src) (flatR_one _ _) (by unfold maxLen; omega) (by omega) HA10.out.fr.size ?_
        intro v11 X11 hown hgr hl
        rw [Nat.zero_add, List.nil_append] at hown
        obtain ⟨qa11, qc11, rfl⟩ := own_slice' hown
        have HA11 := Lib.hid (BF.grow HA10.out HR10.out (i := 1) rfl (List.forall_mem_cons.2 ⟨(show 25 ≠ 43 by decide), List.forall_mem_nil _⟩) (Nat.le_refl _) hgr)
        have HR11 : Hid (Rws wx.heap.size X11 [⟨23, 1, .slice (some ⟨hb, 0, none⟩) (t.nc + 1) hc, t.nc + 1, (List.range t.nc).map F ++ [.slice fa (t.rl 0) frc]⟩, ⟨43, 2, .slice qa11 t.nb qc11, t.nb, flatR t.b t.nb⟩, ⟨23, 1, .slice (some ⟨J, 0, none⟩) 1 Jc, 1, [.slice fa (t.rl 0) frc]⟩, ⟨43, 2, .slice (some ⟨J23, 0, none⟩) 1 1, 1, [.int .i64 b0, .int .i64 b1]⟩]) := HR10.out.app2 (i := 1) rfl hown hgr hl
        clear hown hgr hl
        refine hK.out _ _ (HC21.out X11 HA11.out.fr) (fun hS => ?_)
        clear hK K
        try simp only [Act.put, putA, putZ, putS]
        refine wpAnyZ_next (rs := [6]) (by kernel_rfl) (by simp) ?_
        refine NextZ.cons (o := ⟨some 223, _, _, _, _, _⟩) rfl (fun K hK => ?_) NextZ.nil
        refine step_append_src X11 (by rfl) (.tmp 220) (.tmp 222) 23 (by rfl) wx.heap.size 43 i0 (.agg #[.int .i64 0, .int .i64 0]) 2 16 Try.underlying23 hi0 hz0 hz1 hz2 rfl (by decide) (.slice qa11 t.nb qc11) (t.nb) (flatR t.b t.nb) (by rfl) (HR11.out.own 1 _ rfl) (some ⟨J23, 0, none⟩) 1 1 [.int .i64 b0, .int .i64 b1] (by rfl) (own_src (HR11.out.own 3 _ rfl)) (by simp [Value.oneCell']) (by unfold maxLen; omega) (by omega) HA11.out.fr.size ?_
        intro v12 X12 hown hgr hl
        obtain ⟨qa12, qc12, rfl⟩ := own_slice' hown
        have HA12 := Lib.hid (BF.grow HA11.out HR11.out (i := 1) rfl (List.forall_mem_cons.2 ⟨(show 25 ≠ 43 by decide), List.forall_mem_nil _⟩) (Nat.le_refl _) hgr)
        have HR12 : Hid (Rws wx.heap.size X12 [⟨23, 1, .slice (some ⟨hb, 0, none⟩) (t.nc + 1) hc, t.nc + 1, (List.range t.nc).map F ++ [.slice fa (t.rl 0) frc]⟩, ⟨43, 2, .slice qa12 (t.nb + 1) qc12, t.nb + 1, flatR t.b t.nb ++ [.int .i64 b0, .int .i64 b1]⟩, ⟨23, 1, .slice (some ⟨J, 0, none⟩) 1 Jc, 1, [.slice fa (t.rl 0) frc]⟩, ⟨43, 2, .slice (some ⟨J23, 0, none⟩) 1 1, 1, [.int .i64 b0, .int .i64 b1]⟩]) := HR11.out.app2 (i := 1) rfl hown hgr hl
        clear hown hgr hl
        refine hK.out _ _ (HC21.out X12 HA12.out.fr) (fun hS => ?_)
        clear hK K
        try simp only [Act.put, putA, putZ, putS]
        refine tZ 7 (oi := ⟨_, _, _, _, _, _⟩) (v := ?_) rfl (by kernel_rfl) (by rfl) (fun _ _ _ h => h) hS ?_ ?_
        rotate_left
        · rintro W' ⟨z0, z1, z2, z3, z4⟩; go_simp; try with_reducible rfl
        try simp only [Act.put, putA, putZ, putS]
        refine wpAnyZ_next (rs := [8]) (by kernel_rfl) (by simp) ?_
        refine NextZ.last (o := ⟨none, _, _, _, _, _⟩) rfl (by kernel_rfl) (fun K hK => ?_)
        have e0 := HA12.out.cell (.head _) 1
        have f0 := HA12.out.thaw (.head _) 1
        have HA13 := Lib.hid (BF.set1 (i := 1) (cs' := #[.slice (some ⟨hb, 0, none⟩) (t.nc + 1) hc, .slice qa12 (t.nb + 1) qc12, .slice ura t.nr urc, .slice una t.nn unc]) HA12.out (.head _) (.slice qa12 (t.nb + 1) qc12) (by simp) rfl (L' := []) (List.forall_mem_nil _))
        have HR13 : Hid (Rws wx.heap.size (X12.setCell ⟨wx.heap.size, 1, none⟩ (.slice qa12 (t.nb + 1) qc12)) [⟨23, 1, .slice (some ⟨hb, 0, none⟩) (t.nc + 1) hc, t.nc + 1, (List.range t.nc).map F ++ [.slice fa (t.rl 0) frc]⟩, ⟨43, 2, .slice qa12 (t.nb + 1) qc12, t.nb + 1, flatR t.b t.nb ++ [.int .i64 b0, .int .i64 b1]⟩, ⟨23, 1, .slice (some ⟨J, 0, none⟩) 1 Jc, 1, [.slice fa (t.rl 0) frc]⟩, ⟨43, 2, .slice (some ⟨J23, 0, none⟩) 1 1, 1, [.int .i64 b0, .int .i64 b1]⟩]) := HR12.out.tab (HA12.out.bk _ _ _ (.head _)).2 (List.forall_mem_cons.2 ⟨(show 25 ≠ 23 by decide), List.forall_mem_cons.2 ⟨(show 25 ≠ 43 by decide), List.forall_mem_cons.2 ⟨(show 25 ≠ 23 by decide), List.forall_mem_cons.2 ⟨(show 25 ≠ 43 by decide), List.forall_mem_nil _⟩⟩⟩⟩) (Fr.set _ _ _ _)
        go_simp
        refine hK.out _ _ ?_
        clear hK K
        (try simp only [Act.put])
        refine wpAnyZ_done (by kernel_rfl) ?_ _
        go_wp2_with fail
        go_meet
        exact ⟨_, _, _, _, HA13.out, HR13.out⟩
      rename World => w20
      obtain ⟨ba, bc, J2, Jc2, hbf, hrw⟩ := hcut
      have HX20 := Lib.hid hbf
      have hlw : WLi w20 ⟨some ⟨hb, 0, none⟩, hc, ba, bc, ura, urc, una, unc⟩ (t.long (b0, b1)) := long_wli tnc1 ⟨HT0.out.l.2.2.1, HT0.out.l.2.2.2⟩ (fun j hj => (HF.out j hj).2) (below_step HW0.out hbf.fr) HF0.out (hrw.own 0 _ rfl) (hrw.own 1 _ rfl)
      have hcap1 := own_cap (hrw.own 0 _ rfl)
      have hcap2 := own_cap (hrw.own 1 _ rfl)
      have HLW := Lib.hid hlw; have HCP := Lib.hid (And.intro hcap1 hcap2); have HLS := Lib.hid (long_small HTS.out HTO.out (b0, b1))
      clear hbf hrw hlw hcap1 hcap2 HX19 HR19 HC21
      have HFT : Hid (∀ X, Below w20.heap.size w20 X → Calls Try.prog 21 #[.agg #[.slice (some ⟨hb, 0, none⟩) (t.nc + 1) hc, .slice ba (t.nb + 1) bc, .slice ura t.nr urc, .slice una t.nn unc]] X fun e w' => e = .returned (.int .i64 (t.long (b0, b1)).fault) ∧ Below X.heap.size X w') := fun X hX => lfault_any ⟨some ⟨hb, 0, none⟩, hc, ba, bc, ura, urc, una, unc⟩ (t.long (b0, b1)) HLS.out X (HLW.out.below hX)
      have k0 := HX20.out.cell (.head _) 0
      have k1 := HX20.out.cell (.head _) 1
      have k2 := HX20.out.cell (.head _) 2
      have k3 := HX20.out.cell (.head _) 3
      obtain ⟨ff, hff⟩ : ∃ f, (t.long (b0, b1)).fault = f := ⟨_, rfl⟩
      rw [hff] at HFT
      by_cases hf0 : ff = 0
      case neg =>
        have hq : (ff != 0) = true := by simp [hf0]
        clear hff
        go_wp2_with (first | (go_at_call 21; refine (HFT.out _ (Below.refl _ _)).mono ?_; rintro _ w21 ⟨rfl, hb21⟩; have HX21 := Lib.hid (HX20.out.below hb21); clear hb21) | (go_at_call 18; refine (HAW.out _).mono ?_; rintro _ w22 ⟨rfl, hb22⟩; have HB22 := Lib.hid (below_step HW0.out (HX21.out.below hb22).fr); clear hb22))
        go_ret
        exact ⟨rfl, HB22.out⟩
      subst hf0
      go_wp2_with (go_at_call 21; refine (HFT.out _ (Below.refl _ _)).mono ?_; rintro _ w21 ⟨rfl, hb21⟩; have HB21 := Lib.hid hb21; have HX21 := Lib.hid (HX20.out.below hb21); clear hb21 k0 k1 k2 k3; have k0 := HX21.out.cell (.head _) 0; have k1 := HX21.out.cell (.head _) 1; have k2 := HX21.out.cell (.head _) 2; have k3 := HX21.out.cell (.head _) 3)
      have HOL : Hid (Okt (t.long (b0, b1))) := Okt.of_fault hff
      have HPK : Hid (∀ X, Below w20.heap.size w20 X → Calls Try.prog 54 #[.agg #[.slice (some ⟨hb, 0, none⟩) (t.nc + 1) hc, .slice ba (t.nb + 1) bc, .slice ura t.nr urc, .slice una t.nn unc], .slice wda nw wdc] X fun e w' => ∃ y x, e = .returned (.agg #[.slice y.fa x.nf y.fc, .slice y.ba x.nb y.bc, .slice y.da x.nd y.dc, .slice y.ma x.nm y.mc]) ∧ XL w' y x ∧ Gt (t.long (b0, b1)) x (t.long (b0, b1)).nb ∧ PlayOk (t.long (b0, b1)) x ∧ Below X.heap.size X w') := fun X hX => by
        refine (picked_truth ⟨some ⟨hb, 0, none⟩, hc, ba, bc, ura, urc, una, unc⟩ (t.long (b0, b1)) (.slice wda nw wdc) nw z HLS.out hff X (HLW.out.below hX) HCP.out.1 HCP.out.2 (HWD.out.below (below_step HW0.out (HX20.out.below hX).fr)) hn).mono ?_
        rintro e w' ⟨y, x, rfl, h1, h2, h3, h4, h5, h6, _⟩
        exact ⟨y, x, rfl, h1, h2, play_full HOL.out h2 h3 h4 h5, h6⟩
      go_wp2_with fail
      refine (HPK.out _ HB21.out).mono ?_
      rintro _ w22 ⟨y2, x2, rfl, hxl2, hgt2, hpo2, hb22⟩
      obtain ⟨yfa, yfc, yba, ybc, yda, ydc, yma, ymc⟩ := y2
      simp only at hxl2 ⊢
      have HX22 : Hid (BF wx (w22.alloc (.cells #[.slice yfa x2.nf yfc, .slice yba x2.nb ybc, .slice yda x2.nd ydc, .slice yma x2.nm ymc] 75)) [(w22.heap.size, #[.slice yfa x2.nf yfc, .slice yba x2.nb ybc, .slice yda x2.nd ydc, .slice yma x2.nm ymc], 75), (wx.heap.size, #[.slice (some ⟨hb, 0, none⟩) (t.nc + 1) hc, .slice ba (t.nb + 1) bc, .slice ura t.nr urc, .slice una t.nn unc], 25)]) := (HX21.out.below hb22).alloc _ _
      have HB22 : Hid (Below w20.heap.size w20 (w22.alloc (.cells #[.slice yfa x2.nf yfc, .slice yba x2.nb ybc, .slice yda x2.nd ydc, .slice yma x2.nm ymc] 75))) := below_step HB21.out (below_step hb22 (below_alloc _ _))
      have HXL2 : Hid (XL (w22.alloc (.cells #[.slice yfa x2.nf yfc, .slice yba x2.nb ybc, .slice yda x2.nd ydc, .slice yma x2.nm ymc] 75)) ⟨yfa, yfc, yba, ybc, yda, ydc, yma, ymc⟩ x2) := hxl2.below (below_alloc _ _)
      have HGT := Lib.hid hgt2
      obtain ⟨can, hcan2⟩ : ∃ b, canC (t.long (b0, b1)) x2 (t.long (b0, b1)).nb = b := ⟨_, rfl⟩
      have HPY : Hid (∀ X, Below (w22.alloc (.cells #[.slice yfa x2.nf yfc, .slice yba x2.nb ybc, .slice yda x2.nd ydc, .slice yma x2.nm ymc] 75)).heap.size (w22.alloc (.cells #[.slice yfa x2.nf yfc, .slice yba x2.nb ybc, .slice yda x2.nd ydc, .slice yma x2.nm ymc] 75)) X → Calls Try.prog 52 #[.agg #[.slice (some ⟨hb, 0, none⟩) (t.nc + 1) hc, .slice ba (t.nb + 1) bc, .slice ura t.nr urc, .slice una t.nn unc], .agg #[.slice yfa x2.nf yfc, .slice yba x2.nb ybc, .slice yda x2.nd ydc, .slice yma x2.nm ymc]] X fun e w' => ∃ va vc, e = .returned (.tuple #[.slice va (t.nb + 2) vc, .bool can]) ∧ IRows w' (.slice va (t.nb + 2) vc) (t.nb + 2) (fun _ => t.ng) (siz t.ng x2) ∧ t.nb + 2 ≤ vc ∧ Below X.heap.size X w') := fun X hX => by
        refine (play_anyC ⟨some ⟨hb, 0, none⟩, hc, ba, bc, ura, urc, una, unc⟩ (t.long (b0, b1)) ⟨yfa, yfc, yba, ybc, yda, ydc, yma, ymc⟩ x2 HLS.out X (HLW.out.below (below_step HB22.out hX)) (HXL2.out.toIn.below hX) hpo2).mono ?_
        rintro e w' ⟨v, rfl, h1, h2, _, va, vc, rfl, h3⟩
        rw [long_ng HTO.out] at h1
        rw [hcan2]
        exact ⟨va, vc, rfl, h1, h3, h2⟩
      clear hxl2 hgt2 hpo2 hb22 HPK HFT k0 k1 k2 k3
      have k0 := HX22.out.cell (.tail _ (.head _)) 0
      have k1 := HX22.out.cell (.tail _ (.head _)) 1
      have k2 := HX22.out.cell (.tail _ (.head _)) 2
      have k3 := HX22.out.cell (.tail _ (.head _)) 3
      have j0 := HX22.out.cell (.head _) 0
      have j1 := HX22.out.cell (.head _) 1
      have j2 := HX22.out.cell (.head _) 2
      have j3 := HX22.out.cell (.head _) 3
      go_wp2_with fail
      refine (HPY.out _ (Below.refl _ _)).mono ?_
      rintro _ w23 ⟨va, vc, rfl, hir2, hvc, hb23⟩
      have HB23 := Lib.hid (below_step HW0.out (HX22.out.below hb23).fr)
      have HX23 := Lib.hid (below_step HB17.out (HX22.out.below hb23).fr)
      have HIR2 := Lib.hid hir2
      have HY23 := Lib.hid (HX22.out.below hb23).fr
      clear hir2 hb23 k0 k1 k2 k3 j0 j1 j2 j3 HPY
      cases can
      · go_wp2_with (go_at_call 18; refine (HAW.out _).mono ?_; rintro _ w24 ⟨rfl, hb24⟩; have HB24 := Lib.hid (below_step HB23.out hb24); clear hb24)
        go_ret
        exact ⟨rfl, HB24.out⟩
      have hy1 : y.nc ≤ t.nb + 1 := by have := HTO.out.nb; have := HEQ.out.1; omega
      have hy2 : t.nb + 1 ≤ y.nc := by have := HTO.out.nb; have := HEQ.out.1; omega
      obtain ⟨vb, vo, v0a, v0c, rfl, hvb, hv1, hv2⟩ := HIR2.out.at (k := 0) (by omega)
      clear v0a v0c hvb hv1 hv2
      have hyv : y.nc ≤ vc := by omega
      have hv0 : ¬ vc = 0 := fun e => by rw [e] at hvc; exact absurd hvc (Nat.not_succ_le_zero _)
      obtain ⟨sm, HSM⟩ := ex_eq (sameB y.nc y.nc (fun _ => t.ng) (fun _ => y.ng) (siz t.ng x2) (siz y.ng x))
      have HSA : Hid (∀ X, Below w23.heap.size w23 X → Calls Try.prog 45 #[.slice (some ⟨vb, vo, none⟩) y.nc vc, .slice sa y.nc sc] X fun e w' => e = .returned (.bool sm) ∧ Below X.heap.size X w') := fun X hX => by
        have h := same_any (.slice (some ⟨vb, vo, none⟩) y.nc vc) (.slice sa y.nc sc) y.nc y.nc (fun _ => t.ng) (fun _ => y.ng) (siz t.ng x2) (siz y.ng x) X ((HIR2.out.below hX).take2 (by omega)) (HIR.out.below (below_step HX23.out hX)) (by omega) (by omega) (fun _ _ => by have := HEQ.out.2.1; omega) (fun _ _ => by omega)
        rw [HSM.out] at h
        exact h
      cases sm
      · go_wp2_with (first | (go_at_call 45; refine (HSA.out _ (Below.refl _ _)).mono ?_; rintro _ w24 ⟨rfl, hb24⟩; have HB24 := Lib.hid hb24; clear hb24) | (go_at_call 18; refine (HAW.out _).mono ?_; rintro _ w25 ⟨rfl, hb25⟩; have HB25 := Lib.hid (below_step HB23.out (below_step HB24.out hb25)); clear hb25))
        go_ret
        exact ⟨rfl, HB25.out⟩
      have HLAW : Hid (pe = 0 ∧ pn = y.ng ∧ RsAt wx (.slice pa pn pc) y.ng ((y.born (b0, b1)).before off0 y.nc) ∧ ∀ g, g < t.ng → inR (siz t.ng x2 y.nc g) ((y.born (b0, b1)).before off0 y.nc g)) := by
        have hsame := (sameB_true HSM.out).2
        obtain ⟨q1, q2, q3, q4, q5, q6, q7, q8⟩ := HEQ.out
        have hm : ∀ g, g < y.ng → inR (siz y.ng x2 y.nc g) ((y.born (b0, b1)).before off0 y.nc g) := fun g hg => by
          refine Liv.more (L := t.long (b0, b1)) HLIV.out HBB.out ((long_ng HTO.out _).trans q2.symm) q7.symm q8.symm (fun q hq => ?_) (if_pos q3) (by show t.nb + 1 = y.nb + 1; omega) HOL.out HGT.out hcan2 (fun c g hc hg => ?_) hg
          · show (if q = t.nb then (b0, b1) else t.b q) = y.b q
            rw [if_neg (by omega), q6]
          · have h2 := (hsame c (by have := HLIV.out.ok.nb; omega)).2 g (by omega)
            simp only [← q2] at h2
            exact h2
        rcases HPT17.out with ⟨_, g, hg, he⟩ | ⟨h1, h2, h3⟩
        · rw [emptyR_false (hm g hg)] at he
          cases he
        · exact ⟨h1, h2, h3, fun g hg => by rw [← q2]; exact hm g (by omega)⟩
      obtain ⟨rfl, rfl, hpr, hin⟩ := HLAW.out
      have HPR2 := Lib.hid (hpr.below HY23.out); have HIN := Lib.hid hin
      obtain ⟨_, _, la, lc, e, hvb, hv1, hv2⟩ := HIR2.out.at (k := y.nc) (by omega)
      cases e
      have HLS2 := Lib.hid hv2
      have HVC : Hid (∀ X, Below w23.heap.size w23 X → X.cell? ⟨vb, vo + y.nc, none⟩ = some (.slice la t.ng lc)) := fun X hX => kept hX hvb hv1
      clear hpr hin HPT17 hv1 hv2 hvb HLAW HIR2
      have yni : (y.nc : Int) < ((t.nb + 2 : Nat) : Int) := by omega
      go_wp2_with (go_at_call 45; refine (HSA.out _ (Below.refl _ _)).mono ?_; rintro _ w24 ⟨rfl, hb24⟩; have HB24 := Lib.hid hb24; clear hb24; have c0 := HVC.out _ HB24.out)
      clear HVC c0 yni
      go_loopw [26] (fun i wr => ∃ k : Nat, k ≤ t.ng ∧ i = .int .i64 k ∧ Below w23.heap.size w23 wr) (fun i _ => t.ng - (intOf i).toNat)
      case atStart => exact ⟨0, Nat.zero_le _, rfl, HB24.out⟩
      case round =>
        obtain ⟨k, hk, rfl, hbx⟩ := hrel
        rename World => wv
        have HBX := Lib.hid hbx
        clear hbx
        have gi : (0 : Int) ≤ (k : Int) := by omega
        by_cases hlk : k < t.ng
        · as_aux_lemma =>
          have gj : (k : Int) < (t.ng : Int) := by omega
          have hky : k < y.ng := by have := HEQ.out.2.1; omega
          have gl : (k : Int) < (y.ng : Int) := by omega
          obtain ⟨qb, qo, rfl, hqb, x3⟩ := HLS2.out.at (k := k) hlk
          obtain ⟨rb, ro, rfl, hrb, x4, x5⟩ := HPR2.out.at (k := k) hky
          obtain ⟨B1, B2, hB⟩ : ∃ B1 B2, (y.born (b0, b1)).before off0 y.nc k = (B1, B2) := ⟨_, _, rfl⟩
          obtain ⟨sz, HSZ⟩ : ∃ sz, Hid (siz t.ng x2 y.nc k = sz) := ⟨_, rfl⟩
          have hin := HIN.out k hlk
          rw [hB, HSZ.out] at hin
          obtain ⟨hn1, hn2⟩ := hin
          simp only at hn1 hn2
          rw [hB] at x4 x5
          rw [HSZ.out] at x3
          have HC35 : Hid (∀ X, Below w23.heap.size w23 X → (X.cell? ⟨qb, qo + k, none⟩ = some (.int .i64 sz) ∧ X.cell? ⟨rb, ro + k * 2, none⟩ = some (.int .i64 B1) ∧ X.cell? ⟨rb, ro + k * 2 + 1, none⟩ = some (.int .i64 B2))) := fun X hX => ⟨kept hX hqb x3, kept hX hrb x4, kept hX hrb x5⟩
          clear x3 x4 x5 hqb hrb hB hky
          go_wp2_with fail
          go_cut [284] (fun s284 wy => s284 = .bool false ∧ Below w23.heap.size w23 wy)
          case first => as_aux_lemma =>
            have HAX := Lib.hid (HBX.out.drew)
            refine wp_region_held_drew (S := fun X => X.cell? ⟨qb, qo + k, none⟩ = some (.int .i64 sz) ∧ X.cell? ⟨rb, ro + k * 2, none⟩ = some (.int .i64 B1) ∧ X.cell? ⟨rb, ro + k * 2 + 1, none⟩ = some (.int .i64 B2)) (by kernel_rfl) (HC35.out _ HAX.out) (fun hS => ?_)
            generalize wv.drew = X at *
            refine tk [0, 1, 2, 3, 4, 5, 6, 7, 8] ?_
            repeat (refine tkH (oi := ⟨_, _, _, _, _, _⟩) (v := ?_) rfl (by kernel_rfl) (by rfl) (fun _ _ _ h => h) hS ?_ ?_; rotate_left; (· rintro W' ⟨z0, z1, z2⟩; go_simp; try with_reducible rfl); try simp only [Act.put, putA, putZ, putS])
            refine tk0 ?_
            refine tH 9 (oi := ⟨_, _, _, _, _, _⟩) (v := .bool false) rfl (by kernel_rfl) (by rfl) (fun _ _ _ h => h) hS ?_ ?_
            · rintro W' ⟨z0, z1, z2⟩; go_simp; (try omega)
            try simp only [Act.put, putA, putZ, putS]
            refine tk [10, 11, 12, 13, 14, 15, 16, 17, 18, 19] ?_
            repeat (refine tkH (oi := ⟨_, _, _, _, _, _⟩) (v := ?_) rfl (by kernel_rfl) (by rfl) (fun _ _ _ h => h) hS ?_ ?_; rotate_left; (· rintro W' ⟨z0, z1, z2⟩; go_simp; try with_reducible rfl); try simp only [Act.put, putA, putZ, putS])
            refine tk0 ?_
            refine tH 20 (oi := ⟨_, _, _, _, _, _⟩) (v := .bool false) rfl (by kernel_rfl) (by rfl) (fun _ _ _ h => h) hS ?_ ?_
            · rintro W' ⟨z0, z1, z2⟩; go_simp; (try omega)
            try simp only [Act.put, putA, putZ, putS]
            refine tH 21 (oi := ⟨_, _, _, _, _, _⟩) (v := ?_) rfl (by kernel_rfl) (by rfl) (fun _ _ _ h => h) hS ?_ ?_
            rotate_left
            · rintro W' ⟨z0, z1, z2⟩; go_simp; try with_reducible rfl
            try simp only [Act.put, putA, putZ, putS]
            refine wpAnyH_done (by kernel_rfl) ?_ _
            go_wp2_with fail
            go_meet
            exact ⟨by trivial, HAX.out⟩
          rename World => wb
          obtain ⟨rfl, hbb⟩ := hcut
          have HBB2 := Lib.hid hbb
          clear hbb
          go_wp2_with fail
          go_roundw
          case rel => exact ⟨k + 1, by omega, by go_num, HBB2.out⟩
          case measure => simp [intOf]; omega
        · obtain rfl : k = t.ng := by omega
          go_wp2_with (go_at_call 18; refine (HAW.out _).mono ?_; rintro _ w25 ⟨rfl, hb25⟩; have HB25 := Lib.hid (below_step HB23.out (below_step HBX.out hb25)); clear hb25)
          go_ret
          exact ⟨rfl, HB25.out⟩
end Go.Proofs.Ytjaoflfophcibaa
