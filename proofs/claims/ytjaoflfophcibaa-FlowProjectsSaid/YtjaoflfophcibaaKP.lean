/- FlowProjects: the walk. Printed by gen_kp.py. -/
import Derived.Test.YtjaoflfophcibaaJA
import Derived.Test.YtjaoflfophcibaaKO
import Derived.Test.YtjaoflfophcibaaGO
import Derived.Test.YtjaoflfophcibaaPL
namespace Go.Proofs.Ytjaoflfophcibaa
open Go.RowKit Go.Shelf

theorem arr_hi {t : Tb} {c g : Nat} {u : Nat → R2} (ht : OkR t) (hc : c < t.nb) (hg : g < t.ng) (hu : ∀ q, q < t.ng → 0 ≤ (u q).1 ∧ (u q).2 ≤ 500) : 0 ≤ (t.arr c g u).1 ∧ (t.arr c g u).2 ≤ 1100 := by
  have hng := ht.ng2
  have hnr := ht.nr; have hnn := ht.nn
  obtain ⟨n1, n2, n3⟩ := ht.n g (by omega)
  have hl : ∀ i q, i < t.ng + 1 → q < t.ng → emptyR (u q) = false → (livingR (t.r i) (u q)).2 ≤ (u q).2 ∧ 0 ≤ (livingR (t.r i) (u q)).1 := fun i q hi hq he => by
    obtain ⟨r1, r2, r3⟩ := ht.r i (by omega)
    obtain ⟨a1, a2⟩ := hu q hq
    have hne := of_decide_eq_false he
    have d1 := deadR_le (r := t.r i) (n := (u q).1) r1 r2 r3 a1
    have d2 := deadR_le (r := t.r i) (n := (u q).2) r1 r2 r3 (by omega)
    unfold livingR fewestR mostR
    simp only
    omega
  unfold Tb.arr
  simp only
  by_cases hE : (decide (0 < g) && emptyR (u (g - 1)) || decide (g = t.last) && emptyR (u g)) = true
  · rw [if_pos hE]
    exact ⟨by decide, by show (0 : Int) ≤ _; omega⟩
  · rw [if_neg hE]
    simp only [Bool.or_eq_true, Bool.and_eq_true, decide_eq_true_eq, not_or, not_and, Bool.not_eq_true] at hE
    obtain ⟨E1, E2⟩ := hE
    by_cases e0 : g = 0
    · subst e0
      have e1 : ¬ 0 = t.last := by unfold Tb.last; omega
      rw [if_pos rfl, if_neg (Nat.lt_irrefl 0), if_neg e1]
      obtain ⟨b1, b2, b3⟩ := ht.b c hc
      obtain ⟨r1, r2, r3⟩ := ht.r 0 (by omega)
      have d2 := deadR_le (r := t.r 0) (n := (t.b c).2) r1 r2 r3 (by omega)
      unfold meetR plusR livingR fewestR mostR
      simp only
      refine ⟨?_, ?_⟩ <;> omega
    · have hg0 : 0 < g := by omega
      rw [if_neg e0, if_pos hg0, plus_zero]
      have l1 := hl g (g - 1) (by omega) (by omega) (E1 hg0)
      have i1 := (hu (g - 1) (by omega)).2
      by_cases e1 : g = t.last
      · rw [if_pos e1]
        have l2 := hl (g + 1) g (by omega) hg (E2 e1)
        have i2 := (hu g hg).2
        unfold meetR plusR
        simp only
        refine ⟨?_, ?_⟩ <;> omega
      · rw [if_neg e1]
        unfold meetR plusR
        simp only
        refine ⟨?_, ?_⟩ <;> omega
theorem next_hi {t : Tb} (ht : OkR t) (hb : t.nc ≤ t.nb) {g : Nat} (hg : g < t.ng) : emptyR (t.before off0 t.nc g) = true ∨ InB (t.before off0 t.nc g) := by
  have h1 := ht.nc1; have h4 := ht.nc4; have hng := ht.ng2
  obtain ⟨c, hc⟩ : ∃ c, t.nc = c + 1 := ⟨t.nc - 1, by omega⟩
  have hu : ∀ q, q < t.ng → 0 ≤ (meetR (t.before off0 c q) (t.own off0 c q)).1 ∧ (meetR (t.before off0 c q) (t.own off0 c q)).2 ≤ 500 := fun q hq => by
    have h := ht.ct c q (by omega) hq
    have e : t.own off0 c q = t.ct c q := if_neg Bool.false_ne_true
    rw [e]
    unfold meetR
    simp only
    omega
  have h := arr_hi (c := c) (g := g) (u := fun q => meetR (t.before off0 c q) (t.own off0 c q)) ht (by omega) hg hu
  rw [hc]
  cases he : emptyR (t.before off0 (c + 1) g)
  · have hne := of_decide_eq_false he
    exact .inr ⟨h.1, by omega, by have : (t.before off0 (c + 1) g).2 ≤ 1100 := h.2; omega⟩
  · exact .inl rfl
theorem neq_range_ok (a b : Int) (W : World) : (binOp .neq 29 (.agg #[.int .i64 a, .int .i64 b]) (.agg #[.int .i64 a, .int .i64 b])).run Try.prog W = .ok (.bool false) W := by
  rw [neq_range]; simp
/-- The error that is wanted ahead of the groups. -/
def want1 (f : Int) (b : R2) : Int := if f = 0 then (if insideR b 0 500 = true then 0 else 2) else f
def want2 (t : Tb) (b : R2) : Int := if want1 t.fault b = 0 then (if t.agree off0 = true then 0 else 9) else want1 t.fault b
/-- The sizes at the further census. -/
def prR (t : Tb) (b : R2) : Nat → R2 := (t.born b).before off0 t.nc
/-- What Project returns. -/
def PjA (t : Tb) (b : R2) (W : World) (pv : Value) (pn : Nat) (pe : Int) : Prop :=
  (want2 t b ≠ 0 ∧ pe = want2 t b ∧ pn = 0) ∨ (want2 t b = 0 ∧ pe = 9 ∧ pn = 0 ∧ ∃ g, g < t.ng ∧ emptyR (prR t b g) = true) ∨ (want2 t b = 0 ∧ pe = 0 ∧ pn = t.ng ∧ (∀ g, g < t.ng → emptyR (prR t b g) = false) ∧ RsAt W pv t.ng (prR t b))
theorem PjA.below {t : Tb} {b : R2} {W W' : World} {pv : Value} {pn : Nat} {pe : Int} (h : PjA t b W pv pn pe) (hb : Below W.heap.size W W') : PjA t b W' pv pn pe := by
  rcases h with h | h | ⟨h1, h2, h3, h4, h5⟩
  · exact .inl h
  · exact .inr (.inl h)
  · exact .inr (.inr ⟨h1, h2, h3, h4, h5.below hb⟩)
theorem WL.born2 {X : World} {v : WV} {y : Tb} (h : WL X v y) (b : R2) : WL X v (y.born b) := by
  refine ⟨h.1, ?_, h.2.2.1, h.2.2.2⟩
  rcases h.2.1 with h2 | ⟨bb, off, cap, h2, hb, hz⟩
  · exact .inl h2
  · refine .inr ⟨bb, off, cap, h2, hb, fun j hj => ?_⟩
    have hj2 : j < y.nb := hj
    have e : (y.born b).b j = y.b j := if_neg (show ¬ j = y.nb by omega)
    rw [e]
    exact hz j hj
theorem inside_of3 {r : R2} {a b : Int} (h : a ≤ r.1 ∧ r.1 ≤ r.2 ∧ r.2 ≤ b) : insideR r a b = true := by
  unfold insideR
  rw [decide_eq_true h.1, decide_eq_true h.2.1, decide_eq_true h.2.2]; rfl
theorem Okt.fault0 {t : Tb} (h : Okt t) : t.fault = 0 := by
  have := h.nc4; have := h.ng4; have := h.nb
  have hrow : ∀ q, q < t.nc → t.rowOk q = true := fun q hq => by
    unfold Tb.rowOk
    rw [h.rl q hq, allB_true (p := fun g => isCountR (t.ct q g)) (fun g hg => inside_of3 (h.ct q g hq hg))]
    simp
  unfold Tb.fault
  rw [if_neg (by omega), if_pos]
  unfold Tb.okAll
  rw [allB_true hrow, allB_true (p := fun j => isCountR (t.b j)) (fun j hj => inside_of3 (h.b j hj)), allB_true (p := fun j => isRateR (t.r j)) (fun j hj => inside_of3 (h.r j hj)), allB_true (p := fun j => isNetR (t.n j)) (fun j hj => inside_of3 (h.n j hj)), decide_eq_true h.ng2, decide_eq_true (by omega : (t.nb : Int) = t.nc - 1), decide_eq_true h.nr, decide_eq_true h.nn]
  rfl
theorem project_all (v : WV) (y : Tb) (b0 b1 : Int) (X : World) (hs : y.small) (hl : WL X v y) :
    Calls Try.prog 31 #[.agg #[v.cv y, v.bv y, v.rv y, v.nv y], .agg #[.int .i64 b0, .int .i64 b1]] X fun e w' => ∃ pa pn pc pe, e = .returned (.tuple #[.slice pa pn pc, .int .i64 pe]) ∧ PjA y (b0, b1) w' (.slice pa pn pc) pn pe ∧ Below X.heap.size X w' := by
  by_cases hf : y.fault = 0
  · have hok := Okt.of_fault hf
    have hng := hok.ng2
    cases hb : isCountR (b0, b1)
    · have hb' : ¬ insideR (b0, b1) 0 500 = true := by intro h; have : isCountR (b0, b1) = true := h; rw [hb] at this; cases this
      have hw : want2 y (b0, b1) = 2 := by
        have h1 : want1 y.fault (b0, b1) = 2 := by unfold want1; rw [if_pos hf, if_neg hb']
        unfold want2; rw [h1, if_neg (by decide)]
      refine (Project_births v y hs X hl hf b0 b1 hb).mono ?_
      rintro e w' ⟨rfl, hbb⟩
      exact ⟨_, _, _, _, rfl, .inl ⟨by rw [hw]; decide, hw.symm, rfl⟩, hbb⟩
    · have h1 : want1 y.fault (b0, b1) = 0 := by unfold want1; rw [if_pos hf]; exact if_pos hb
      cases ha : y.agree off0
      · have hw : want2 y (b0, b1) = 9 := by unfold want2; rw [if_pos h1, ha]; rfl
        refine (Project_fail v y hs X hl hf b0 b1 hb ha).mono ?_
        rintro e w' ⟨rfl, hbb⟩
        exact ⟨_, _, _, _, rfl, .inl ⟨by rw [hw]; decide, hw.symm, rfl⟩, hbb⟩
      · have hw : want2 y (b0, b1) = 0 := by unfold want2; rw [if_pos h1, ha]; rfl
        refine (Project_ok v (y.born (b0, b1)) hs X (hl.born2 _) (born_ok hok).fault0 b0 b1 (if_pos rfl) hb (by rw [born_agree hok]; exact ha)).mono ?_
        rintro e w' ⟨⟨hg, rfl⟩ | ⟨hg, pv, rfl, hrs⟩, hbb⟩
        · exact ⟨_, _, _, _, rfl, .inr (.inl ⟨hw, rfl, rfl, hg⟩), hbb⟩
        · obtain ⟨pa, pc, rfl⟩ := hrs.slice
          exact ⟨_, _, _, _, rfl, .inr (.inr ⟨hw, rfl, rfl, hg, hrs⟩), hbb⟩
  · have h1 : want1 y.fault (b0, b1) = y.fault := by unfold want1; rw [if_neg hf]
    have hw : want2 y (b0, b1) = y.fault := by unfold want2; rw [h1, if_neg hf]
    refine (Project_bad v y hs X hl hf b0 b1).mono ?_
    rintro e w' ⟨rfl, hbb⟩
    exact ⟨_, _, _, _, rfl, .inl ⟨by rw [hw]; exact hf, hw.symm, rfl⟩, hbb⟩
theorem Rws.nil2 (base : Nat) (X : World) (T1 T2 : TypeId) (s1 s2 : Nat) : Rws base X [⟨T1, s1, .slice none 0 0, 0, []⟩, ⟨T2, s2, .slice none 0 0, 0, []⟩] := by
  refine ⟨fun i p hp => ?_, fun i j p q hne hp hq k e1 e2 => ?_⟩
  · match i, hp with
    | 0, hp => cases hp; exact ⟨by simp, .inl ⟨rfl, rfl⟩⟩
    | 1, hp => cases hp; exact ⟨by simp, .inl ⟨rfl, rfl⟩⟩
    | i + 2, hp => cases hp
  · match i, hp with
    | 0, hp => cases hp; cases e1
    | 1, hp => cases hp; cases e1
    | i + 2, hp => cases hp
theorem flatR_congr2 {R R' : Nat → R2} : ∀ (n : Nat), (∀ j, j < n → R j = R' j) → flatR R n = flatR R' n
  | 0, _ => rfl
  | n + 1, h => by rw [flatR_succ, flatR_succ, flatR_congr2 n (fun j hj => h j (by omega)), h n (by omega)]
theorem next_wli {w0 X : World} {t : Tb} {u : WV} {bc base : Nat} {ba : Option Addr} {b0 b1 : Int} (h : WLi w0 u t) (hX : Below w0.heap.size w0 X)
    (h3 : X.ownsRow base 43 2 (.slice ba (t.nb + 1) bc) (t.nb + 1) (flatR t.b t.nb ++ [.int .i64 b0, .int .i64 b1])) :
    WLi X ⟨u.ca, u.cc, ba, bc, u.ra, u.rc, u.na, u.nc⟩ (t.next (b0, b1)) := by
  have e : flatR t.b t.nb ++ [.int .i64 b0, .int .i64 b1] = flatR (t.next (b0, b1)).b (t.nb + 1) := by
    rw [flatR_succ]
    have e1 : flatR (t.next (b0, b1)).b t.nb = flatR t.b t.nb := flatR_congr2 _ (fun j hj => if_neg (show ¬ j = t.nb by omega))
    have e2 : (t.next (b0, b1)).b t.nb = (b0, b1) := if_pos rfl
    rw [e1, e2]
  rw [e] at h3
  have hb := h.below hX
  exact ⟨hb.1, (RsAt.ownT h3).toIn, hb.2.2.1, hb.2.2.2⟩
theorem next_small {t : Tb} {b : R2} (h : t.small) (ht : Okt t) : (t.next b).small := ⟨h.1, h.2.1, by show t.nb + 1 ≤ 100000; have := ht.nb; have := ht.nc4; omega, h.2.2.2.1, h.2.2.2.2⟩
set_option maxRecDepth 100000 in
set_option maxHeartbeats 8000000 in
theorem flowProjects_walk (u : WV) (t : Tb) (b0 b1 : Int) (w : World) (h0 : TbLaw w u t) :
    Calls Try.prog 4 #[.agg #[u.cv t, u.bv t, u.rv t, u.nv t], .agg #[.int .i64 b0, .int .i64 b1]] w fun e w' => e = .returned (.bool true) ∧ Below w.heap.size w w' := by
  have HTH : Hid (∀ X, Below w.heap.size w X → Calls Try.prog 17 #[.agg #[u.cv t, u.bv t, u.rv t, u.nv t]] X fun e w' => e = .returned (.bool t.thin) ∧ Below X.heap.size X w') := fun X hX => thin_big _ t h0.big X (h0.l.below hX)
  have HAW := Lib.hid awake_any
  have HSP := Lib.hid (span_any b0 b1 0 500)
  obtain ⟨i0, hi0, hz0, hz1, hz2⟩ := info_parts Try.infoRangeR
  obtain ⟨uca, ucc, uba, ubc, ura, urc, una, unc⟩ := u
  have HT0 := Lib.hid h0
  clear h0
  simp only [WV.cv, WV.bv, WV.rv, WV.nv] at HTH ⊢
  have HA0 : Hid (BF w ((w.alloc (.cells #[.slice uca t.nc ucc, .slice uba t.nb ubc, .slice ura t.nr urc, .slice una t.nn unc] 25)).alloc (.cells #[.int .i64 b0, .int .i64 b1] 43)) [(w.heap.size, #[.slice uca t.nc ucc, .slice uba t.nb ubc, .slice ura t.nr urc, .slice una t.nn unc], 25), (w.heap.size + 1, #[.int .i64 b0, .int .i64 b1], 43)]) := BF.made2 w _ _ _ _
  have k0 := HA0.out.cell (.head _) 0
  have k1 := HA0.out.cell (.head _) 1
  have k2 := HA0.out.cell (.head _) 2
  have k3 := HA0.out.cell (.head _) 3
  have j0 := HA0.out.cell (.tail _ (.head _)) 0
  have j1 := HA0.out.cell (.tail _ (.head _)) 1
  go_enter Try.func4, Try.ntmps4
  cases hth : t.thin
  · go_wp2_with (first | (go_at_call 17; refine (HTH.out _ HA0.out.fr).mono ?_; rw [hth]; rintro _ w1 ⟨rfl, hb1⟩; have HA1 := Lib.hid (HA0.out.below hb1); clear hb1) | (go_at_call 18; refine (HAW.out _).mono ?_; rintro _ w2 ⟨rfl, hb2⟩; have HB2 := Lib.hid (HA1.out.below hb2).fr; clear hb2))
    go_ret
    exact ⟨rfl, HB2.out⟩
  go_wp2_with fail
  refine (HTH.out _ HA0.out.fr).mono ?_
  rw [hth]
  rintro _ w1 ⟨rfl, hb1⟩
  have HA1 := Lib.hid (HA0.out.below hb1)
  clear k0 k1 k2 k3 j0 j1 hb1 HA0
  have hs := Tb.thin_small hth HT0.out.z
  have sb2 : t.nb ≤ 100000 := hs.2.2.1
  have HSS := Lib.hid hs
  obtain ⟨f, HF⟩ : ∃ f, Hid (t.fault = f) := ⟨_, rfl⟩
  have HTB : Hid (∀ X, Below w1.heap.size w1 X → Calls Try.prog 20 #[.agg #[.slice uca t.nc ucc, .slice uba t.nb ubc, .slice ura t.nr urc, .slice una t.nn unc]] X fun e w' => ∃ v' : WV, e = .returned (.agg #[v'.cv t, v'.bv t, v'.rv t, v'.nv t]) ∧ WL w' v' t ∧ Below X.heap.size X w') := fun X hX => table_any ⟨uca, ucc, uba, ubc, ura, urc, una, unc⟩ t HSS.out X (HT0.out.l.below (HA1.out.below hX).fr)
  have HPJ : Hid (∀ (X : World) (v' : WV), WL X v' t → Calls Try.prog 31 #[.agg #[v'.cv t, v'.bv t, v'.rv t, v'.nv t], .agg #[.int .i64 b0, .int .i64 b1]] X fun e w' => ∃ pa pn pc pe, e = .returned (.tuple #[.slice pa pn pc, .int .i64 pe]) ∧ PjA t (b0, b1) w' (.slice pa pn pc) pn pe ∧ Below X.heap.size X w') := fun X v' h => project_all v' t b0 b1 X HSS.out h
  have HFT : Hid (∀ X, Below w.heap.size w X → Calls Try.prog 21 #[.agg #[.slice uca t.nc ucc, .slice uba t.nb ubc, .slice ura t.nr urc, .slice una t.nn unc]] X fun e w' => e = .returned (.int .i64 f) ∧ Below X.heap.size X w') := fun X hX => by
    have h2 := lfault_any ⟨uca, ucc, uba, ubc, ura, urc, una, unc⟩ t HSS.out X (HT0.out.l.below hX)
    rw [HF.out] at h2
    exact h2
  have HGR : Hid (∀ X, Below w.heap.size w X → Calls Try.prog 23 #[.agg #[.slice uca t.nc ucc, .slice uba t.nb ubc, .slice ura t.nr urc, .slice una t.nn unc]] X fun e w' => e = .returned (.int .i64 (t.ng : Nat)) ∧ Below X.heap.size X w') := fun X hX => rgroups_any _ t X (HT0.out.l.below hX).tb HSS.out
  have HC3 : Hid (∀ X, Below w1.heap.size w1 X → (X.cell? ⟨w.heap.size, 0, none⟩ = some (.slice uca t.nc ucc) ∧ X.cell? ⟨w.heap.size, 1, none⟩ = some (.slice uba t.nb ubc) ∧ X.cell? ⟨w.heap.size, 2, none⟩ = some (.slice ura t.nr urc) ∧ X.cell? ⟨w.heap.size, 3, none⟩ = some (.slice una t.nn unc) ∧ X.cell? ⟨w.heap.size + 1, 0, none⟩ = some (.int .i64 b0) ∧ X.cell? ⟨w.heap.size + 1, 1, none⟩ = some (.int .i64 b1))) := fun X hX => by
    have h := HA1.out.below hX
    exact ⟨h.cell (.head _) 0, h.cell (.head _) 1, h.cell (.head _) 2, h.cell (.head _) 3, h.cell (.tail _ (.head _)) 0, h.cell (.tail _ (.head _)) 1⟩
  clear HTH hs hth
  simp only [WV.cv, WV.bv, WV.rv, WV.nv] at HTB HPJ HGR HFT
  have k0 := HA1.out.cell (.head _) 0
  have k1 := HA1.out.cell (.head _) 1
  have k2 := HA1.out.cell (.head _) 2
  have k3 := HA1.out.cell (.head _) 3
  have j0 := HA1.out.cell (.tail _ (.head _)) 0
  have j1 := HA1.out.cell (.tail _ (.head _)) 1
  go_wp2_with fail
  go_cut [5, 6] (fun s5 s6 wy => ∃ pa pn pc pe, s5 = .slice pa pn pc ∧ s6 = .int .i64 pe ∧ PjA t (b0, b1) wy (.slice pa pn pc) pn pe ∧ Below w1.heap.size w1 wy)
  case first => as_aux_lemma =>
    have HAX : Hid (Below w1.heap.size w1 w1.drew) := (Below.refl _ _).drew
    refine wp_region_held_drew (S := fun X => X.cell? ⟨w.heap.size, 0, none⟩ = some (.slice uca t.nc ucc) ∧ X.cell? ⟨w.heap.size, 1, none⟩ = some (.slice uba t.nb ubc) ∧ X.cell? ⟨w.heap.size, 2, none⟩ = some (.slice ura t.nr urc) ∧ X.cell? ⟨w.heap.size, 3, none⟩ = some (.slice una t.nn unc) ∧ X.cell? ⟨w.heap.size + 1, 0, none⟩ = some (.int .i64 b0) ∧ X.cell? ⟨w.heap.size + 1, 1, none⟩ = some (.int .i64 b1)) (by kernel_rfl) (HC3.out _ HAX.out) (fun hS => ?_)
    generalize w1.drew = X at *
    refine tk [0, 2] ?_
    repeat (refine tkH (oi := ⟨_, _, _, _, _, _⟩) (v := ?_) rfl (by kernel_rfl) (by rfl) (fun _ _ _ h => h) hS ?_ ?_; rotate_left; (· rintro W' ⟨z0, z1, z2, z3, z4, z5⟩; go_simp; try with_reducible rfl); try simp only [Act.put, putA, putZ, putS])
    refine tk0 ?_
    refine wpAnyH_ready (rs := [1]) (by kernel_rfl) (by simp) ?_
    refine AllReadyH.cons (o := ⟨some 20, _, _, _, _, _⟩) rfl (fun K hK => ?_) AllReadyH.nil
    go_simp
    refine (HTB.out _ HAX.out).mono ?_
    rintro _ X0 ⟨vT, rfl, hlT, hb0⟩
    (try go_wp2_with fail)
    have HA0 := Lib.hid (below_step HAX.out hb0)
    have HT0 := Lib.hid hlT
    refine hK.out _ _ (HC3.out X0 HA0.out) (fun hS => ?_)
    clear hK K
    try simp only [Act.put, putA, putZ, putS]
    clear hb0 hlT
    refine wpAnyH_ready (rs := [3]) (by kernel_rfl) (by simp) ?_
    refine AllReadyH.cons (o := ⟨some 22, _, _, _, _, _⟩) rfl (fun K hK => ?_) AllReadyH.nil
    go_simp
    refine (to_any b0 b1 _).mono ?_
    rintro _ X1 ⟨rfl, hb1⟩
    (try go_wp2_with fail)
    have HA1 := Lib.hid (below_step HA0.out hb1)
    have HT1 := Lib.hid (HT0.out.below hb1)
    refine hK.out _ _ (HC3.out X1 HA1.out) (fun hS => ?_)
    clear hK K
    try simp only [Act.put, putA, putZ, putS]
    clear hb1
    refine wpAnyH_ready (rs := [4]) (by kernel_rfl) (by simp) ?_
    refine AllReadyH.cons (o := ⟨some 23, _, _, _, _, _⟩) rfl (fun K hK => ?_) AllReadyH.nil
    go_simp
    refine (HPJ.out _ _ HT1.out).mono ?_
    rintro _ X2 ⟨pa, pn, pc, pe, rfl, hpj, hb2⟩
    (try go_wp2_with fail)
    have HA2 := Lib.hid (below_step HA1.out hb2)
    have HPT := Lib.hid hpj
    refine hK.out _ _ (HC3.out X2 HA2.out) (fun hS => ?_)
    clear hK K
    try simp only [Act.put, putA, putZ, putS]
    clear hb2 hpj
    refine tk [5, 6, 7, 8, 9] ?_
    repeat (refine tkH (oi := ⟨_, _, _, _, _, _⟩) (v := ?_) rfl (by kernel_rfl) (by rfl) (fun _ _ _ h => h) hS ?_ ?_; rotate_left; (· rintro W' ⟨z0, z1, z2, z3, z4, z5⟩; go_simp; try with_reducible rfl); try simp only [Act.put, putA, putZ, putS])
    refine tk0 ?_
    refine wpAnyH_done (by kernel_rfl) ?_ _
    go_wp2_with fail
    go_meet
    exact ⟨pa, pn, pc, pe, rfl, rfl, HPT.out, HA2.out⟩
  rename World => w2
  obtain ⟨pa, pn, pc, pe, rfl, rfl, hpj, hb2⟩ := hcut
  have HA2 := Lib.hid (HA1.out.below hb2)
  have HPT := Lib.hid hpj
  clear k0 k1 k2 k3 j0 j1 hpj hb2 HPJ HTB HC3 HA1
  have k0 := HA2.out.cell (.head _) 0
  have k1 := HA2.out.cell (.head _) 1
  have k2 := HA2.out.cell (.head _) 2
  have k3 := HA2.out.cell (.head _) 3
  have j0 := HA2.out.cell (.tail _ (.head _)) 0
  have j1 := HA2.out.cell (.tail _ (.head _)) 1
  go_wp2_with fail
  refine (HFT.out _ HA2.out.fr).mono ?_
  rintro _ w3 ⟨rfl, hb3⟩
  have HA3 := Lib.hid (HA2.out.below hb3); have HPT3 := Lib.hid (HPT.out.below hb3)
  clear k0 k1 k2 k3 j0 j1 hb3 HA2 HPT HFT
  have k0 := HA3.out.cell (.head _) 0
  have k1 := HA3.out.cell (.head _) 1
  have k2 := HA3.out.cell (.head _) 2
  have k3 := HA3.out.cell (.head _) 3
  have j0 := HA3.out.cell (.tail _ (.head _)) 0
  have j1 := HA3.out.cell (.tail _ (.head _)) 1
  go_upto_region 5 with (fail)
  obtain ⟨bq, HBQ⟩ : ∃ bq, Hid ((decide (f = 0) && !(insideR (b0, b1) 0 500)) = bq) := ⟨_, rfl⟩
  go_cut [34] (fun s34 wy => s34 = .bool bq ∧ Below w3.heap.size w3 wy)
  case first => as_aux_lemma =>
    by_cases hf0 : f = 0
    · subst hf0
      have h1 := HBQ.out
      rw [decide_eq_true rfl, Bool.true_and] at h1
      cases hsp : insideR (b0, b1) 0 500
      · rw [hsp] at h1
        subst h1
        go_wp2_with (go_at_call 32; refine (HSP.out _).mono ?_; rw [hsp]; rintro _ w4 ⟨rfl, hb4⟩; have HB4 := Lib.hid hb4; clear hb4)
        go_meet
        exact ⟨by trivial, HB4.out⟩
      · rw [hsp] at h1
        subst h1
        go_wp2_with (go_at_call 32; refine (HSP.out _).mono ?_; rw [hsp]; rintro _ w4 ⟨rfl, hb4⟩; have HB4 := Lib.hid hb4; clear hb4)
        go_meet
        exact ⟨by trivial, HB4.out⟩
    · have hq : (f == 0) = false := by simpa using hf0
      have h1 := HBQ.out
      rw [decide_eq_false hf0, Bool.false_and] at h1
      subst h1
      go_wp2_with fail
      go_meet
      exact ⟨by trivial, Below.refl _ _⟩
  rename World => w4a
  obtain ⟨rfl, hb4a⟩ := hcut
  go_upto_if 34 with (fail)
  go_cut [7] (fun s7 wy => s7 = .int .i64 (want1 f (b0, b1)) ∧ Below w4a.heap.size w4a wy)
  case first => as_aux_lemma =>
    have h1 := HBQ.out
    cases bq
    · have h2 : want1 f (b0, b1) = f := by
        unfold want1
        by_cases hf0 : f = 0
        · rw [decide_eq_true hf0, Bool.true_and] at h1
          rw [if_pos hf0, if_pos (by simpa using h1)]
          exact hf0.symm
        · rw [if_neg hf0]
      clear h1
      go_wp2_with fail
      go_meet
      exact ⟨by rw [h2], Below.refl _ _⟩
    · have h2 : want1 f (b0, b1) = 2 := by
        simp only [Bool.and_eq_true, decide_eq_true_eq, Bool.not_eq_true'] at h1
        unfold want1
        rw [if_pos h1.1, if_neg (by rw [h1.2]; decide)]
      clear h1
      go_wp2_with fail
      go_meet
      exact ⟨by rw [h2], Below.refl _ _⟩
  rename World => w4
  obtain ⟨rfl, hb4b⟩ := hcut
  have hb4 := below_step hb4a hb4b
  clear hb4a hb4b
  have HA4 := Lib.hid (HA3.out.below hb4); have HPT4 := Lib.hid (HPT3.out.below hb4)
  obtain ⟨f1, HF1⟩ : ∃ f1, Hid (want1 f (b0, b1) = f1) := ⟨_, rfl⟩
  obtain ⟨f2, HF2⟩ : ∃ f2, Hid (want2 t (b0, b1) = f2) := ⟨_, rfl⟩
  have HF3 : Hid ((f1 = 0 → t.fault = 0 ∧ insideR (b0, b1) 0 500 = true ∧ f2 = if t.agree off0 = true then 0 else 9) ∧ (f1 ≠ 0 → f2 = f1)) := by
    rw [Hid, ← HF1.out, ← HF2.out, ← HF.out]
    unfold want2
    refine ⟨fun h => ?_, fun h => if_neg h⟩
    rw [if_pos h]
    unfold want1 at h
    by_cases e : t.fault = 0
    · rw [if_pos e] at h
      refine ⟨e, ?_, rfl⟩
      by_cases e2 : insideR (b0, b1) 0 500 = true
      · exact e2
      · rw [if_neg e2] at h; cases h
    · rw [if_neg e] at h
      exact absurd h e
  rw [HF1.out]
  clear k0 k1 k2 k3 j0 j1 hb4 HA3 HPT3 HF1 HSP
  have k0 := HA4.out.cell (.head _) 0
  have k1 := HA4.out.cell (.head _) 1
  have k2 := HA4.out.cell (.head _) 2
  have k3 := HA4.out.cell (.head _) 3
  have j0 := HA4.out.cell (.tail _ (.head _)) 0
  have j1 := HA4.out.cell (.tail _ (.head _)) 1
  go_upto_region 7 with (fail)
  obtain ⟨bq2, HBQ2⟩ : ∃ bq, Hid ((decide (f1 = 0) && !(t.agree off0)) = bq) := ⟨_, rfl⟩
  go_cut [42] (fun s42 wy => s42 = .bool bq2 ∧ Below w4.heap.size w4 wy)
  case first => as_aux_lemma =>
    by_cases hf0 : f1 = 0
    · obtain ⟨q1, _, _⟩ := HF3.out.1 hf0
      subst hf0
      have HAG : Hid (Calls Try.prog 25 #[.agg #[.slice uca t.nc ucc, .slice uba t.nb ubc, .slice ura t.nr urc, .slice una t.nn unc], .agg (outL off0).toArray] w4 fun e w' => e = .returned (.bool (t.agree off0)) ∧ Below w4.heap.size w4 w') := ragree_any ⟨uca, ucc, uba, ubc, ura, urc, una, unc⟩ t off0 w4 (HT0.out.l.below HA4.out.fr) (Okt.of_fault q1).toR HSS.out
      have h1 := HBQ2.out
      rw [decide_eq_true rfl, Bool.true_and] at h1
      rw [off0_L] at HAG
      cases hag : t.agree off0
      all_goals
        rw [hag] at h1 HAG
        subst h1
        clear q1 hag HF3 HBQ2
        go_wp2_with fail
        refine HAG.out.mono ?_
        rintro _ w5 ⟨rfl, hb5⟩
        have HB5 := Lib.hid hb5
        clear hb5
        go_wp2_with fail
        go_meet
        exact ⟨by trivial, HB5.out⟩
    · have hq : (f1 == 0) = false := by simpa using hf0
      have h1 := HBQ2.out
      rw [decide_eq_false hf0, Bool.false_and] at h1
      subst h1
      go_wp2_with fail
      go_meet
      exact ⟨by trivial, Below.refl _ _⟩
  rename World => w5a
  obtain ⟨rfl, hb5a⟩ := hcut
  go_upto_if 42 with (fail)
  go_cut [7] (fun s7 wy => s7 = .int .i64 f2 ∧ Below w5a.heap.size w5a wy)
  case first => as_aux_lemma =>
    have h1 := HBQ2.out
    cases bq2
    · have h2 : f2 = f1 := by
        by_cases hf0 : f1 = 0
        · rw [decide_eq_true hf0, Bool.true_and] at h1
          rw [(HF3.out.1 hf0).2.2, if_pos (by simpa using h1)]
          exact hf0.symm
        · exact HF3.out.2 hf0
      subst h2
      clear h1
      go_wp2_with fail
      go_meet
      exact ⟨rfl, Below.refl _ _⟩
    · have h2 : f2 = 9 := by
        simp only [Bool.and_eq_true, decide_eq_true_eq, Bool.not_eq_true'] at h1
        rw [(HF3.out.1 h1.1).2.2, if_neg (by rw [h1.2]; decide)]
      subst h2
      clear h1
      go_wp2_with fail
      go_meet
      exact ⟨rfl, Below.refl _ _⟩
  rename World => w5
  obtain ⟨rfl, hb5b⟩ := hcut
  have hb5 := below_step hb5a hb5b
  clear hb5a hb5b
  have HA5 := Lib.hid (HA4.out.below hb5); have HPT5 := Lib.hid (HPT4.out.below hb5)
  clear k0 k1 k2 k3 j0 j1 hb5 HA4 HPT4
  have k0 := HA5.out.cell (.head _) 0
  have k1 := HA5.out.cell (.head _) 1
  have k2 := HA5.out.cell (.head _) 2
  have k3 := HA5.out.cell (.head _) 3
  have j0 := HA5.out.cell (.tail _ (.head _)) 0
  have j1 := HA5.out.cell (.tail _ (.head _)) 1
  have HX6 : Hid (BF w5 (w5.alloc (.cells #[.slice uca t.nc ucc, .slice uba t.nb ubc, .slice ura t.nr urc, .slice una t.nn unc] 25)) [(w5.heap.size, #[.slice uca t.nc ucc, .slice uba t.nb ubc, .slice ura t.nr urc, .slice una t.nn unc], 25)]) := (BF.base w5).alloc _ _
  have HC11 : Hid (∀ X, Below w5.heap.size w5 X → (X.cell? ⟨w.heap.size, 1, none⟩ = some (.slice uba t.nb ubc) ∧ X.cell? ⟨w.heap.size + 1, 0, none⟩ = some (.int .i64 b0) ∧ X.cell? ⟨w.heap.size + 1, 1, none⟩ = some (.int .i64 b1))) := fun X hX => by
    have h := HA5.out.below hX
    exact ⟨h.cell (.head _) 1, h.cell (.tail _ (.head _)) 0, h.cell (.tail _ (.head _)) 1⟩
  go_wp2_with fail
  clear k0 k1 k2 k3 j0 j1
  have HR6 := Lib.hid (Rws.nil2 w5.heap.size (w5.alloc (.cells #[.slice uca t.nc ucc, .slice uba t.nb ubc, .slice ura t.nr urc, .slice una t.nn unc] 25)) 43 43 2 2)
  generalize (w5.alloc (.cells #[.slice uca t.nc ucc, .slice uba t.nb ubc, .slice ura t.nr urc, .slice una t.nn unc] 25)) = w6 at *
  have HAU := HA5
  go_cut [] (fun wy => ∃ ba bc J2 Jc2, BF w5 wy [(w5.heap.size, #[.slice uca t.nc ucc, .slice ba (t.nb + 1) bc, .slice ura t.nr urc, .slice una t.nn unc], 25)] ∧ Rws w5.heap.size wy [⟨43, 2, .slice ba (t.nb + 1) bc, t.nb + 1, flatR t.b t.nb ++ [.int .i64 b0, .int .i64 b1]⟩, ⟨43, 2, .slice (some ⟨J2, 0, none⟩) 1 Jc2, 1, [.int .i64 b0, .int .i64 b1]⟩])
  case first => as_aux_lemma =>
    have HAX := Lib.hid (HX6.out.below (Below.refl _ w6).drew)
    have HRX := Lib.hid (HR6.out.below (Below.refl _ w6).drew)
    refine wp_region_Z (S := fun X => X.cell? ⟨w.heap.size, 1, none⟩ = some (.slice uba t.nb ubc) ∧ X.cell? ⟨w.heap.size + 1, 0, none⟩ = some (.int .i64 b0) ∧ X.cell? ⟨w.heap.size + 1, 1, none⟩ = some (.int .i64 b1)) (by kernel_rfl) (HC11.out _ HAX.out.fr) (fun hS => ?_)
    generalize w6.drew = X at *
    refine tk [1, 2, 4] ?_
    repeat (refine tkZ (oi := ⟨_, _, _, _, _, _⟩) (v := ?_) rfl (by kernel_rfl) (by rfl) (fun _ _ _ h => h) hS ?_ ?_; rotate_left; (· rintro W' ⟨z0, z1, z2⟩; go_simp; try with_reducible rfl); try simp only [Act.put, putA, putZ, putS])
    refine tk0 ?_
    refine wpAnyZ_next (rs := [0, 5]) (by kernel_rfl) (by simp) ?_
    refine NextZ.cons (o := ⟨some 44, _, _, _, _, _⟩) rfl (fun K hK => ?_) ?_
    ·
     go_simp
     have HA0 := Lib.hid (HAX.out.below (below_alloc X (.cells #[] 43)))
     have HR0 : Hid (Rws w5.heap.size (X.alloc (.cells #[] 43)) [⟨43, 2, .slice (some ⟨X.heap.size, 0, none⟩) 0 0, 0, []⟩, ⟨43, 2, .slice none 0 0, 0, []⟩]) := HRX.out.made HAX.out.fr.size 0 43 2
     refine hK.out _ _ (HC11.out (X.alloc (.cells #[] 43)) HA0.out.fr) (fun hS => ?_)
     clear hK K
     try simp only [Act.put, putA, putZ, putS]
     generalize X.heap.size = J22 at *
     generalize (X.alloc (.cells #[] 43)) = X0 at *
     refine wpAnyZ_next (rs := [3, 5]) (by kernel_rfl) (by simp) ?_
     refine NextZ.cons (o := ⟨some 47, _, _, _, _, _⟩) rfl (fun K hK => ?_) ?_
     ·
      refine step_append_src X0 (by rfl) (.tmp 44) (.tmp 46) 23 (by rfl) w5.heap.size 43 i0 (.agg #[.int .i64 0, .int .i64 0]) 2 16 Try.underlying23 hi0 hz0 hz1 hz2 rfl (by decide) (.slice (some ⟨J22, 0, none⟩) 0 0) (0) ([]) (by rfl) (HR0.out.own 0 _ rfl) uba t.nb ubc (flatR t.b t.nb) (by rfl) ((HT0.out.l.2.1.below (HAU.out.below HA0.out.fr).fr).src) (flatR_one _ _) (by unfold maxLen; omega) (by omega) HA0.out.fr.size ?_
      intro v1 X1 hown hgr hl
      rw [Nat.zero_add, List.nil_append] at hown
      obtain ⟨qa1, qc1, rfl⟩ := own_slice' hown
      have HA1 := Lib.hid (BF.grow HA0.out HR0.out (i := 0) rfl (List.forall_mem_cons.2 ⟨(show 25 ≠ 43 by decide), List.forall_mem_nil _⟩) (Nat.le_refl _) hgr)
      have HR1 : Hid (Rws w5.heap.size X1 [⟨43, 2, .slice qa1 t.nb qc1, t.nb, flatR t.b t.nb⟩, ⟨43, 2, .slice none 0 0, 0, []⟩]) := HR0.out.app2 (i := 0) rfl hown hgr hl
      clear hown hgr hl
      refine hK.out _ _ (HC11.out X1 HA1.out.fr) (fun hS => ?_)
      clear hK K
      try simp only [Act.put, putA, putZ, putS]
      refine wpAnyZ_next (rs := [5]) (by kernel_rfl) (by simp) ?_
      refine NextZ.cons (o := ⟨some 49, _, _, _, _, _⟩) rfl (fun K hK => ?_) NextZ.nil
      go_simp
      have HA2 := Lib.hid (HA1.out.below (below_alloc X1 (.cells #[.int .i64 b0, .int .i64 b1] 43)))
      have HR2 : Hid (Rws w5.heap.size (X1.alloc (.cells #[.int .i64 b0, .int .i64 b1] 43)) [⟨43, 2, .slice qa1 t.nb qc1, t.nb, flatR t.b t.nb⟩, ⟨43, 2, .slice (some ⟨X1.heap.size, 0, none⟩) 1 1, 1, [.int .i64 b0, .int .i64 b1]⟩]) := HR1.out.new (i := 1) (sz := 2) (n := 1) rfl HA1.out.fr.size rfl (by unfold maxLen; omega)
      refine hK.out _ _ (HC11.out (X1.alloc (.cells #[.int .i64 b0, .int .i64 b1] 43)) HA2.out.fr) (fun hS => ?_)
      clear hK K
      try simp only [Act.put, putA, putZ, putS]
      generalize X1.heap.size = J23 at *
      generalize (X1.alloc (.cells #[.int .i64 b0, .int .i64 b1] 43)) = X2 at *
      refine wpAnyZ_next (rs := [6]) (by kernel_rfl) (by simp) ?_
      refine NextZ.cons (o := ⟨some 50, _, _, _, _, _⟩) rfl (fun K hK => ?_) NextZ.nil
      refine step_append_src X2 (by rfl) (.tmp 47) (.tmp 49) 23 (by rfl) w5.heap.size 43 i0 (.agg #[.int .i64 0, .int .i64 0]) 2 16 Try.underlying23 hi0 hz0 hz1 hz2 rfl (by decide) (.slice qa1 t.nb qc1) (t.nb) (flatR t.b t.nb) (by rfl) (HR2.out.own 0 _ rfl) (some ⟨J23, 0, none⟩) 1 1 [.int .i64 b0, .int .i64 b1] (by rfl) (own_src (HR2.out.own 1 _ rfl)) (by simp [Value.oneCell']) (by unfold maxLen; omega) (by omega) HA2.out.fr.size ?_
      intro v3 X3 hown hgr hl
      obtain ⟨qa3, qc3, rfl⟩ := own_slice' hown
      have HA3 := Lib.hid (BF.grow HA2.out HR2.out (i := 0) rfl (List.forall_mem_cons.2 ⟨(show 25 ≠ 43 by decide), List.forall_mem_nil _⟩) (Nat.le_refl _) hgr)
      have HR3 : Hid (Rws w5.heap.size X3 [⟨43, 2, .slice qa3 (t.nb + 1) qc3, t.nb + 1, flatR t.b t.nb ++ [.int .i64 b0, .int .i64 b1]⟩, ⟨43, 2, .slice (some ⟨J23, 0, none⟩) 1 1, 1, [.int .i64 b0, .int .i64 b1]⟩]) := HR2.out.app2 (i := 0) rfl hown hgr hl
      clear hown hgr hl
      refine hK.out _ _ (HC11.out X3 HA3.out.fr) (fun hS => ?_)
      clear hK K
      try simp only [Act.put, putA, putZ, putS]
      refine tZ 7 (oi := ⟨_, _, _, _, _, _⟩) (v := ?_) rfl (by kernel_rfl) (by rfl) (fun _ _ _ h => h) hS ?_ ?_
      rotate_left
      · rintro W' ⟨z0, z1, z2⟩; go_simp; try with_reducible rfl
      try simp only [Act.put, putA, putZ, putS]
      refine wpAnyZ_next (rs := [8]) (by kernel_rfl) (by simp) ?_
      refine NextZ.last (o := ⟨none, _, _, _, _, _⟩) rfl (by kernel_rfl) (fun K hK => ?_)
      have e0 := HA3.out.cell (.head _) 1
      have f0 := HA3.out.thaw (.head _) 1
      have HA4 := Lib.hid (BF.set1 (i := 1) (cs' := #[.slice uca t.nc ucc, .slice qa3 (t.nb + 1) qc3, .slice ura t.nr urc, .slice una t.nn unc]) HA3.out (.head _) (.slice qa3 (t.nb + 1) qc3) (by simp) rfl (L' := []) (List.forall_mem_nil _))
      have HR4 : Hid (Rws w5.heap.size (X3.setCell ⟨w5.heap.size, 1, none⟩ (.slice qa3 (t.nb + 1) qc3)) [⟨43, 2, .slice qa3 (t.nb + 1) qc3, t.nb + 1, flatR t.b t.nb ++ [.int .i64 b0, .int .i64 b1]⟩, ⟨43, 2, .slice (some ⟨J23, 0, none⟩) 1 1, 1, [.int .i64 b0, .int .i64 b1]⟩]) := HR3.out.tab (HA3.out.bk _ _ _ (.head _)).2 (List.forall_mem_cons.2 ⟨(show 25 ≠ 43 by decide), List.forall_mem_cons.2 ⟨(show 25 ≠ 43 by decide), List.forall_mem_nil _⟩⟩) (Fr.set _ _ _ _)
      go_simp
      refine hK.out _ _ ?_
      clear hK K
      (try simp only [Act.put])
      refine wpAnyZ_done (by kernel_rfl) ?_ _
      go_wp2_with fail
      go_meet
      exact ⟨_, _, _, _, HA4.out, HR4.out⟩
     refine NextZ.cons (o := ⟨some 49, _, _, _, _, _⟩) rfl (fun K hK => ?_) NextZ.nil
     go_simp
     have HA5 := Lib.hid (HA0.out.below (below_alloc X0 (.cells #[.int .i64 b0, .int .i64 b1] 43)))
     have HR5 : Hid (Rws w5.heap.size (X0.alloc (.cells #[.int .i64 b0, .int .i64 b1] 43)) [⟨43, 2, .slice (some ⟨J22, 0, none⟩) 0 0, 0, []⟩, ⟨43, 2, .slice (some ⟨X0.heap.size, 0, none⟩) 1 1, 1, [.int .i64 b0, .int .i64 b1]⟩]) := HR0.out.new (i := 1) (sz := 2) (n := 1) rfl HA0.out.fr.size rfl (by unfold maxLen; omega)
     refine hK.out _ _ (HC11.out (X0.alloc (.cells #[.int .i64 b0, .int .i64 b1] 43)) HA5.out.fr) (fun hS => ?_)
     clear hK K
     try simp only [Act.put, putA, putZ, putS]
     generalize X0.heap.size = J23 at *
     generalize (X0.alloc (.cells #[.int .i64 b0, .int .i64 b1] 43)) = X5 at *
     refine wpAnyZ_next (rs := [3]) (by kernel_rfl) (by simp) ?_
     refine NextZ.cons (o := ⟨some 47, _, _, _, _, _⟩) rfl (fun K hK => ?_) NextZ.nil
     refine step_append_src X5 (by rfl) (.tmp 44) (.tmp 46) 23 (by rfl) w5.heap.size 43 i0 (.agg #[.int .i64 0, .int .i64 0]) 2 16 Try.underlying23 hi0 hz0 hz1 hz2 rfl (by decide) (.slice (some ⟨J22, 0, none⟩) 0 0) (0) ([]) (by rfl) (HR5.out.own 0 _ rfl) uba t.nb ubc (flatR t.b t.nb) (by rfl) ((HT0.out.l.2.1.below (HAU.out.below HA5.out.fr).fr).src) (flatR_one _ _) (by unfold maxLen; omega) (by omega) HA5.out.fr.size ?_
     intro v6 X6 hown hgr hl
     rw [Nat.zero_add, List.nil_append] at hown
     obtain ⟨qa6, qc6, rfl⟩ := own_slice' hown
     have HA6 := Lib.hid (BF.grow HA5.out HR5.out (i := 0) rfl (List.forall_mem_cons.2 ⟨(show 25 ≠ 43 by decide), List.forall_mem_nil _⟩) (Nat.le_refl _) hgr)
     have HR6 : Hid (Rws w5.heap.size X6 [⟨43, 2, .slice qa6 t.nb qc6, t.nb, flatR t.b t.nb⟩, ⟨43, 2, .slice (some ⟨J23, 0, none⟩) 1 1, 1, [.int .i64 b0, .int .i64 b1]⟩]) := HR5.out.app2 (i := 0) rfl hown hgr hl
     clear hown hgr hl
     refine hK.out _ _ (HC11.out X6 HA6.out.fr) (fun hS => ?_)
     clear hK K
     try simp only [Act.put, putA, putZ, putS]
     refine wpAnyZ_next (rs := [6]) (by kernel_rfl) (by simp) ?_
     refine NextZ.cons (o := ⟨some 50, _, _, _, _, _⟩) rfl (fun K hK => ?_) NextZ.nil
     refine step_append_src X6 (by rfl) (.tmp 47) (.tmp 49) 23 (by rfl) w5.heap.size 43 i0 (.agg #[.int .i64 0, .int .i64 0]) 2 16 Try.underlying23 hi0 hz0 hz1 hz2 rfl (by decide) (.slice qa6 t.nb qc6) (t.nb) (flatR t.b t.nb) (by rfl) (HR6.out.own 0 _ rfl) (some ⟨J23, 0, none⟩) 1 1 [.int .i64 b0, .int .i64 b1] (by rfl) (own_src (HR6.out.own 1 _ rfl)) (by simp [Value.oneCell']) (by unfold maxLen; omega) (by omega) HA6.out.fr.size ?_
     intro v7 X7 hown hgr hl
     obtain ⟨qa7, qc7, rfl⟩ := own_slice' hown
     have HA7 := Lib.hid (BF.grow HA6.out HR6.out (i := 0) rfl (List.forall_mem_cons.2 ⟨(show 25 ≠ 43 by decide), List.forall_mem_nil _⟩) (Nat.le_refl _) hgr)
     have HR7 : Hid (Rws w5.heap.size X7 [⟨43, 2, .slice qa7 (t.nb + 1) qc7, t.nb + 1, flatR t.b t.nb ++ [.int .i64 b0, .int .i64 b1]⟩, ⟨43, 2, .slice (some ⟨J23, 0, none⟩) 1 1, 1, [.int .i64 b0, .int .i64 b1]⟩]) := HR6.out.app2 (i := 0) rfl hown hgr hl
     clear hown hgr hl
     refine hK.out _ _ (HC11.out X7 HA7.out.fr) (fun hS => ?_)
     clear hK K
     try simp only [Act.put, putA, putZ, putS]
     refine tZ 7 (oi := ⟨_, _, _, _, _, _⟩) (v := ?_) rfl (by kernel_rfl) (by rfl) (fun _ _ _ h => h) hS ?_ ?_
     rotate_left
     · rintro W' ⟨z0, z1, z2⟩; go_simp; try with_reducible rfl
     try simp only [Act.put, putA, putZ, putS]
     refine wpAnyZ_next (rs := [8]) (by kernel_rfl) (by simp) ?_
     refine NextZ.last (o := ⟨none, _, _, _, _, _⟩) rfl (by kernel_rfl) (fun K hK => ?_)
     have e0 := HA7.out.cell (.head _) 1
     have f0 := HA7.out.thaw (.head _) 1
     have HA8 := Lib.hid (BF.set1 (i := 1) (cs' := #[.slice uca t.nc ucc, .slice qa7 (t.nb + 1) qc7, .slice ura t.nr urc, .slice una t.nn unc]) HA7.out (.head _) (.slice qa7 (t.nb + 1) qc7) (by simp) rfl (L' := []) (List.forall_mem_nil _))
     have HR8 : Hid (Rws w5.heap.size (X7.setCell ⟨w5.heap.size, 1, none⟩ (.slice qa7 (t.nb + 1) qc7)) [⟨43, 2, .slice qa7 (t.nb + 1) qc7, t.nb + 1, flatR t.b t.nb ++ [.int .i64 b0, .int .i64 b1]⟩, ⟨43, 2, .slice (some ⟨J23, 0, none⟩) 1 1, 1, [.int .i64 b0, .int .i64 b1]⟩]) := HR7.out.tab (HA7.out.bk _ _ _ (.head _)).2 (List.forall_mem_cons.2 ⟨(show 25 ≠ 43 by decide), List.forall_mem_cons.2 ⟨(show 25 ≠ 43 by decide), List.forall_mem_nil _⟩⟩) (Fr.set _ _ _ _)
     go_simp
     refine hK.out _ _ ?_
     clear hK K
     (try simp only [Act.put])
     refine wpAnyZ_done (by kernel_rfl) ?_ _
     go_wp2_with fail
     go_meet
     exact ⟨_, _, _, _, HA8.out, HR8.out⟩
    refine NextZ.cons (o := ⟨some 49, _, _, _, _, _⟩) rfl (fun K hK => ?_) NextZ.nil
    go_simp
    have HA9 := Lib.hid (HAX.out.below (below_alloc X (.cells #[.int .i64 b0, .int .i64 b1] 43)))
    have HR9 : Hid (Rws w5.heap.size (X.alloc (.cells #[.int .i64 b0, .int .i64 b1] 43)) [⟨43, 2, .slice none 0 0, 0, []⟩, ⟨43, 2, .slice (some ⟨X.heap.size, 0, none⟩) 1 1, 1, [.int .i64 b0, .int .i64 b1]⟩]) := HRX.out.new (i := 1) (sz := 2) (n := 1) rfl HAX.out.fr.size rfl (by unfold maxLen; omega)
    refine hK.out _ _ (HC11.out (X.alloc (.cells #[.int .i64 b0, .int .i64 b1] 43)) HA9.out.fr) (fun hS => ?_)
    clear hK K
    try simp only [Act.put, putA, putZ, putS]
    generalize X.heap.size = J23 at *
    generalize (X.alloc (.cells #[.int .i64 b0, .int .i64 b1] 43)) = X9 at *
    refine wpAnyZ_next (rs := [0]) (by kernel_rfl) (by simp) ?_
    refine NextZ.cons (o := ⟨some 44, _, _, _, _, _⟩) rfl (fun K hK => ?_) NextZ.nil
    go_simp
    have HA10 := Lib.hid (HA9.out.below (below_alloc X9 (.cells #[] 43)))
    have HR10 : Hid (Rws w5.heap.size (X9.alloc (.cells #[] 43)) [⟨43, 2, .slice (some ⟨X9.heap.size, 0, none⟩) 0 0, 0, []⟩, ⟨43, 2, .slice (some ⟨J23, 0, none⟩) 1 1, 1, [.int .i64 b0, .int .i64 b1]⟩]) := HR9.out.made HA9.out.fr.size 0 43 2
    refine hK.out _ _ (HC11.out (X9.alloc (.cells #[] 43)) HA10.out.fr) (fun hS => ?_)
    clear hK K
    try simp only [Act.put, putA, putZ, putS]
    generalize X9.heap.size = J22 at *
    generalize (X9.alloc (.cells #[] 43)) = X10 at *
    refine wpAnyZ_next (rs := [3]) (by kernel_rfl) (by simp) ?_
    refine NextZ.cons (o := ⟨some 47, _, _, _, _, _⟩) rfl (fun K hK => ?_) NextZ.nil
    refine step_append_src X10 (by rfl) (.tmp 44) (.tmp 46) 23 (by rfl) w5.heap.size 43 i0 (.agg #[.int .i64 0, .int .i64 0]) 2 16 Try.underlying23 hi0 hz0 hz1 hz2 rfl (by decide) (.slice (some ⟨J22, 0, none⟩) 0 0) (0) ([]) (by rfl) (HR10.out.own 0 _ rfl) uba t.nb ubc (flatR t.b t.nb) (by rfl) ((HT0.out.l.2.1.below (HAU.out.below HA10.out.fr).fr).src) (flatR_one _ _) (by unfold maxLen; omega) (by omega) HA10.out.fr.size ?_
    intro v11 X11 hown hgr hl
    rw [Nat.zero_add, List.nil_append] at hown
    obtain ⟨qa11, qc11, rfl⟩ := own_slice' hown
    have HA11 := Lib.hid (BF.grow HA10.out HR10.out (i := 0) rfl (List.forall_mem_cons.2 ⟨(show 25 ≠ 43 by decide), List.forall_mem_nil _⟩) (Nat.le_refl _) hgr)
    have HR11 : Hid (Rws w5.heap.size X11 [⟨43, 2, .slice qa11 t.nb qc11, t.nb, flatR t.b t.nb⟩, ⟨43, 2, .slice (some ⟨J23, 0, none⟩) 1 1, 1, [.int .i64 b0, .int .i64 b1]⟩]) := HR10.out.app2 (i := 0) rfl hown hgr hl
    clear hown hgr hl
    refine hK.out _ _ (HC11.out X11 HA11.out.fr) (fun hS => ?_)
    clear hK K
    try simp only [Act.put, putA, putZ, putS]
    refine wpAnyZ_next (rs := [6]) (by kernel_rfl) (by simp) ?_
    refine NextZ.cons (o := ⟨some 50, _, _, _, _, _⟩) rfl (fun K hK => ?_) NextZ.nil
    refine step_append_src X11 (by rfl) (.tmp 47) (.tmp 49) 23 (by rfl) w5.heap.size 43 i0 (.agg #[.int .i64 0, .int .i64 0]) 2 16 Try.underlying23 hi0 hz0 hz1 hz2 rfl (by decide) (.slice qa11 t.nb qc11) (t.nb) (flatR t.b t.nb) (by rfl) (HR11.out.own 0 _ rfl) (some ⟨J23, 0, none⟩) 1 1 [.int .i64 b0, .int .i64 b1] (by rfl) (own_src (HR11.out.own 1 _ rfl)) (by simp [Value.oneCell']) (by unfold maxLen; omega) (by omega) HA11.out.fr.size ?_
    intro v12 X12 hown hgr hl
    obtain ⟨qa12, qc12, rfl⟩ := own_slice' hown
    have HA12 := Lib.hid (BF.grow HA11.out HR11.out (i := 0) rfl (List.forall_mem_cons.2 ⟨(show 25 ≠ 43 by decide), List.forall_mem_nil _⟩) (Nat.le_refl _) hgr)
    have HR12 : Hid (Rws w5.heap.size X12 [⟨43, 2, .slice qa12 (t.nb + 1) qc12, t.nb + 1, flatR t.b t.nb ++ [.int .i64 b0, .int .i64 b1]⟩, ⟨43, 2, .slice (some ⟨J23, 0, none⟩) 1 1, 1, [.int .i64 b0, .int .i64 b1]⟩]) := HR11.out.app2 (i := 0) rfl hown hgr hl
    clear hown hgr hl
    refine hK.out _ _ (HC11.out X12 HA12.out.fr) (fun hS => ?_)
    clear hK K
    try simp only [Act.put, putA, putZ, putS]
    refine tZ 7 (oi := ⟨_, _, _, _, _, _⟩) (v := ?_) rfl (by kernel_rfl) (by rfl) (fun _ _ _ h => h) hS ?_ ?_
    rotate_left
    · rintro W' ⟨z0, z1, z2⟩; go_simp; try with_reducible rfl
    try simp only [Act.put, putA, putZ, putS]
    refine wpAnyZ_next (rs := [8]) (by kernel_rfl) (by simp) ?_
    refine NextZ.last (o := ⟨none, _, _, _, _, _⟩) rfl (by kernel_rfl) (fun K hK => ?_)
    have e0 := HA12.out.cell (.head _) 1
    have f0 := HA12.out.thaw (.head _) 1
    have HA13 := Lib.hid (BF.set1 (i := 1) (cs' := #[.slice uca t.nc ucc, .slice qa12 (t.nb + 1) qc12, .slice ura t.nr urc, .slice una t.nn unc]) HA12.out (.head _) (.slice qa12 (t.nb + 1) qc12) (by simp) rfl (L' := []) (List.forall_mem_nil _))
    have HR13 : Hid (Rws w5.heap.size (X12.setCell ⟨w5.heap.size, 1, none⟩ (.slice qa12 (t.nb + 1) qc12)) [⟨43, 2, .slice qa12 (t.nb + 1) qc12, t.nb + 1, flatR t.b t.nb ++ [.int .i64 b0, .int .i64 b1]⟩, ⟨43, 2, .slice (some ⟨J23, 0, none⟩) 1 1, 1, [.int .i64 b0, .int .i64 b1]⟩]) := HR12.out.tab (HA12.out.bk _ _ _ (.head _)).2 (List.forall_mem_cons.2 ⟨(show 25 ≠ 43 by decide), List.forall_mem_cons.2 ⟨(show 25 ≠ 43 by decide), List.forall_mem_nil _⟩⟩) (Fr.set _ _ _ _)
    go_simp
    refine hK.out _ _ ?_
    clear hK K
    (try simp only [Act.put])
    refine wpAnyZ_done (by kernel_rfl) ?_ _
    go_wp2_with fail
    go_meet
    exact ⟨_, _, _, _, HA13.out, HR13.out⟩
  rename World => w7
  obtain ⟨ba, bc, J2, Jc2, hbf, hrw⟩ := hcut
  have HX7 := Lib.hid hbf
  have HWL := Lib.hid (next_wli (b0 := b0) (b1 := b1) (HT0.out.l.below HA5.out.fr) hbf.fr (hrw.own 0 _ rfl))
  have HA7 := Lib.hid (HA5.out.below hbf.fr); have HPT7 := Lib.hid (HPT5.out.below hbf.fr)
  have hwq : w.heap.size ≤ w5.heap.size := HA5.out.fr.size
  clear hbf hrw HX6 HR6 HC11 HA5 HAU HPT5
  simp only at HWL
  go_wp2_with fail
  by_cases hf2 : f2 = 0
  case neg =>
    have hq1 : (f2 == 0) = false := by simpa using hf2
    have hq2 : (f2 != 0) = true := by simpa using hf2
    have hpe : pe = f2 ∧ pn = 0 := by
      rcases HPT7.out with ⟨_, h1, h2⟩ | ⟨h1, _⟩ | ⟨h1, _⟩
      · exact ⟨h1.trans HF2.out, h2⟩
      · exact absurd (HF2.out.symm.trans h1) hf2
      · exact absurd (HF2.out.symm.trans h1) hf2
    obtain ⟨rfl, rfl⟩ := hpe
    clear HPT7 HF2 HF3 HWL HX7
    go_loopw [7, 8, 10] (fun s7 s8 s10 wr => s7 = .int .i64 pe ∧ s8 = .slice none 0 0 ∧ s10 = .int .i64 0 ∧ BF w wr [(w.heap.size, #[.slice uca t.nc ucc, .slice uba t.nb ubc, .slice ura t.nr urc, .slice una t.nn unc], 25), (w.heap.size + 1, #[.int .i64 b0, .int .i64 b1], 43)]) (fun _ _ _ _ => 0)
    case atStart => exact ⟨rfl, rfl, rfl, HA7.out⟩
    case round =>
      obtain ⟨rfl, rfl, rfl, hbf⟩ := hrel
      rename World => wx
      clear HA7
      have HA8 := Lib.hid hbf
      clear hbf
      have k0 := HA8.out.cell (.head _) 0
      have k1 := HA8.out.cell (.head _) 1
      have k2 := HA8.out.cell (.head _) 2
      have k3 := HA8.out.cell (.head _) 3
      have j0 := HA8.out.cell (.tail _ (.head _)) 0
      have j1 := HA8.out.cell (.tail _ (.head _)) 1
      by_cases hng : 0 < t.ng
      · have gj : (0 : Int) < (t.ng : Int) := by omega
        go_wp2_with (first | (go_at_call 23; refine (HGR.out _ HA8.out.fr).mono ?_; rintro _ w8 ⟨rfl, hb8⟩; have HA9 := Lib.hid (HA8.out.below hb8); clear hb8) | (go_at_call 18; refine (HAW.out _).mono ?_; rintro _ w9 ⟨rfl, hb9⟩; have HB9 := Lib.hid (HA9.out.below hb9).fr; clear hb9))
        go_ret
        exact ⟨rfl, HB9.out⟩
      · have hng0 : t.ng ≤ 0 := by omega
        have gj : ¬ (0 : Int) < (t.ng : Int) := by omega
        clear hng
        go_wp2_with (first | (go_at_call 23; refine (HGR.out _ HA8.out.fr).mono ?_; rintro _ w8 ⟨rfl, hb8⟩; have HA9 := Lib.hid (HA8.out.below hb8); clear hb8) | (go_at_call 18; refine (HAW.out _).mono ?_; rintro _ w9 ⟨rfl, hb9⟩; have HB9 := Lib.hid (HA9.out.below hb9).fr; clear hb9))
        go_ret
        exact ⟨rfl, HB9.out⟩
  subst hf2
  have hft : t.fault = 0 ∧ insideR (b0, b1) 0 500 = true := by
    have h := HF2.out
    by_cases e : f1 = 0
    · exact ⟨(HF3.out.1 e).1, (HF3.out.1 e).2.1⟩
    · exact absurd (HF3.out.2 e).symm e
  obtain ⟨hft, hin⟩ := hft
  have hok := Okt.of_fault hft
  have hbb : 0 ≤ b0 ∧ b0 ≤ b1 ∧ b1 ≤ 500 := by
    unfold insideR at hin
    simp only [Bool.and_eq_true, decide_eq_true_eq] at hin
    exact ⟨hin.1.1, hin.1.2, hin.2⟩
  have hnok := next_ok (b := (b0, b1)) hok hbb
  have ng2 := hok.ng2; have ng4 := hok.ng4
  have hnb : t.nc ≤ t.nb + 1 := by have := hok.nb; omega
  have HFR : Hid (∀ X g, Below w7.heap.size w7 X → g < t.ng → Calls Try.prog 28 #[.agg #[.slice uca t.nc ucc, .slice ba (t.nb + 1) bc, .slice ura t.nr urc, .slice una t.nn unc], .int .i64 (t.nc : Nat), .int .i64 (g : Nat), .agg (outL off0).toArray] X fun e w' => ∃ q, e = .returned (.agg (stA q)) ∧ IvS q (prR t (b0, b1) g) ∧ Below X.heap.size X w') := fun X g hX hg => by
    have h2 := free_next hnok (next_small HSS.out hok) hnb _ g X (HWL.out.below hX) hg
    rw [next_before] at h2
    exact h2
  have HIB : Hid (∀ g, g < t.ng → emptyR (prR t (b0, b1) g) = true ∨ InB (prR t (b0, b1) g)) := fun g hg => by
    have h2 := next_hi hnok hnb (g := g) hg
    rw [next_before] at h2
    exact h2
  obtain ⟨R, HRR⟩ : ∃ R, Hid (prR t (b0, b1) = R) := ⟨_, rfl⟩
  have HPR : Hid ((pe = 9 ∧ pn = 0 ∧ ∃ g, g < t.ng ∧ emptyR (R g) = true) ∨ (pe = 0 ∧ pn = t.ng ∧ (∀ g, g < t.ng → emptyR (R g) = false) ∧ RsAt w7 (.slice pa pn pc) t.ng R)) := by
    rw [Hid, ← HRR.out]
    rcases HPT7.out with ⟨h1, _⟩ | ⟨_, h⟩ | ⟨_, h⟩
    · exact absurd HF2.out h1
    · exact .inl h
    · exact .inr h
  rw [HRR.out] at HFR HIB
  clear hft hin hok hbb hnok hnb HRR HPT7 HF2 HF3 HWL HSS HT0
  go_loopw [7, 8, 10] (fun s7 s8 s10 wr => ∃ g : Nat, g ≤ t.ng ∧ s10 = .int .i64 g ∧ ((s7 = .int .i64 0 ∧ (∀ j, j < g → emptyR (R j) = false) ∧ wr.ownsRow w7.heap.size 43 2 s8 g (flatR R g)) ∨ (s7 = .int .i64 9 ∧ ∃ j, j < t.ng ∧ emptyR (R j) = true)) ∧ Below w7.heap.size w7 wr) (fun _ _ i _ => t.ng - (intOf i).toNat)
  case atStart => exact ⟨0, Nat.zero_le _, rfl, .inl ⟨rfl, fun j h => absurd h (Nat.not_lt_zero _), World.ownsRow_nil _ _ _ _⟩, Below.refl _ _⟩
  case round =>
    obtain ⟨g, hg, rfl, hst, hbx⟩ := hrel
    rename World => wx
    have HBX := Lib.hid hbx
    have HA8 := Lib.hid (HA7.out.below hbx); have HX8 := Lib.hid (HX7.out.below hbx)
    clear hbx
    have gi : (0 : Int) ≤ (g : Int) := by omega
    rcases hst with ⟨rfl, hall, how⟩ | ⟨rfl, hex⟩
    · have HALL := Lib.hid hall; have HOW := Lib.hid how
      obtain ⟨da, dc, rfl⟩ := own_slice' how
      clear hall how
      have k0 := HA8.out.cell (.head _) 0
      have k1 := HA8.out.cell (.head _) 1
      have k2 := HA8.out.cell (.head _) 2
      have k3 := HA8.out.cell (.head _) 3
      have j0 := HA8.out.cell (.tail _ (.head _)) 0
      have j1 := HA8.out.cell (.tail _ (.head _)) 1
      by_cases hlt : g < t.ng
      · as_aux_lemma =>
        have gj : (g : Int) < (t.ng : Int) := by omega
        go_wp2_with (go_at_call 23; refine (HGR.out _ HA8.out.fr).mono ?_; rintro _ w8 ⟨rfl, hb8⟩; have HA9 := Lib.hid (HA8.out.below hb8); have HX9 := Lib.hid (HX8.out.below hb8); have HB9 := Lib.hid (below_step HBX.out hb8); have HO9 := Lib.hid (own_below HOW.out hb8); clear hb8 k0 k1 k2 k3 j0 j1 HA8 HX8 HBX HOW; have k0 := HX9.out.cell (.head _) 0; have k1 := HX9.out.cell (.head _) 1; have k2 := HX9.out.cell (.head _) 2; have k3 := HX9.out.cell (.head _) 3; have j0 := HA9.out.cell (.head _) 0)
        refine (HFR.out _ g HB9.out hlt).mono ?_
        rintro _ w10 ⟨q, rfl, hq, hb10⟩
        have HQ := Lib.hid hq
        go_wp2_with fail
        refine (ends_any q _).mono ?_
        rintro _ w11 ⟨lo, hi, rfl, hep, hb11⟩
        have hEN := ends_ne hep HQ.out (HIB.out g hlt)
        have HEE := Lib.hid (fun hr => ends_eq hep HQ.out hr)
        have hb := below_step hb10 hb11
        have HB11 := Lib.hid (below_step HB9.out hb)
        have HO11 := Lib.hid (own_below HO9.out hb)
        clear hq HQ hep hb10 hb11 hb k0 k1 k2 k3 j0 HA9 HX9 HB9 HO9
        cases he : emptyR (R g)
        · have hhp : 0 ≤ hi := by rw [he] at hEN; exact of_decide_eq_true hEN
          obtain ⟨e1, e2⟩ := HEE.out (by
            rcases HIB.out g hlt with h | h
            · rw [he] at h; cases h
            · exact h)
          have HFS : Hid (flatR R (g + 1) = flatR R g ++ [.int .i64 lo, .int .i64 hi]) := by rw [Hid, flatR_succ, e1, e2]
          have HE := Lib.hid he
          clear he hEN e1 e2 HEE
          go_upto_region 18 with (fail)
          have HA12 : Hid (BF w11 (w11.alloc (.cells #[.int .i64 lo, .int .i64 hi] 43)) [(w11.heap.size, #[.int .i64 lo, .int .i64 hi], 43)]) := (BF.base w11).alloc _ _
          have HB12 : Hid (Below w7.heap.size w7 (w11.alloc (.cells #[.int .i64 lo, .int .i64 hi] 43))) := below_step HB11.out (below_alloc _ _)
          have HO12 := Lib.hid (own_below HO11.out (below_alloc w11 (.cells #[.int .i64 lo, .int .i64 hi] 43)))
          have k0 := HA12.out.cell (.head _) 0
          have k1 := HA12.out.cell (.head _) 1
          clear HB11 HO11
          generalize (w11.alloc (.cells #[.int .i64 lo, .int .i64 hi] 43)) = w12 at *
          have HO14 := Lib.hid (own_below HO12.out (below_alloc w12 (.cells #[.int .i64 lo, .int .i64 hi] 43)))
          go_wp2_with (at_builtin; refine wpList_append_src _ rfl (.tmp 75) (.tmp 77) 23 rfl w7.heap.size 43 i0 (.agg #[.int .i64 0, .int .i64 0]) 2 16 Try.underlying23 hi0 hz0 hz1 hz2 rfl (by decide) (.slice da g dc) g (flatR R g) rfl HO14.out (some ⟨w12.heap.size, 0, none⟩) 1 1 [.int .i64 lo, .int .i64 hi] rfl ⟨rfl, fun j u hu => ⟨_, rfl, World.news_of_block (heap_alloc_new w12 _) j u hu⟩⟩ (by simp [Value.oneCell']) ?a1 ?a2 ?a3 ?_)
          case a1 => unfold maxLen; omega
          case a2 => omega
          case a3 => have := HB12.out.size; simp; omega
          intro v1 w13 hown hgr hlt1
          obtain ⟨ea, ec, rfl⟩ := own_slice' hown
          have HB13 : Hid (Below w7.heap.size w7 w13) := (below_step HB12.out (below_alloc w12 (.cells #[.int .i64 lo, .int .i64 hi] 43))).trans ((Fr.grown hgr).low (by have := HB12.out.size; simp; omega) (fun q hq e => by have := own_low HO14.out e; omega))
          have HO13 := Lib.hid hown
          clear hown hgr hlt1 HO12 HO14 HB12 HA12 k0 k1
          go_wp2_with fail
          go_roundw
          case rel => exact ⟨g + 1, by omega, by go_num, .inl ⟨rfl, fun j hj => by
            rcases Nat.lt_succ_iff_lt_or_eq.1 hj with h | rfl
            · exact HALL.out j h
            · exact HE.out, by rw [HFS.out]; exact HO13.out⟩, HB13.out⟩
          case measure => simp [intOf]; omega
        · have hib : decide (0 ≤ hi) = false := by rw [he] at hEN; exact hEN
          have hhp : hi < 0 := by have h := of_decide_eq_false hib; omega
          have HE := Lib.hid he
          clear he hEN HEE
          go_upto_region 18 with (fail)
          have HA12 : Hid (BF w11 (w11.alloc (.cells #[.int .i64 lo, .int .i64 hi] 43)) [(w11.heap.size, #[.int .i64 lo, .int .i64 hi], 43)]) := (BF.base w11).alloc _ _
          have HB12 : Hid (Below w7.heap.size w7 (w11.alloc (.cells #[.int .i64 lo, .int .i64 hi] 43))) := below_step HB11.out (below_alloc _ _)
          have HO12 := Lib.hid (own_below HO11.out (below_alloc w11 (.cells #[.int .i64 lo, .int .i64 hi] 43)))
          have k0 := HA12.out.cell (.head _) 0
          have k1 := HA12.out.cell (.head _) 1
          clear HB11 HO11
          generalize (w11.alloc (.cells #[.int .i64 lo, .int .i64 hi] 43)) = w12 at *
          have HO14 := Lib.hid (own_below HO12.out (below_alloc w12 (.cells #[.int .i64 lo, .int .i64 hi] 43)))
          go_wp2_with (at_builtin; refine wpList_append_src _ rfl (.tmp 75) (.tmp 77) 23 rfl w7.heap.size 43 i0 (.agg #[.int .i64 0, .int .i64 0]) 2 16 Try.underlying23 hi0 hz0 hz1 hz2 rfl (by decide) (.slice da g dc) g (flatR R g) rfl HO14.out (some ⟨w12.heap.size, 0, none⟩) 1 1 [.int .i64 lo, .int .i64 hi] rfl ⟨rfl, fun j u hu => ⟨_, rfl, World.news_of_block (heap_alloc_new w12 _) j u hu⟩⟩ (by simp [Value.oneCell']) ?a1 ?a2 ?a3 ?_)
          case a1 => unfold maxLen; omega
          case a2 => omega
          case a3 => have := HB12.out.size; simp; omega
          intro v1 w13 hown hgr hlt1
          obtain ⟨ea, ec, rfl⟩ := own_slice' hown
          have HB13 : Hid (Below w7.heap.size w7 w13) := (below_step HB12.out (below_alloc w12 (.cells #[.int .i64 lo, .int .i64 hi] 43))).trans ((Fr.grown hgr).low (by have := HB12.out.size; simp; omega) (fun q hq e => by have := own_low HO14.out e; omega))
          have HO13 := Lib.hid hown
          clear hown hgr hlt1 HO12 HO14 HB12 HA12 k0 k1
          go_wp2_with fail
          go_roundw
          case rel => exact ⟨g + 1, by omega, by go_num, .inr ⟨rfl, g, hlt, HE.out⟩, HB13.out⟩
          case measure => simp [intOf]; omega
      · obtain rfl : g = t.ng := by omega
        rcases HPR.out with ⟨_, _, j, hj, he⟩ | ⟨rfl, rfl, _, hrs⟩
        · rw [HALL.out j hj] at he; cases he
        have HRS := Lib.hid (hrs.below HBX.out); have HDR := Lib.hid (RsAt.ownT HOW.out)
        clear hrs HPR HALL HOW HFR HIB HX7 HX8 HBX
        have gj : ¬ (t.ng : Int) < (t.ng : Int) := by omega
        go_wp2_with (go_at_call 23; refine (HGR.out _ HA8.out.fr).mono ?_; rintro _ w8 ⟨rfl, hb8⟩; have HA9 := Lib.hid (HA8.out.below hb8); have HB9 := Lib.hid hb8; clear hb8)
        clear k0 k1 k2 k3 j0 j1 HA8 gj
        go_loopw [13] (fun i wr => ∃ k : Nat, k ≤ t.ng ∧ i = .int .i64 k ∧ Below wx.heap.size wx wr ∧ BF w wr [(w.heap.size, #[.slice uca t.nc ucc, .slice uba t.nb ubc, .slice ura t.nr urc, .slice una t.nn unc], 25), (w.heap.size + 1, #[.int .i64 b0, .int .i64 b1], 43)]) (fun i _ => t.ng - (intOf i).toNat)
        case atStart => exact ⟨0, Nat.zero_le _, rfl, HB9.out, HA9.out⟩
        case round =>
          obtain ⟨k, hk, rfl, hbx, hbf⟩ := hrel
          rename World => wv
          have HBX := Lib.hid hbx; have HA10 := Lib.hid hbf
          clear hbx hbf HA9 HB9
          have ki : (0 : Int) ≤ (k : Int) := by omega
          by_cases hlk : k < t.ng
          · as_aux_lemma =>
            have kj : (k : Int) < (t.ng : Int) := by omega
            obtain ⟨pb, po, rfl, hpb, x1, x2⟩ := HRS.out.at (k := k) hlk
            obtain ⟨db, do_, rfl, hdb, x3, x4⟩ := HDR.out.at (k := k) hlk
            obtain ⟨B1, B2, hB⟩ : ∃ B1 B2, R k = (B1, B2) := ⟨_, _, rfl⟩
            rw [hB] at x1 x2 x3 x4
            have HC26 : Hid (∀ X, Below wx.heap.size wx X → (X.cell? ⟨pb, po + k * 2, none⟩ = some (.int .i64 B1) ∧ X.cell? ⟨pb, po + k * 2 + 1, none⟩ = some (.int .i64 B2) ∧ X.cell? ⟨db, do_ + k * 2, none⟩ = some (.int .i64 B1) ∧ X.cell? ⟨db, do_ + k * 2 + 1, none⟩ = some (.int .i64 B2))) := fun X hX => ⟨kept hX hpb x1, kept hX hpb x2, kept hX hdb x3, kept hX hdb x4⟩
            clear x1 x2 x3 x4 hpb hdb hB
            go_wp2_with fail
            go_cut [116] (fun s116 wy => s116 = .bool false ∧ Below wv.heap.size wv wy)
            case first => as_aux_lemma =>
              have HAX : Hid (Below wv.heap.size wv wv.drew) := (Below.refl _ _).drew
              refine wp_region_held_drew (S := fun X => X.cell? ⟨pb, po + k * 2, none⟩ = some (.int .i64 B1) ∧ X.cell? ⟨pb, po + k * 2 + 1, none⟩ = some (.int .i64 B2) ∧ X.cell? ⟨db, do_ + k * 2, none⟩ = some (.int .i64 B1) ∧ X.cell? ⟨db, do_ + k * 2 + 1, none⟩ = some (.int .i64 B2)) (by kernel_rfl) (HC26.out _ (below_step HBX.out HAX.out)) (fun hS => ?_)
              generalize wv.drew = X at *
              refine tk [0, 1, 2, 3, 4, 5, 6, 7] ?_
              repeat (refine tkH (oi := ⟨_, _, _, _, _, _⟩) (v := ?_) rfl (by kernel_rfl) (by rfl) (fun _ _ _ h => h) hS ?_ ?_; rotate_left; (· rintro W' ⟨z0, z1, z2, z3⟩; go_simp; try with_reducible rfl); try simp only [Act.put, putA, putZ, putS])
              refine tk0 ?_
              refine wpAnyH_ready (rs := [8]) (by kernel_rfl) (by simp) ?_
              refine AllReadyH.cons (o := ⟨some 115, _, _, _, _, _⟩) rfl (fun K hK => ?_) AllReadyH.nil
              go_simp
              refine (to_any B1 B2 _).mono ?_
              rintro _ X0 ⟨rfl, hb0⟩
              (try go_wp2_with fail)
              have HA0 := Lib.hid (below_step HAX.out hb0)
              refine hK.out _ _ (HC26.out X0 (below_step HBX.out HA0.out)) (fun hS => ?_)
              clear hK K
              try simp only [Act.put, putA, putZ, putS]
              clear hb0
              refine tH 9 (oi := ⟨_, _, _, _, _, _⟩) (v := .bool false) rfl (by kernel_rfl) (by rfl) (fun _ _ _ h => h) hS ?_ ?_
              · rintro W' ⟨z0, z1, z2, z3⟩; have hq := neq_range_ok B1 B2 W'; go_simp
              try simp only [Act.put, putA, putZ, putS]
              refine wpAnyH_done (by kernel_rfl) ?_ _
              go_wp2_with fail
              go_meet
              exact ⟨by trivial, HA0.out⟩
            rename World => wb
            obtain ⟨rfl, hbb⟩ := hcut
            have HBB2 := Lib.hid (below_step HBX.out hbb); have HA11 := Lib.hid (HA10.out.below hbb)
            clear hbb
            go_wp2_with fail
            go_roundw
            case rel => exact ⟨k + 1, by omega, by go_num, HBB2.out, HA11.out⟩
            case measure => simp [intOf]; omega
          · obtain rfl : k = t.ng := by omega
            have kj : ¬ (t.ng : Int) < (t.ng : Int) := by omega
            go_wp2_with (go_at_call 18; refine (HAW.out _).mono ?_; rintro _ w12 ⟨rfl, hb12⟩; have HB12 := Lib.hid (HA10.out.below hb12).fr; clear hb12)
            go_ret
            exact ⟨rfl, HB12.out⟩
    · obtain ⟨j, hj, he⟩ := hex
      rcases HPR.out with ⟨rfl, rfl, _⟩ | ⟨_, _, hne, _⟩
      case inr => rw [hne j hj] at he; cases he
      clear hj he HPR HFR HIB HX7 HX8 HBX
      have k0 := HA8.out.cell (.head _) 0
      have k1 := HA8.out.cell (.head _) 1
      have k2 := HA8.out.cell (.head _) 2
      have k3 := HA8.out.cell (.head _) 3
      have j0 := HA8.out.cell (.tail _ (.head _)) 0
      have j1 := HA8.out.cell (.tail _ (.head _)) 1
      by_cases hlt : g < t.ng
      · have gj : (g : Int) < (t.ng : Int) := by omega
        go_wp2_with (first | (go_at_call 23; refine (HGR.out _ HA8.out.fr).mono ?_; rintro _ w8 ⟨rfl, hb8⟩; have HA9 := Lib.hid (HA8.out.below hb8); clear hb8) | (go_at_call 18; refine (HAW.out _).mono ?_; rintro _ w9 ⟨rfl, hb9⟩; have HB9 := Lib.hid (HA9.out.below hb9).fr; clear hb9))
        go_ret
        exact ⟨rfl, HB9.out⟩
      · have gj : ¬ (g : Int) < (t.ng : Int) := by omega
        go_wp2_with (first | (go_at_call 23; refine (HGR.out _ HA8.out.fr).mono ?_; rintro _ w8 ⟨rfl, hb8⟩; have HA9 := Lib.hid (HA8.out.below hb8); clear hb8) | (go_at_call 18; refine (HAW.out _).mono ?_; rintro _ w9 ⟨rfl, hb9⟩; have HB9 := Lib.hid (HA9.out.below hb9).fr; clear hb9))
        go_ret
        exact ⟨rfl, HB9.out⟩
end Go.Proofs.Ytjaoflfophcibaa
