/- FlowLeaves: the walk. Printed by gen_lc.py. -/
import Derived.Test.YtjaoflfophcibaaLA
import Derived.Test.YtjaoflfophcibaaGO
import Derived.Test.YtjaoflfophcibaaPL
namespace Go.Proofs.Ytjaoflfophcibaa
open Go.RowKit Go.Shelf

/-- What Leave returns. -/
def LvA (t : Tb) (W : World) (lv : Value) (ln : Nat) (le : Int) : Prop :=
  (t.fault ≠ 0 ∧ le = t.fault ∧ ln = 0) ∨ (t.fault = 0 ∧ okL t (natL (List.range (t.nc * t.ng))) = false ∧ le = 9 ∧ ln = 0) ∨
  (t.fault = 0 ∧ okL t (natL (List.range (t.nc * t.ng))) = true ∧ ∃ s, LvM t s ∧ le = 0 ∧ ln = s.length ∧ RsAt W lv s.length (fun j => (cellsOf t.ng (natL s)).getD j (0, 0)))
theorem LvA.below {t : Tb} {W W' : World} {lv : Value} {ln : Nat} {le : Int} (h : LvA t W lv ln le) (hb : Below W.heap.size W W') : LvA t W' lv ln le := by
  rcases h with h | h | ⟨h1, h2, s, h3, h4, h5, h6⟩
  · exact .inl h
  · exact .inr (.inl h)
  · exact .inr (.inr ⟨h1, h2, s, h3, h4, h5, h6.below hb⟩)
theorem leave_walk (v : WV) (t : Tb) (X : World) (hs : t.small) (hl : WL X v t) :
    Calls Try.prog 33 #[.agg #[v.cv t, v.bv t, v.rv t, v.nv t]] X fun e w' => ∃ la ln lc le, e = .returned (.tuple #[.slice la ln lc, .int .i64 le]) ∧ LvA t w' (.slice la ln lc) ln le ∧ Below X.heap.size X w' := by
  by_cases hf : t.fault = 0
  · refine (Leave_ok v t hs X hl hf).mono ?_
    rintro e w' ⟨⟨lv, rfl, hc⟩, hb⟩
    rcases leave_all (Okt.of_fault hf) with ⟨h1, h2⟩ | ⟨h1, s, h2, hm⟩
    · rw [h2] at hc ⊢
      have hc2 : CL w' lv [] := hc
      obtain ⟨a, c, rfl⟩ := hc2.slice
      exact ⟨a, 0, c, 9, rfl, .inr (.inl ⟨hf, h1, rfl, rfl⟩), hb⟩
    · rw [h2] at hc ⊢
      have hc2 : CL w' lv (cellsOf t.ng (natL s)) := hc
      have hlen : (cellsOf t.ng (natL s)).length = s.length := by unfold cellsOf natL; simp
      have h3 := hc2.rs
      obtain ⟨a, c, rfl⟩ := hc2.slice
      rw [hlen] at h3 ⊢
      exact ⟨a, _, c, 0, rfl, .inr (.inr ⟨hf, h1, s, hm, rfl, rfl, h3⟩), hb⟩
  · refine (Leave_bad v t hs X hl hf).mono ?_
    rintro e w' ⟨rfl, hb⟩
    exact ⟨_, _, _, _, rfl, .inl ⟨hf, rfl, rfl⟩, hb⟩
theorem eqR_cells (ng : Nat) (s : List Nat) : eqR s.length s.length (fun j => (cellsOf ng (natL s)).getD j (0, 0)) (cR ng s) = true := by
  unfold eqR
  rw [allB_true]
  · simp
  · intro j hj
    have e : (cellsOf ng (natL s)).getD j (0, 0) = cR ng s j := by
      unfold cR cellsOf natL
      simp only [List.getD_eq_getElem?_getD, List.getElem?_map, List.getElem?_eq_getElem hj]
      rfl
    show ((cellsOf ng (natL s)).getD j (0, 0) == cR ng s j) = true
    rw [e]
    simp
set_option maxRecDepth 100000 in
set_option maxHeartbeats 8000000 in
theorem flowLeaves_walk (u : WV) (t : Tb) (w : World) (h0 : TbLaw w u t) :
    Calls Try.prog 5 #[.agg #[u.cv t, u.bv t, u.rv t, u.nv t]] w fun e w' => e = .returned (.bool true) ∧ Below w.heap.size w w' := by
  have HTH : Hid (∀ X, Below w.heap.size w X → Calls Try.prog 17 #[.agg #[u.cv t, u.bv t, u.rv t, u.nv t]] X fun e w' => e = .returned (.bool t.thin) ∧ Below X.heap.size X w') := fun X hX => thin_big _ t h0.big X (h0.l.below hX)
  have HAW := Lib.hid awake_any
  obtain ⟨uca, ucc, uba, ubc, ura, urc, una, unc⟩ := u
  have HT0 := Lib.hid h0
  clear h0
  simp only [WV.cv, WV.bv, WV.rv, WV.nv] at HTH ⊢
  have HA0 : Hid (BF w (w.alloc (.cells #[.slice uca t.nc ucc, .slice uba t.nb ubc, .slice ura t.nr urc, .slice una t.nn unc] 25)) [(w.heap.size, #[.slice uca t.nc ucc, .slice uba t.nb ubc, .slice ura t.nr urc, .slice una t.nn unc], 25)]) := (BF.base w).alloc _ _
  have HC1 : Hid (∀ X, BF w X [(w.heap.size, #[.slice uca t.nc ucc, .slice uba t.nb ubc, .slice ura t.nr urc, .slice una t.nn unc], 25)] → (X.cell? ⟨w.heap.size, 0, none⟩ = some (.slice uca t.nc ucc) ∧ X.cell? ⟨w.heap.size, 1, none⟩ = some (.slice uba t.nb ubc) ∧ X.cell? ⟨w.heap.size, 2, none⟩ = some (.slice ura t.nr urc) ∧ X.cell? ⟨w.heap.size, 3, none⟩ = some (.slice una t.nn unc))) := fun X h => ⟨h.cell (.head _) 0, h.cell (.head _) 1, h.cell (.head _) 2, h.cell (.head _) 3⟩
  go_enter Try.func5, Try.ntmps5
  go_upto_region 1 with (fail)
  generalize (w.alloc (.cells #[.slice uca t.nc ucc, .slice uba t.nb ubc, .slice ura t.nr urc, .slice una t.nn unc] 25)) = w0 at *
  cases hth : t.thin
  · rw [hth] at HTH
    go_cut [26] (fun s26 wy => s26 = .bool true ∧ BF w wy [(w.heap.size, #[.slice uca t.nc ucc, .slice uba t.nb ubc, .slice ura t.nr urc, .slice una t.nn unc], 25)])
    case first => as_aux_lemma =>
      have HAX := Lib.hid (HA0.out.below (Below.refl _ w0).drew)
      refine wp_region_held_drew (S := fun X => X.cell? ⟨w.heap.size, 0, none⟩ = some (.slice uca t.nc ucc) ∧ X.cell? ⟨w.heap.size, 1, none⟩ = some (.slice uba t.nb ubc) ∧ X.cell? ⟨w.heap.size, 2, none⟩ = some (.slice ura t.nr urc) ∧ X.cell? ⟨w.heap.size, 3, none⟩ = some (.slice una t.nn unc)) (by kernel_rfl) (HC1.out _ HAX.out) (fun hS => ?_)
      generalize w0.drew = X at *
      refine tH 0 (oi := ⟨_, _, _, _, _, _⟩) (v := ?_) rfl (by kernel_rfl) (by rfl) (fun _ _ _ h => h) hS ?_ ?_
      rotate_left
      · rintro W' ⟨z0, z1, z2, z3⟩; go_simp; try with_reducible rfl
      try simp only [Act.put, putA, putZ, putS]
      refine wpAnyH_ready (rs := [1]) (by kernel_rfl) (by simp) ?_
      refine AllReadyH.cons (o := ⟨some 11, _, _, _, _, _⟩) rfl (fun K hK => ?_) AllReadyH.nil
      go_simp
      refine (HTH.out _ HAX.out.fr).mono ?_
      rintro _ X0 ⟨rfl, hb0⟩
      (try go_wp2_with fail)
      have HA0 := Lib.hid (HAX.out.below hb0)
      refine hK.out _ _ (HC1.out X0 HA0.out) (fun hS => ?_)
      clear hK K
      try simp only [Act.put, putA, putZ, putS]
      clear hb0
      refine tk [2, 3] ?_
      repeat (refine tkH (oi := ⟨_, _, _, _, _, _⟩) (v := ?_) rfl (by kernel_rfl) (by rfl) (fun _ _ _ h => h) hS ?_ ?_; rotate_left; (· rintro W' ⟨z0, z1, z2, z3⟩; go_simp; try with_reducible rfl); try simp only [Act.put, putA, putZ, putS])
      refine tk0 ?_
      refine wpAnyH_take (i := 4) (oi := ⟨some 14, _, _, _, _, _⟩) (v := undef) rfl (by kernel_rfl) (by kernel_rfl) (by kernel_rfl) (fun _ _ _ h => h) (Or.inr ⟨by rfl, rfl⟩) hS ?_
      try simp only [Act.put, putA, putZ, putS]
      refine wpAnyH_take (i := 5) (oi := ⟨some 15, _, _, _, _, _⟩) (v := undef) rfl (by kernel_rfl) (by kernel_rfl) (by kernel_rfl) (fun _ _ _ h => h) (Or.inr ⟨by rfl, rfl⟩) hS ?_
      try simp only [Act.put, putA, putZ, putS]
      refine wpAnyH_take (i := 6) (oi := ⟨some 16, _, _, _, _, _⟩) (v := undef) rfl (by kernel_rfl) (by kernel_rfl) (by kernel_rfl) (fun _ _ _ h => h) (Or.inr ⟨by rfl, rfl⟩) hS ?_
      try simp only [Act.put, putA, putZ, putS]
      refine wpAnyH_take (i := 7) (oi := ⟨some 17, _, _, _, _, _⟩) (v := undef) rfl (by kernel_rfl) (by kernel_rfl) (by kernel_rfl) (fun _ _ _ h => h) (Or.inr ⟨by rfl, rfl⟩) hS ?_
      try simp only [Act.put, putA, putZ, putS]
      refine wpAnyH_take (i := 8) (oi := ⟨some 18, _, _, _, _, _⟩) (v := undef) rfl (by kernel_rfl) (by kernel_rfl) (by kernel_rfl) (fun _ _ _ h => h) (Or.inr ⟨by rfl, rfl⟩) hS ?_
      try simp only [Act.put, putA, putZ, putS]
      refine wpAnyH_take (i := 9) (oi := ⟨some 19, _, _, _, _, _⟩) (v := undef) rfl (by kernel_rfl) (by kernel_rfl) (by kernel_rfl) (fun _ _ _ h => h) (Or.inr ⟨by rfl, rfl⟩) hS ?_
      try simp only [Act.put, putA, putZ, putS]
      refine wpAnyH_take (i := 10) (oi := ⟨some 20, _, _, _, _, _⟩) (v := undef) rfl (by kernel_rfl) (by kernel_rfl) (by kernel_rfl) (fun _ _ _ h => h) (Or.inr ⟨by rfl, rfl⟩) hS ?_
      try simp only [Act.put, putA, putZ, putS]
      refine wpAnyH_take (i := 11) (oi := ⟨some 21, _, _, _, _, _⟩) (v := undef) rfl (by kernel_rfl) (by kernel_rfl) (by kernel_rfl) (fun _ _ _ h => h) (Or.inr ⟨by rfl, rfl⟩) hS ?_
      try simp only [Act.put, putA, putZ, putS]
      refine wpAnyH_take (i := 12) (oi := ⟨some 22, _, _, _, _, _⟩) (v := undef) rfl (by kernel_rfl) (by kernel_rfl) (by kernel_rfl) (fun _ _ _ h => h) (Or.inr ⟨by rfl, rfl⟩) hS ?_
      try simp only [Act.put, putA, putZ, putS]
      refine wpAnyH_take (i := 13) (oi := ⟨some 23, _, _, _, _, _⟩) (v := undef) rfl (by kernel_rfl) (by kernel_rfl) (by kernel_rfl) (fun _ _ _ h => h) (Or.inr ⟨by rfl, rfl⟩) hS ?_
      try simp only [Act.put, putA, putZ, putS]
      refine wpAnyH_take (i := 14) (oi := ⟨some 24, _, _, _, _, _⟩) (v := undef) rfl (by kernel_rfl) (by kernel_rfl) (by kernel_rfl) (fun _ _ _ h => h) (Or.inr ⟨by rfl, rfl⟩) hS ?_
      try simp only [Act.put, putA, putZ, putS]
      refine wpAnyH_take (i := 15) (oi := ⟨some 25, _, _, _, _, _⟩) (v := undef) rfl (by kernel_rfl) (by kernel_rfl) (by kernel_rfl) (fun _ _ _ h => h) (Or.inr ⟨by rfl, rfl⟩) hS ?_
      try simp only [Act.put, putA, putZ, putS]
      refine tH 16 (oi := ⟨_, _, _, _, _, _⟩) (v := ?_) rfl (by kernel_rfl) (by rfl) (fun _ _ _ h => h) hS ?_ ?_
      rotate_left
      · rintro W' ⟨z0, z1, z2, z3⟩; go_simp; try with_reducible rfl
      try simp only [Act.put, putA, putZ, putS]
      refine wpAnyH_done (by kernel_rfl) ?_ _
      go_wp2_with fail
      go_meet
      exact ⟨by trivial, HA0.out⟩
    rename World => w1
    obtain ⟨rfl, hbf⟩ := hcut
    have HA1 := Lib.hid hbf
    clear hbf
    go_wp2_with (go_at_call 18; refine (HAW.out _).mono ?_; rintro _ w2 ⟨rfl, hb2⟩; have HB2 := Lib.hid (HA1.out.below hb2).fr; clear hb2)
    go_ret
    exact ⟨rfl, HB2.out⟩
  rw [hth] at HTH
  have hs := Tb.thin_small hth HT0.out.z
  have HSS := Lib.hid hs
  obtain ⟨f, HF⟩ : ∃ f, Hid (t.fault = f) := ⟨_, rfl⟩
  obtain ⟨N, HN⟩ : ∃ N, Hid (t.nc * t.ng = N) := ⟨_, rfl⟩
  have HTB : Hid (∀ X, Below w.heap.size w X → Calls Try.prog 20 #[.agg #[.slice uca t.nc ucc, .slice uba t.nb ubc, .slice ura t.nr urc, .slice una t.nn unc]] X fun e w' => ∃ v' : WV, e = .returned (.agg #[v'.cv t, v'.bv t, v'.rv t, v'.nv t]) ∧ WL w' v' t ∧ Below X.heap.size X w') := fun X hX => table_any ⟨uca, ucc, uba, ubc, ura, urc, una, unc⟩ t HSS.out X (HT0.out.l.below hX)
  have HLV : Hid (∀ (X : World) (v' : WV), WL X v' t → Calls Try.prog 33 #[.agg #[v'.cv t, v'.bv t, v'.rv t, v'.nv t]] X fun e w' => ∃ la ln lc le, e = .returned (.tuple #[.slice la ln lc, .int .i64 le]) ∧ LvA t w' (.slice la ln lc) ln le ∧ Below X.heap.size X w') := fun X v' h => leave_walk v' t X HSS.out h
  have HFT : Hid (∀ X, Below w.heap.size w X → Calls Try.prog 21 #[.agg #[.slice uca t.nc ucc, .slice uba t.nb ubc, .slice ura t.nr urc, .slice una t.nn unc]] X fun e w' => e = .returned (.int .i64 f) ∧ Below X.heap.size X w') := fun X hX => by
    have h2 := lfault_any ⟨uca, ucc, uba, ubc, ura, urc, una, unc⟩ t HSS.out X (HT0.out.l.below hX)
    rw [HF.out] at h2
    exact h2
  have HGR : Hid (∀ X, Below w.heap.size w X → Calls Try.prog 23 #[.agg #[.slice uca t.nc ucc, .slice uba t.nb ubc, .slice ura t.nr urc, .slice una t.nn unc]] X fun e w' => e = .returned (.int .i64 (t.ng : Nat)) ∧ Below X.heap.size X w') := fun X hX => rgroups_any _ t X (HT0.out.l.below hX).tb HSS.out
  clear hs hth
  simp only [WV.cv, WV.bv, WV.rv, WV.nv] at HTB HLV HGR HFT
  obtain ⟨gq, HGQ⟩ : ∃ gq, Hid ((decide (f = 0) && decide (6 < N)) = gq) := ⟨_, rfl⟩
  go_cut [26] (fun s26 wy => s26 = .bool gq ∧ BF w wy [(w.heap.size, #[.slice uca t.nc ucc, .slice uba t.nb ubc, .slice ura t.nr urc, .slice una t.nn unc], 25)])
  case first => as_aux_lemma =>
    have HAX := Lib.hid (HA0.out.below (Below.refl _ w0).drew)
    have h1 := HGQ.out
    by_cases hf0 : f = 0
    · have hok := Okt.of_fault (HF.out.trans hf0)
      have nc4 := hok.nc4; have ng4 := hok.ng4
      have hN16 : N ≤ 16 := by rw [← HN.out]; exact Nat.mul_le_mul nc4 ng4
      have hmul : (t.nc : Int) * (t.ng : Int) = (N : Int) := by rw [← HN.out]; simp
      have HMUL : Hid (IntKind.i64.wrap ((t.nc : Int) * (t.ng : Int)) = (N : Int)) := by rw [Hid, hmul]; exact IntWalk.i64_in _ (by omega)
      have HMU2 : Hid (IntKind.i64.wrap (N : Int) = (N : Int)) := IntWalk.i64_in _ (by omega)
      rw [decide_eq_true hf0, Bool.true_and] at h1
      have HG6 : Hid (decide ((6 : Int) < (N : Int)) = gq) := by
        rw [Hid, ← h1]
        by_cases e : 6 < N
        · rw [decide_eq_true e, decide_eq_true (by omega)]
        · rw [decide_eq_false e, decide_eq_false (by omega)]
      subst hf0
      clear h1 hok nc4 ng4
      refine wp_region_held_drew (S := fun X => X.cell? ⟨w.heap.size, 0, none⟩ = some (.slice uca t.nc ucc) ∧ X.cell? ⟨w.heap.size, 1, none⟩ = some (.slice uba t.nb ubc) ∧ X.cell? ⟨w.heap.size, 2, none⟩ = some (.slice ura t.nr urc) ∧ X.cell? ⟨w.heap.size, 3, none⟩ = some (.slice una t.nn unc)) (by kernel_rfl) (HC1.out _ HAX.out) (fun hS => ?_)
      generalize w0.drew = X at *
      refine tH 0 (oi := ⟨_, _, _, _, _, _⟩) (v := ?_) rfl (by kernel_rfl) (by rfl) (fun _ _ _ h => h) hS ?_ ?_
      rotate_left
      · rintro W' ⟨z0, z1, z2, z3⟩; go_simp; try with_reducible rfl
      try simp only [Act.put, putA, putZ, putS]
      refine wpAnyH_ready (rs := [1]) (by kernel_rfl) (by simp) ?_
      refine AllReadyH.cons (o := ⟨some 11, _, _, _, _, _⟩) rfl (fun K hK => ?_) AllReadyH.nil
      go_simp
      refine (HTH.out _ HAX.out.fr).mono ?_
      rintro _ X0 ⟨rfl, hb0⟩
      (try go_wp2_with fail)
      have HA0 := Lib.hid (HAX.out.below hb0)
      refine hK.out _ _ (HC1.out X0 HA0.out) (fun hS => ?_)
      clear hK K
      try simp only [Act.put, putA, putZ, putS]
      clear hb0
      refine tk [2, 3, 4] ?_
      repeat (refine tkH (oi := ⟨_, _, _, _, _, _⟩) (v := ?_) rfl (by kernel_rfl) (by rfl) (fun _ _ _ h => h) hS ?_ ?_; rotate_left; (· rintro W' ⟨z0, z1, z2, z3⟩; go_simp; try with_reducible rfl); try simp only [Act.put, putA, putZ, putS])
      refine tk0 ?_
      refine wpAnyH_ready (rs := [5]) (by kernel_rfl) (by simp) ?_
      refine AllReadyH.cons (o := ⟨some 15, _, _, _, _, _⟩) rfl (fun K hK => ?_) AllReadyH.nil
      go_simp
      refine (HFT.out _ HA0.out.fr).mono ?_
      rintro _ X1 ⟨rfl, hb1⟩
      (try go_wp2_with fail)
      have HA1 := Lib.hid (HA0.out.below hb1)
      refine hK.out _ _ (HC1.out X1 HA1.out) (fun hS => ?_)
      clear hK K
      try simp only [Act.put, putA, putZ, putS]
      clear hb1
      refine tk [6, 7, 8, 9, 10, 11] ?_
      repeat (refine tkH (oi := ⟨_, _, _, _, _, _⟩) (v := ?_) rfl (by kernel_rfl) (by rfl) (fun _ _ _ h => h) hS ?_ ?_; rotate_left; (· rintro W' ⟨z0, z1, z2, z3⟩; go_simp; try with_reducible rfl); try simp only [Act.put, putA, putZ, putS])
      refine tk0 ?_
      refine wpAnyH_ready (rs := [12]) (by kernel_rfl) (by simp) ?_
      refine AllReadyH.cons (o := ⟨some 22, _, _, _, _, _⟩) rfl (fun K hK => ?_) AllReadyH.nil
      go_simp
      refine (HGR.out _ HA1.out.fr).mono ?_
      rintro _ X2 ⟨rfl, hb2⟩
      (try go_wp2_with fail)
      have HA2 := Lib.hid (HA1.out.below hb2)
      refine hK.out _ _ (HC1.out X2 HA2.out) (fun hS => ?_)
      clear hK K
      try simp only [Act.put, putA, putZ, putS]
      clear hb2
      refine tH 13 (oi := ⟨_, _, _, _, _, _⟩) (v := .int .i64 (N : Int)) rfl (by kernel_rfl) (by rfl) (fun _ _ _ h => h) hS ?_ ?_
      · rintro W' ⟨z0, z1, z2, z3⟩; go_simp; (try first | rw [HMUL.out] | rw [HMU2.out])
      try simp only [Act.put, putA, putZ, putS]
      refine tH 14 (oi := ⟨_, _, _, _, _, _⟩) (v := .bool gq) rfl (by kernel_rfl) (by rfl) (fun _ _ _ h => h) hS ?_ ?_
      · rintro W' ⟨z0, z1, z2, z3⟩; go_simp; (try rw [HG6.out])
      try simp only [Act.put, putA, putZ, putS]
      refine tk [15, 16] ?_
      repeat (refine tkH (oi := ⟨_, _, _, _, _, _⟩) (v := ?_) rfl (by kernel_rfl) (by rfl) (fun _ _ _ h => h) hS ?_ ?_; rotate_left; (· rintro W' ⟨z0, z1, z2, z3⟩; go_simp; try with_reducible rfl); try simp only [Act.put, putA, putZ, putS])
      refine tk0 ?_
      refine wpAnyH_done (by kernel_rfl) ?_ _
      go_wp2_with fail
      go_meet
      exact ⟨by trivial, HA2.out⟩
    · have HFQ : Hid ((f == 0) = false) := by rw [Hid]; simpa using hf0
      have HFN := Lib.hid hf0
      rw [decide_eq_false hf0, Bool.false_and] at h1
      subst h1
      clear hf0
      refine wp_region_held_drew (S := fun X => X.cell? ⟨w.heap.size, 0, none⟩ = some (.slice uca t.nc ucc) ∧ X.cell? ⟨w.heap.size, 1, none⟩ = some (.slice uba t.nb ubc) ∧ X.cell? ⟨w.heap.size, 2, none⟩ = some (.slice ura t.nr urc) ∧ X.cell? ⟨w.heap.size, 3, none⟩ = some (.slice una t.nn unc)) (by kernel_rfl) (HC1.out _ HAX.out) (fun hS => ?_)
      generalize w0.drew = X at *
      refine tH 0 (oi := ⟨_, _, _, _, _, _⟩) (v := ?_) rfl (by kernel_rfl) (by rfl) (fun _ _ _ h => h) hS ?_ ?_
      rotate_left
      · rintro W' ⟨z0, z1, z2, z3⟩; go_simp; try with_reducible rfl
      try simp only [Act.put, putA, putZ, putS]
      refine wpAnyH_ready (rs := [1]) (by kernel_rfl) (by simp) ?_
      refine AllReadyH.cons (o := ⟨some 11, _, _, _, _, _⟩) rfl (fun K hK => ?_) AllReadyH.nil
      go_simp
      refine (HTH.out _ HAX.out.fr).mono ?_
      rintro _ X0 ⟨rfl, hb0⟩
      (try go_wp2_with fail)
      have HA0 := Lib.hid (HAX.out.below hb0)
      refine hK.out _ _ (HC1.out X0 HA0.out) (fun hS => ?_)
      clear hK K
      try simp only [Act.put, putA, putZ, putS]
      clear hb0
      refine tk [2, 3, 4] ?_
      repeat (refine tkH (oi := ⟨_, _, _, _, _, _⟩) (v := ?_) rfl (by kernel_rfl) (by rfl) (fun _ _ _ h => h) hS ?_ ?_; rotate_left; (· rintro W' ⟨z0, z1, z2, z3⟩; go_simp; try with_reducible rfl); try simp only [Act.put, putA, putZ, putS])
      refine tk0 ?_
      refine wpAnyH_ready (rs := [5]) (by kernel_rfl) (by simp) ?_
      refine AllReadyH.cons (o := ⟨some 15, _, _, _, _, _⟩) rfl (fun K hK => ?_) AllReadyH.nil
      go_simp
      refine (HFT.out _ HA0.out.fr).mono ?_
      rintro _ X1 ⟨rfl, hb1⟩
      (try go_wp2_with fail)
      have HA1 := Lib.hid (HA0.out.below hb1)
      refine hK.out _ _ (HC1.out X1 HA1.out) (fun hS => ?_)
      clear hK K
      try simp only [Act.put, putA, putZ, putS]
      clear hb1
      refine tH 6 (oi := ⟨_, _, _, _, _, _⟩) (v := .bool false) rfl (by kernel_rfl) (by rfl) (fun _ _ _ h => h) hS ?_ ?_
      · rintro W' ⟨z0, z1, z2, z3⟩; go_simp; (try first | rw [HFQ.out] | exact HFN.out)
      try simp only [Act.put, putA, putZ, putS]
      refine tH 7 (oi := ⟨_, _, _, _, _, _⟩) (v := ?_) rfl (by kernel_rfl) (by rfl) (fun _ _ _ h => h) hS ?_ ?_
      rotate_left
      · rintro W' ⟨z0, z1, z2, z3⟩; go_simp; try with_reducible rfl
      try simp only [Act.put, putA, putZ, putS]
      refine wpAnyH_take (i := 8) (oi := ⟨some 18, _, _, _, _, _⟩) (v := undef) rfl (by kernel_rfl) (by kernel_rfl) (by kernel_rfl) (fun _ _ _ h => h) (Or.inr ⟨by rfl, rfl⟩) hS ?_
      try simp only [Act.put, putA, putZ, putS]
      refine wpAnyH_take (i := 9) (oi := ⟨some 19, _, _, _, _, _⟩) (v := undef) rfl (by kernel_rfl) (by kernel_rfl) (by kernel_rfl) (fun _ _ _ h => h) (Or.inr ⟨by rfl, rfl⟩) hS ?_
      try simp only [Act.put, putA, putZ, putS]
      refine wpAnyH_take (i := 10) (oi := ⟨some 20, _, _, _, _, _⟩) (v := undef) rfl (by kernel_rfl) (by kernel_rfl) (by kernel_rfl) (fun _ _ _ h => h) (Or.inr ⟨by rfl, rfl⟩) hS ?_
      try simp only [Act.put, putA, putZ, putS]
      refine wpAnyH_take (i := 11) (oi := ⟨some 21, _, _, _, _, _⟩) (v := undef) rfl (by kernel_rfl) (by kernel_rfl) (by kernel_rfl) (fun _ _ _ h => h) (Or.inr ⟨by rfl, rfl⟩) hS ?_
      try simp only [Act.put, putA, putZ, putS]
      refine wpAnyH_take (i := 12) (oi := ⟨some 22, _, _, _, _, _⟩) (v := undef) rfl (by kernel_rfl) (by kernel_rfl) (by kernel_rfl) (fun _ _ _ h => h) (Or.inr ⟨by rfl, rfl⟩) hS ?_
      try simp only [Act.put, putA, putZ, putS]
      refine wpAnyH_take (i := 13) (oi := ⟨some 23, _, _, _, _, _⟩) (v := undef) rfl (by kernel_rfl) (by kernel_rfl) (by kernel_rfl) (fun _ _ _ h => h) (Or.inr ⟨by rfl, rfl⟩) hS ?_
      try simp only [Act.put, putA, putZ, putS]
      refine wpAnyH_take (i := 14) (oi := ⟨some 24, _, _, _, _, _⟩) (v := undef) rfl (by kernel_rfl) (by kernel_rfl) (by kernel_rfl) (fun _ _ _ h => h) (Or.inr ⟨by rfl, rfl⟩) hS ?_
      try simp only [Act.put, putA, putZ, putS]
      refine tk [15, 16] ?_
      repeat (refine tkH (oi := ⟨_, _, _, _, _, _⟩) (v := ?_) rfl (by kernel_rfl) (by rfl) (fun _ _ _ h => h) hS ?_ ?_; rotate_left; (· rintro W' ⟨z0, z1, z2, z3⟩; go_simp; try with_reducible rfl); try simp only [Act.put, putA, putZ, putS])
      refine tk0 ?_
      refine wpAnyH_done (by kernel_rfl) ?_ _
      go_wp2_with fail
      go_meet
      exact ⟨by trivial, HA1.out⟩
  rename World => w1
  obtain ⟨rfl, hbf⟩ := hcut
  have HA1 := Lib.hid hbf
  clear hbf HA0 HTH
  cases gq
  case true =>
    go_wp2_with (go_at_call 18; refine (HAW.out _).mono ?_; rintro _ w2 ⟨rfl, hb2⟩; have HB2 := Lib.hid (HA1.out.below hb2).fr; clear hb2)
    go_ret
    exact ⟨rfl, HB2.out⟩
  have k0 := HA1.out.cell (.head _) 0
  have k1 := HA1.out.cell (.head _) 1
  have k2 := HA1.out.cell (.head _) 2
  have k3 := HA1.out.cell (.head _) 3
  go_wp2_with fail
  refine (HTB.out _ HA1.out.fr).mono ?_
  rintro _ w2 ⟨v2, rfl, hl2, hb2⟩
  go_wp2_with fail
  refine (HLV.out _ _ hl2).mono ?_
  rintro _ w3 ⟨la, ln, lc, le, rfl, hlv, hb3⟩
  have HA3 := Lib.hid ((HA1.out.below hb2).below hb3)
  have HLT := Lib.hid hlv
  clear k0 k1 k2 k3 hl2 hb2 hb3 hlv HA1 HLV HTB
  have k0 := HA3.out.cell (.head _) 0
  have k1 := HA3.out.cell (.head _) 1
  have k2 := HA3.out.cell (.head _) 2
  have k3 := HA3.out.cell (.head _) 3
  go_wp2_with fail
  refine (HFT.out _ HA3.out.fr).mono ?_
  rintro _ w4 ⟨rfl, hb4⟩
  have HA4 := Lib.hid (HA3.out.below hb4); have HLT4 := Lib.hid (HLT.out.below hb4)
  clear k0 k1 k2 k3 hb4 HA3 HLT HFT HGR
  by_cases hf0 : f = 0
  case neg =>
    have hq1 : (f == 0) = false := by simpa using hf0
    have hq2 : (f != 0) = true := by simpa using hf0
    have hle : le = f ∧ ln = 0 := by
      rcases HLT4.out with ⟨_, h1, h2⟩ | ⟨h1, _⟩ | ⟨h1, _⟩
      · exact ⟨h1.trans HF.out, h2⟩
      · exact absurd (HF.out.symm.trans h1) hf0
      · exact absurd (HF.out.symm.trans h1) hf0
    obtain ⟨rfl, rfl⟩ := hle
    clear HLT4 HF HGQ
    go_wp2_with (go_at_call 18; refine (HAW.out _).mono ?_; rintro _ w5 ⟨rfl, hb5⟩; have HB5 := Lib.hid (HA4.out.below hb5).fr; clear hb5)
    go_ret
    exact ⟨rfl, HB5.out⟩
  subst hf0
  have hok := Okt.of_fault HF.out
  have hokr := hok.toR
  have HOK := Lib.hid hok
  have ng2 := hok.ng2; have ng4 := hok.ng4; have nc4 := hok.nc4; have nc1 := hok.nc1
  have hN6 : N ≤ 6 := by
    have h := HGQ.out
    rw [decide_eq_true rfl, Bool.true_and] at h
    have := of_decide_eq_false h
    omega
  have HCE : Hid (∀ X, Below w.heap.size w X → Calls Try.prog 34 #[.agg #[.slice uca t.nc ucc, .slice uba t.nb ubc, .slice ura t.nr urc, .slice una t.nn unc]] X fun e w' => ∃ a c, e = .returned (.slice a N c) ∧ RsAt w' (.slice a N c) N (cR t.ng (List.range N)) ∧ Below X.heap.size X w') := fun X hX => by
    refine (cells_all ⟨uca, ucc, uba, ubc, ura, urc, una, unc⟩ t X (HT0.out.l.below hX) HSS.out HOK.out).mono ?_
    rintro e w' ⟨r, rfl, ho, hb⟩
    rw [HN.out] at ho
    obtain ⟨a, c, rfl⟩ := own_slice' ho
    rw [rC_flatR, List.length_range] at ho
    exact ⟨a, c, rfl, RsAt.ownT ho, hb⟩
  have HWT : Hid (∀ X va s, RsIn X va s.length (cR t.ng s) → (∀ k, k ∈ s → k < N) → s.length ≤ 1000 → Calls Try.prog 24 #[va] X fun e w' => e = .returned (.agg (outL (outs t.ng (natL s))).toArray) ∧ Below X.heap.size X w') := fun X va s h1 h2 h3 => without_set va s t.nc t.ng X h1 (by rw [HN.out]; exact h2) (by omega) nc4 ng4 h3
  have HAG : Hid (∀ X s, Below w.heap.size w X → Calls Try.prog 25 #[.agg #[.slice uca t.nc ucc, .slice uba t.nb ubc, .slice ura t.nr urc, .slice una t.nn unc], .agg (outL (outs t.ng (natL s))).toArray] X fun e w' => e = .returned (.bool (okL t (natL s))) ∧ Below X.heap.size X w') := fun X s hX => ragree_any ⟨uca, ucc, uba, ubc, ura, urc, una, unc⟩ t (outs t.ng (natL s)) X (HT0.out.l.below hX) HOK.out.toR HSS.out
  have HOF : Hid (∀ X n, Below w.heap.size w X → n < 65536 → Calls Try.prog 35 #[.agg #[.slice uca t.nc ucc, .slice uba t.nb ubc, .slice ura t.nr urc, .slice una t.nn unc], .int .i64 (n : Nat)] X fun e w' => ∃ a c, e = .returned (.slice a (bl N n).length c) ∧ RsAt w' (.slice a (bl N n).length c) (bl N n).length (cR t.ng (bl N n)) ∧ Below X.heap.size X w') := fun X n hX hn => by
    have h := of_any ⟨uca, ucc, uba, ubc, ura, urc, una, unc⟩ t n X (HT0.out.l.below hX) HSS.out HOK.out hn
    rw [HN.out] at h
    exact h
  have HLS : Hid (∀ X va vb sa sb, RsIn X va sa.length (cR t.ng sa) → RsIn X vb sb.length (cR t.ng sb) → sa.length ≤ 1000 → sb.length ≤ 1000 → Calls Try.prog 36 #[va, vb] X fun e w' => e = .returned (.bool (lessN sa sb)) ∧ Below X.heap.size X w') := fun X va vb sa sb h1 h2 h3 h4 => less_any va vb sa sb t.ng X (by omega) h1 h2 h3 h4
  have HRL : Hid ((List.range N).length = N) := List.length_range
  clear hok hokr HGQ
  have k0 := HA4.out.cell (.head _) 0
  have k1 := HA4.out.cell (.head _) 1
  have k2 := HA4.out.cell (.head _) 2
  have k3 := HA4.out.cell (.head _) 3
  go_upto_region 7 with (fail)
  obtain ⟨M, HM⟩ : ∃ M : Nat, Hid (2 ^ N - 1 = M) := ⟨_, rfl⟩
  go_cut [6] (fun s6 wy => s6 = .int .i64 (M : Int) ∧ Below w4.heap.size w4 wy)
  case first => as_aux_lemma =>
    go_wp2_with fail
    refine (HCE.out _ HA4.out.fr).mono ?_
    rintro _ w5 ⟨ca, cc, rfl, _, hb5⟩
    have HB5 := Lib.hid hb5
    clear hb5
    have hMM := HM.out
    clear HM HN HCE HWT HAG HOF HLS HRL HLT4 k0 k1 k2 k3
    have h7 : N = 0 ∨ N = 1 ∨ N = 2 ∨ N = 3 ∨ N = 4 ∨ N = 5 ∨ N = 6 := by omega
    rcases h7 with rfl | rfl | rfl | rfl | rfl | rfl | rfl
    all_goals
      subst hMM
      go_wp2_with fail
      go_meet
      exact ⟨by first | rfl | decide | simp, HB5.out⟩
  rename World => w5
  obtain ⟨rfl, hb5⟩ := hcut
  have HA5 := Lib.hid (HA4.out.below hb5); have HLT5 := Lib.hid (HLT4.out.below hb5)
  clear k0 k1 k2 k3 hb5 HA4 HLT4
  go_upto_region 8 with (fail)
  go_cut [60] (fun s60 wy => s60 = .bool (!okL t (natL (List.range N))) ∧ Below w5.heap.size w5 wy)
  case first => as_aux_lemma =>
    have HAX : Hid (BF w5 w5.drew []) := (BF.base w5).below (Below.refl _ w5).drew
    refine wp_region_held_drew (S := fun X => X.cell? ⟨w.heap.size, 0, none⟩ = some (.slice uca t.nc ucc) ∧ X.cell? ⟨w.heap.size, 1, none⟩ = some (.slice uba t.nb ubc) ∧ X.cell? ⟨w.heap.size, 2, none⟩ = some (.slice ura t.nr urc) ∧ X.cell? ⟨w.heap.size, 3, none⟩ = some (.slice una t.nn unc)) (by kernel_rfl) (HC1.out _ (HA5.out.below HAX.out.fr)) (fun hS => ?_)
    generalize w5.drew = X at *
    refine tk [0, 1] ?_
    repeat (refine tkH (oi := ⟨_, _, _, _, _, _⟩) (v := ?_) rfl (by kernel_rfl) (by rfl) (fun _ _ _ h => h) hS ?_ ?_; rotate_left; (· rintro W' ⟨z0, z1, z2, z3⟩; go_simp; try with_reducible rfl); try simp only [Act.put, putA, putZ, putS])
    refine tk0 ?_
    refine wpAnyH_ready (rs := [2]) (by kernel_rfl) (by simp) ?_
    refine AllReadyH.cons (o := ⟨some 57, _, _, _, _, _⟩) rfl (fun K hK => ?_) AllReadyH.nil
    go_simp
    refine (HCE.out _ (HA5.out.below HAX.out.fr).fr).mono ?_
    rintro _ X0 ⟨ca, cc, rfl, hce, hb0⟩
    (try go_wp2_with fail)
    have HA0 := Lib.hid (HAX.out.below hb0)
    have HCI := Lib.hid hce.toIn
    clear hce
    refine hK.out _ _ (HC1.out X0 (HA5.out.below HA0.out.fr)) (fun hS => ?_)
    clear hK K
    try simp only [Act.put, putA, putZ, putS]
    clear hb0
    refine wpAnyH_ready (rs := [3]) (by kernel_rfl) (by simp) ?_
    refine AllReadyH.cons (o := ⟨some 58, _, _, _, _, _⟩) rfl (fun K hK => ?_) AllReadyH.nil
    go_simp
    refine (HWT.out _ _ (List.range N) (by rw [HRL.out]; exact HCI.out) (fun k hk => List.mem_range.1 hk) (by rw [HRL.out]; omega)).mono ?_
    rintro _ X1 ⟨rfl, hb1⟩
    (try go_wp2_with fail)
    have HA1 := Lib.hid (HA0.out.below hb1)
    refine hK.out _ _ (HC1.out X1 (HA5.out.below HA1.out.fr)) (fun hS => ?_)
    clear hK K
    try simp only [Act.put, putA, putZ, putS]
    clear hb1
    refine wpAnyH_ready (rs := [4]) (by kernel_rfl) (by simp) ?_
    refine AllReadyH.cons (o := ⟨some 59, _, _, _, _, _⟩) rfl (fun K hK => ?_) AllReadyH.nil
    go_simp
    refine (HAG.out _ (List.range N) (HA5.out.below HA1.out.fr).fr).mono ?_
    rintro _ X2 ⟨rfl, hb2⟩
    (try go_wp2_with fail)
    have HA2 := Lib.hid (HA1.out.below hb2)
    refine hK.out _ _ (HC1.out X2 (HA5.out.below HA2.out.fr)) (fun hS => ?_)
    clear hK K
    try simp only [Act.put, putA, putZ, putS]
    clear hb2
    refine tH 5 (oi := ⟨_, _, _, _, _, _⟩) (v := ?_) rfl (by kernel_rfl) (by rfl) (fun _ _ _ h => h) hS ?_ ?_
    rotate_left
    · rintro W' ⟨z0, z1, z2, z3⟩; go_simp; try with_reducible rfl
    try simp only [Act.put, putA, putZ, putS]
    refine wpAnyH_done (by kernel_rfl) ?_ _
    go_wp2_with fail
    go_meet
    exact ⟨rfl, HA2.out.fr⟩
  rename World => w6
  obtain ⟨rfl, hb6⟩ := hcut
  have HA6 := Lib.hid (HA5.out.below hb6); have HLT6 := Lib.hid (HLT5.out.below hb6)
  clear hb6 HA5 HLT5
  cases hA : okL t (natL (List.range N))
  · have hle : le = 9 ∧ ln = 0 := by
      rcases HLT6.out with ⟨h1, _⟩ | ⟨_, _, h1, h2⟩ | ⟨_, h1, _⟩
      · exact absurd HF.out h1
      · exact ⟨h1, h2⟩
      · rw [HN.out, hA] at h1; cases h1
    obtain ⟨rfl, rfl⟩ := hle
    clear HLT6 HF hA HN HM HCE HWT HAG HOF HLS HRL HOK
    go_wp2_with (go_at_call 18; refine (HAW.out _).mono ?_; rintro _ w7 ⟨rfl, hb7⟩; have HB7 := Lib.hid (HA6.out.below hb7).fr; clear hb7)
    go_ret
    exact ⟨rfl, HB7.out⟩
  have hle : ∃ s, LvM t s ∧ le = 0 ∧ ln = s.length ∧ RsAt w6 (.slice la ln lc) s.length (fun j => (cellsOf t.ng (natL s)).getD j (0, 0)) := by
    rcases HLT6.out with ⟨h1, _⟩ | ⟨_, h1, _⟩ | ⟨_, _, h1⟩
    · exact absurd HF.out h1
    · rw [HN.out, hA] at h1; cases h1
    · exact h1
  obtain ⟨s, hlm, rfl, rfl, hrl⟩ := hle
  have HLM := Lib.hid hlm; have HRS := Lib.hid hrl
  have hst := LvI.start (t := t) (s := s) (by rw [HN.out]; exact hA)
  rw [HN.out] at hst
  have HST := Lib.hid hst
  have hM63 : M ≤ 63 := by
    rw [← HM.out]
    have := Nat.pow_le_pow_right (show 0 < 2 by decide) hN6
    omega
  clear HLT6 HF hA hlm hrl hst
  have k0 := HA6.out.cell (.head _) 0
  have k1 := HA6.out.cell (.head _) 1
  have k2 := HA6.out.cell (.head _) 2
  have k3 := HA6.out.cell (.head _) 3
  go_wp2_with fail
  refine (HCE.out _ HA6.out.fr).mono ?_
  rintro _ w7 ⟨ca, cc, rfl, hce, hb7⟩
  have HA7 := Lib.hid (HA6.out.below hb7); have HRS7 := Lib.hid (HRS.out.below hb7)
  have HCE7 := Lib.hid hce
  clear k0 k1 k2 k3 hb7 hce HA6 HRS HCE
  go_wp2_with fail
  go_loopw [7, 8] (fun v i wr => ∃ (n : Nat) (b : List Nat) (ba : Option Addr) (bc : Nat), n ≤ M ∧ i = .int .i64 n ∧ v = .slice ba b.length bc ∧ LvI t s b n ∧ RsAt wr (.slice ba b.length bc) b.length (cR t.ng b) ∧ Below w7.heap.size w7 wr) (fun _ i _ => M - (intOf i).toNat)
  case atStart => exact ⟨0, List.range N, ca, cc, Nat.zero_le _, rfl, by rw [HRL.out], HST.out, by rw [HRL.out]; exact HCE7.out, Below.refl _ _⟩
  case round =>
    obtain ⟨n, b, ba, bc, hn, rfl, rfl, hinv, hrb, hbx⟩ := hrel
    rename World => wx
    have HBX := Lib.hid hbx; have HIV := Lib.hid hinv; have HRB := Lib.hid hrb
    clear hbx hinv hrb HST HCE7
    have hbl : b.length ≤ N := by rw [← HN.out]; exact Inc.len (k := 0) (Nat.zero_le _) HIV.out.inc
    have ni : (0 : Int) ≤ (n : Int) := by omega
    have HA8 := Lib.hid (HA7.out.below HBX.out)
    by_cases hlt : n < M
    · as_aux_lemma =>
      have nj : (n : Int) < (M : Int) := by omega
      have k0 := HA8.out.cell (.head _) 0
      have k1 := HA8.out.cell (.head _) 1
      have k2 := HA8.out.cell (.head _) 2
      have k3 := HA8.out.cell (.head _) 3
      go_wp2_with fail
      refine (HOF.out _ n HA8.out.fr (by omega)).mono ?_
      rintro _ w8 ⟨xa, xc, rfl, hx, hb8⟩
      obtain ⟨x, HXB⟩ : ∃ x, Hid (bl N n = x) := ⟨_, rfl⟩
      have hxl := bl_len N n
      have HXM : Hid (∀ k, k ∈ x → k < N) := by rw [← HXB.out]; exact inc_mem (bl_inc n N)
      rw [HXB.out] at hx hxl ⊢
      have HA9 := Lib.hid (HA8.out.below hb8); have HRB9 := Lib.hid (HRB.out.below hb8); have HB9 := Lib.hid (below_step HBX.out hb8)
      have HXR := Lib.hid hx
      have HX2 : Hid (bl (t.nc * t.ng) n = x) := by rw [Hid, HN.out]; exact HXB.out
      clear k0 k1 k2 k3 hb8 hx HA8 HRB HBX HOF HXB
      obtain ⟨ok, HOKX⟩ : ∃ ok, Hid (okL t (natL x) = ok) := ⟨_, rfl⟩
      obtain ⟨ls, HLSX⟩ : ∃ ls, Hid (lessN x b = ls) := ⟨_, rfl⟩
      have HLS2 : Hid (∀ X, Below w8.heap.size w8 X → Calls Try.prog 36 #[.slice xa x.length xc, .slice ba b.length bc] X fun e w' => e = .returned (.bool ls) ∧ Below X.heap.size X w') := fun X hX => by
        have h := HLS.out X _ _ x b (HXR.out.below hX).toIn (HRB9.out.below hX).toIn (by omega) (by omega)
        rw [HLSX.out] at h
        exact h
      have HWT2 : Hid (∀ X, Below w8.heap.size w8 X → Calls Try.prog 24 #[.slice xa x.length xc] X fun e w' => e = .returned (.agg (outL (outs t.ng (natL x))).toArray) ∧ Below X.heap.size X w') := fun X hX => HWT.out X _ x (HXR.out.below hX).toIn HXM.out (by omega)
      have HAG2 : Hid (∀ X, Below w8.heap.size w8 X → Calls Try.prog 25 #[.agg #[.slice uca t.nc ucc, .slice uba t.nb ubc, .slice ura t.nr urc, .slice una t.nn unc], .agg (outL (outs t.ng (natL x))).toArray] X fun e w' => e = .returned (.bool ok) ∧ Below X.heap.size X w') := fun X hX => by
        have h := HAG.out X x (HA9.out.below hX).fr
        rw [HOKX.out] at h
        exact h
      clear HLS HWT HAG
      go_upto_region 15 with (fail)
      go_cut [89] (fun s89 wy => s89 = .bool (ls && ok) ∧ Below w8.heap.size w8 wy)
      case first => as_aux_lemma =>
        have HAX : Hid (BF w8 w8.drew []) := (BF.base w8).below (Below.refl _ w8).drew
        cases ls
        · refine wp_region_held_drew (S := fun X => X.cell? ⟨w.heap.size, 0, none⟩ = some (.slice uca t.nc ucc) ∧ X.cell? ⟨w.heap.size, 1, none⟩ = some (.slice uba t.nb ubc) ∧ X.cell? ⟨w.heap.size, 2, none⟩ = some (.slice ura t.nr urc) ∧ X.cell? ⟨w.heap.size, 3, none⟩ = some (.slice una t.nn unc)) (by kernel_rfl) (HC1.out _ (HA9.out.below HAX.out.fr)) (fun hS => ?_)
          generalize w8.drew = X at *
          refine tk [0, 1] ?_
          repeat (refine tkH (oi := ⟨_, _, _, _, _, _⟩) (v := ?_) rfl (by kernel_rfl) (by rfl) (fun _ _ _ h => h) hS ?_ ?_; rotate_left; (· rintro W' ⟨z0, z1, z2, z3⟩; go_simp; try with_reducible rfl); try simp only [Act.put, putA, putZ, putS])
          refine tk0 ?_
          refine wpAnyH_ready (rs := [2]) (by kernel_rfl) (by simp) ?_
          refine AllReadyH.cons (o := ⟨some 83, _, _, _, _, _⟩) rfl (fun K hK => ?_) AllReadyH.nil
          go_simp
          refine (HLS2.out _ HAX.out.fr).mono ?_
          rintro _ X0 ⟨rfl, hb0⟩
          (try go_wp2_with fail)
          have HA0 := Lib.hid (HAX.out.below hb0)
          refine hK.out _ _ (HC1.out X0 (HA9.out.below HA0.out.fr)) (fun hS => ?_)
          clear hK K
          try simp only [Act.put, putA, putZ, putS]
          clear hb0
          refine tH 3 (oi := ⟨_, _, _, _, _, _⟩) (v := ?_) rfl (by kernel_rfl) (by rfl) (fun _ _ _ h => h) hS ?_ ?_
          rotate_left
          · rintro W' ⟨z0, z1, z2, z3⟩; go_simp; try with_reducible rfl
          try simp only [Act.put, putA, putZ, putS]
          refine wpAnyH_take (i := 4) (oi := ⟨some 85, _, _, _, _, _⟩) (v := undef) rfl (by kernel_rfl) (by kernel_rfl) (by kernel_rfl) (fun _ _ _ h => h) (Or.inr ⟨by rfl, rfl⟩) hS ?_
          try simp only [Act.put, putA, putZ, putS]
          refine wpAnyH_take (i := 5) (oi := ⟨some 86, _, _, _, _, _⟩) (v := undef) rfl (by kernel_rfl) (by kernel_rfl) (by kernel_rfl) (fun _ _ _ h => h) (Or.inr ⟨by rfl, rfl⟩) hS ?_
          try simp only [Act.put, putA, putZ, putS]
          refine wpAnyH_take (i := 6) (oi := ⟨some 87, _, _, _, _, _⟩) (v := undef) rfl (by kernel_rfl) (by kernel_rfl) (by kernel_rfl) (fun _ _ _ h => h) (Or.inr ⟨by rfl, rfl⟩) hS ?_
          try simp only [Act.put, putA, putZ, putS]
          refine wpAnyH_take (i := 7) (oi := ⟨some 88, _, _, _, _, _⟩) (v := undef) rfl (by kernel_rfl) (by kernel_rfl) (by kernel_rfl) (fun _ _ _ h => h) (Or.inr ⟨by rfl, rfl⟩) hS ?_
          try simp only [Act.put, putA, putZ, putS]
          refine tH 8 (oi := ⟨_, _, _, _, _, _⟩) (v := ?_) rfl (by kernel_rfl) (by rfl) (fun _ _ _ h => h) hS ?_ ?_
          rotate_left
          · rintro W' ⟨z0, z1, z2, z3⟩; go_simp; try with_reducible rfl
          try simp only [Act.put, putA, putZ, putS]
          refine wpAnyH_done (by kernel_rfl) ?_ _
          go_wp2_with fail
          go_meet
          exact ⟨by trivial, HA0.out.fr⟩
        · refine wp_region_held_drew (S := fun X => X.cell? ⟨w.heap.size, 0, none⟩ = some (.slice uca t.nc ucc) ∧ X.cell? ⟨w.heap.size, 1, none⟩ = some (.slice uba t.nb ubc) ∧ X.cell? ⟨w.heap.size, 2, none⟩ = some (.slice ura t.nr urc) ∧ X.cell? ⟨w.heap.size, 3, none⟩ = some (.slice una t.nn unc)) (by kernel_rfl) (HC1.out _ (HA9.out.below HAX.out.fr)) (fun hS => ?_)
          generalize w8.drew = X at *
          refine tk [0, 1] ?_
          repeat (refine tkH (oi := ⟨_, _, _, _, _, _⟩) (v := ?_) rfl (by kernel_rfl) (by rfl) (fun _ _ _ h => h) hS ?_ ?_; rotate_left; (· rintro W' ⟨z0, z1, z2, z3⟩; go_simp; try with_reducible rfl); try simp only [Act.put, putA, putZ, putS])
          refine tk0 ?_
          refine wpAnyH_ready (rs := [2]) (by kernel_rfl) (by simp) ?_
          refine AllReadyH.cons (o := ⟨some 83, _, _, _, _, _⟩) rfl (fun K hK => ?_) AllReadyH.nil
          go_simp
          refine (HLS2.out _ HAX.out.fr).mono ?_
          rintro _ X0 ⟨rfl, hb0⟩
          (try go_wp2_with fail)
          have HA0 := Lib.hid (HAX.out.below hb0)
          refine hK.out _ _ (HC1.out X0 (HA9.out.below HA0.out.fr)) (fun hS => ?_)
          clear hK K
          try simp only [Act.put, putA, putZ, putS]
          clear hb0
          refine tk [3, 4, 5] ?_
          repeat (refine tkH (oi := ⟨_, _, _, _, _, _⟩) (v := ?_) rfl (by kernel_rfl) (by rfl) (fun _ _ _ h => h) hS ?_ ?_; rotate_left; (· rintro W' ⟨z0, z1, z2, z3⟩; go_simp; try with_reducible rfl); try simp only [Act.put, putA, putZ, putS])
          refine tk0 ?_
          refine wpAnyH_ready (rs := [6]) (by kernel_rfl) (by simp) ?_
          refine AllReadyH.cons (o := ⟨some 87, _, _, _, _, _⟩) rfl (fun K hK => ?_) AllReadyH.nil
          go_simp
          refine (HWT2.out _ HA0.out.fr).mono ?_
          rintro _ X1 ⟨rfl, hb1⟩
          (try go_wp2_with fail)
          have HA1 := Lib.hid (HA0.out.below hb1)
          refine hK.out _ _ (HC1.out X1 (HA9.out.below HA1.out.fr)) (fun hS => ?_)
          clear hK K
          try simp only [Act.put, putA, putZ, putS]
          clear hb1
          refine wpAnyH_ready (rs := [7]) (by kernel_rfl) (by simp) ?_
          refine AllReadyH.cons (o := ⟨some 88, _, _, _, _, _⟩) rfl (fun K hK => ?_) AllReadyH.nil
          go_simp
          refine (HAG2.out _ HA1.out.fr).mono ?_
          rintro _ X2 ⟨rfl, hb2⟩
          (try go_wp2_with fail)
          have HA2 := Lib.hid (HA1.out.below hb2)
          refine hK.out _ _ (HC1.out X2 (HA9.out.below HA2.out.fr)) (fun hS => ?_)
          clear hK K
          try simp only [Act.put, putA, putZ, putS]
          clear hb2
          refine tH 8 (oi := ⟨_, _, _, _, _, _⟩) (v := ?_) rfl (by kernel_rfl) (by rfl) (fun _ _ _ h => h) hS ?_ ?_
          rotate_left
          · rintro W' ⟨z0, z1, z2, z3⟩; go_simp; try with_reducible rfl
          try simp only [Act.put, putA, putZ, putS]
          refine wpAnyH_done (by kernel_rfl) ?_ _
          go_wp2_with fail
          go_meet
          exact ⟨by trivial, HA2.out.fr⟩
      rename World => w9
      obtain ⟨rfl, hb9⟩ := hcut
      have HB10 := Lib.hid (below_step HB9.out hb9); have HRB10 := Lib.hid (HRB9.out.below hb9); have HXR10 := Lib.hid (HXR.out.below hb9)
      clear hb9 HB9 HRB9 HXR HLS2 HWT2 HAG2
      go_upto_if 89 with (fail)
      cases hcq : (ls && ok)
      · have HNX : Hid (LvI t s b (n + 1)) := HIV.out.leave HLM.out (by
          rw [HX2.out, HLSX.out, HOKX.out]
          rintro ⟨h1, h2⟩
          rw [h1, h2] at hcq
          cases hcq)
        clear HIV
        go_wp2_with fail
        go_roundw
        case rel => exact ⟨n + 1, b, ba, bc, by omega, by go_num, rfl, HNX.out, HRB10.out, HB10.out⟩
        case measure => simp [intOf]; omega
      · rw [Bool.and_eq_true] at hcq
        have hnx := LvI.take HLM.out HIV.out (by rw [HX2.out, HLSX.out]; exact hcq.1) (by rw [HX2.out, HOKX.out]; exact hcq.2)
        rw [HX2.out] at hnx
        have HNX := Lib.hid hnx
        clear HIV hnx hcq
        go_wp2_with fail
        go_roundw
        case rel => exact ⟨n + 1, x, xa, xc, by omega, by go_num, rfl, HNX.out, HXR10.out, HB10.out⟩
        case measure => simp [intOf]; omega
    · obtain rfl : n = M := by omega
      have hdn : b = s := LvI.done HLM.out (by rw [HN.out, HM.out]; exact HIV.out)
      subst hdn
      have HCL : Hid (Calls Try.prog 37 #[.slice la b.length lc, .slice ba b.length bc] wx fun e w' => e = .returned (.bool true) ∧ Below wx.heap.size wx w') := by
        have h := cells_any_eq _ _ b.length b.length _ (cR t.ng b) wx (HRS7.out.below HBX.out) HRB.out (by omega) (by omega)
        rw [eqR_cells] at h
        exact h
      clear HRS7 HRB HIV HLM
      go_wp2_with (first | (go_at_call 37; refine HCL.out.mono ?_; rintro _ w12 ⟨rfl, hb12⟩; have HA12 := Lib.hid (HA8.out.below hb12); clear hb12) | (go_at_call 18; refine (HAW.out _).mono ?_; rintro _ w13 ⟨rfl, hb13⟩; have HB13 := Lib.hid (HA12.out.below hb13).fr; clear hb13))
      go_ret
      exact ⟨rfl, HB13.out⟩
end Go.Proofs.Ytjaoflfophcibaa
