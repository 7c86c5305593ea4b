/- FlowPlays: IsTruth of the reference. Printed by gen_jd.py. -/
import Derived.Test.YtjaoflfophcibaaIR
namespace Go.Proofs.Ytjaoflfophcibaa
open Go.RowKit Go.Shelf

set_option maxRecDepth 100000 in
set_option maxHeartbeats 8000000 in
theorem isTruth_any (u : WV) (t : Tb) (y : XV) (x : Tr) (w : World) (hl : WLi w u t) (hs : t.small) (hx : XLi w y x) (ht : Okt t) (hsm : TrSm x) :
    Calls Try.prog 51 #[.agg #[u.cv t, u.bv t, u.rv t, u.nv t], .agg #[.slice y.fa x.nf y.fc, .slice y.ba x.nb y.bc, .slice y.da x.nd y.dc, .slice y.ma x.nm y.mc]] w fun e w' => e = .returned (.bool (t.isTr x)) ∧ Below w.heap.size w w' := by
  have HG : Hid (∀ X, Below w.heap.size w X → Calls Try.prog 23 #[.agg #[u.cv t, u.bv t, u.rv t, u.nv t]] X fun e w' => e = .returned (.int .i64 (t.ng : Nat)) ∧ Below X.heap.size X w') := fun X hX => rgroups_any _ t X (hl.below hX).tb hs
  have ng2 := ht.ng2; have ng4 := ht.ng4; have nb4 : t.nb ≤ 4 := by have := ht.nb; have := ht.nc4; omega
  have HNN := Lib.hid ht.nn
  have HL := Lib.hid hl; have HXL := Lib.hid hx; have HSM := Lib.hid hsm
  clear hl hx ht hsm hs
  obtain ⟨uca, ucc, uba, ubc, ura, urc, una, unc⟩ := u
  obtain ⟨fa, fc, ba, bc, da, dc, ma, mc⟩ := y
  obtain ⟨nf, xf, nb, xb, nd, dl, xd, nm, ml, xm⟩ := x
  simp only [WV.cv, WV.bv, WV.rv, WV.nv] at HG ⊢
  have sf : nf ≤ 100000 := HSM.out.f
  have sb : nb ≤ 100000 := HSM.out.b
  have sd : nd ≤ 100000 := HSM.out.d
  have sm : nm ≤ 100000 := HSM.out.m
  have wng1 : IntKind.i64.wrap ((t.ng : Int) + 1) = (t.ng : Int) + 1 := IntWalk.i64_in _ (by omega)
  have HA0 : Hid (BF w ((w.alloc (.cells #[.slice uca t.nc ucc, .slice uba t.nb ubc, .slice ura t.nr urc, .slice una t.nn unc] 25)).alloc (.cells #[.slice fa nf fc, .slice ba nb bc, .slice da nd dc, .slice ma nm mc] 75)) [(w.heap.size, #[.slice uca t.nc ucc, .slice uba t.nb ubc, .slice ura t.nr urc, .slice una t.nn unc], 25), (w.heap.size + 1, #[.slice fa nf fc, .slice ba nb bc, .slice da nd dc, .slice ma nm mc], 75)]) := BF.made2 w _ _ _ _
  go_enter Try.func51, Try.ntmps51
  go_wp2_with fail
  generalize ((w.alloc (.cells #[.slice uca t.nc ucc, .slice uba t.nb ubc, .slice ura t.nr urc, .slice una t.nn unc] 25)).alloc (.cells #[.slice fa nf fc, .slice ba nb bc, .slice da nd dc, .slice ma nm mc] 75)) = w1 at *
  go_cut [40] (fun s40 wx => s40 = .bool (!(decide (nf = t.ng) && (decide (nb = t.nb) && (decide (nd = t.nb) && decide (nm = t.nb))))) ∧ BF w wx [(w.heap.size, #[.slice uca t.nc ucc, .slice uba t.nb ubc, .slice ura t.nr urc, .slice una t.nn unc], 25), (w.heap.size + 1, #[.slice fa nf fc, .slice ba nb bc, .slice da nd dc, .slice ma nm mc], 75)])
  case first =>
    have HAX := Lib.hid (HA0.out.below (Below.refl _ w1).drew)
    have HC1 : Hid (∀ X, BF w X [(w.heap.size, #[.slice uca t.nc ucc, .slice uba t.nb ubc, .slice ura t.nr urc, .slice una t.nn unc], 25), (w.heap.size + 1, #[.slice fa nf fc, .slice ba nb bc, .slice da nd dc, .slice ma nm mc], 75)] → (X.cell? ⟨w.heap.size, 0, none⟩ = some (.slice uca t.nc ucc) ∧ X.cell? ⟨w.heap.size, 1, none⟩ = some (.slice uba t.nb ubc) ∧ X.cell? ⟨w.heap.size, 2, none⟩ = some (.slice ura t.nr urc) ∧ X.cell? ⟨w.heap.size, 3, none⟩ = some (.slice una t.nn unc) ∧ X.cell? ⟨w.heap.size + 1, 0, none⟩ = some (.slice fa nf fc) ∧ X.cell? ⟨w.heap.size + 1, 1, none⟩ = some (.slice ba nb bc) ∧ X.cell? ⟨w.heap.size + 1, 2, none⟩ = some (.slice da nd dc) ∧ X.cell? ⟨w.heap.size + 1, 3, none⟩ = some (.slice ma nm mc))) := fun X h => ⟨h.cell (.head _) 0, h.cell (.head _) 1, h.cell (.head _) 2, h.cell (.head _) 3, h.cell (.tail _ (.head _)) 0, h.cell (.tail _ (.head _)) 1, h.cell (.tail _ (.head _)) 2, h.cell (.tail _ (.head _)) 3⟩
    clear wng1
    by_cases e1 : nf = t.ng
    case neg =>
      · refine wp_region_held_drew (S := fun X => X.cell? ⟨w.heap.size, 0, none⟩ = some (.slice uca t.nc ucc) ∧ X.cell? ⟨w.heap.size, 1, none⟩ = some (.slice uba t.nb ubc) ∧ X.cell? ⟨w.heap.size, 2, none⟩ = some (.slice ura t.nr urc) ∧ X.cell? ⟨w.heap.size, 3, none⟩ = some (.slice una t.nn unc) ∧ X.cell? ⟨w.heap.size + 1, 0, none⟩ = some (.slice fa nf fc) ∧ X.cell? ⟨w.heap.size + 1, 1, none⟩ = some (.slice ba nb bc) ∧ X.cell? ⟨w.heap.size + 1, 2, none⟩ = some (.slice da nd dc) ∧ X.cell? ⟨w.heap.size + 1, 3, none⟩ = some (.slice ma nm mc)) (by kernel_rfl) (HC1.out _ HAX.out) (fun hS => ?_)
        generalize w1.drew = X at *
        refine tk [0, 1, 2, 3] ?_
        repeat (refine tkH (oi := ⟨_, _, _, _, _, _⟩) (v := ?_) rfl (by kernel_rfl) (by rfl) (fun _ _ _ h => h) hS ?_ ?_; rotate_left; (· rintro W' ⟨z0, z1, z2, z3, z4, z5, z6, z7⟩; go_simp; try with_reducible rfl); try simp only [Act.put, putA, putZ, putS])
        refine tk0 ?_
        refine wpAnyH_ready (rs := [4]) (by kernel_rfl) (by simp) ?_
        refine AllReadyH.cons (o := ⟨some 12, _, _, _, _, _⟩) rfl (fun K hK => ?_) AllReadyH.nil
        go_simp
        refine (HG.out _ HAX.out.fr).mono ?_
        rintro _ X0 ⟨rfl, hb0⟩
        (try go_wp2_with fail)
        have HA0 := Lib.hid (HAX.out.below hb0)
        refine hK.out _ _ (HC1.out X0 HA0.out) (fun hS => ?_)
        clear hK K
        try simp only [Act.put, putA, putZ, putS]
        clear hb0
        refine tH 5 (oi := ⟨_, _, _, _, _, _⟩) (v := .bool true) rfl (by kernel_rfl) (by rfl) (fun _ _ _ h => h) hS ?_ ?_
        · rintro W' ⟨z0, z1, z2, z3, z4, z5, z6, z7⟩; go_simp; (try omega)
        try simp only [Act.put, putA, putZ, putS]
        refine tH 6 (oi := ⟨_, _, _, _, _, _⟩) (v := ?_) rfl (by kernel_rfl) (by rfl) (fun _ _ _ h => h) hS ?_ ?_
        rotate_left
        · rintro W' ⟨z0, z1, z2, z3, z4, z5, z6, z7⟩; go_simp; try with_reducible rfl
        try simp only [Act.put, putA, putZ, putS]
        refine wpAnyH_take (i := 7) (oi := ⟨some 15, _, _, _, _, _⟩) (v := undef) rfl (by kernel_rfl) (by kernel_rfl) (by kernel_rfl) (fun _ _ _ h => h) (Or.inr ⟨by rfl, rfl⟩) hS ?_
        try simp only [Act.put, putA, putZ, putS]
        refine wpAnyH_take (i := 8) (oi := ⟨some 16, _, _, _, _, _⟩) (v := undef) rfl (by kernel_rfl) (by kernel_rfl) (by kernel_rfl) (fun _ _ _ h => h) (Or.inr ⟨by rfl, rfl⟩) hS ?_
        try simp only [Act.put, putA, putZ, putS]
        refine wpAnyH_take (i := 9) (oi := ⟨some 17, _, _, _, _, _⟩) (v := undef) rfl (by kernel_rfl) (by kernel_rfl) (by kernel_rfl) (fun _ _ _ h => h) (Or.inr ⟨by rfl, rfl⟩) hS ?_
        try simp only [Act.put, putA, putZ, putS]
        refine wpAnyH_take (i := 10) (oi := ⟨some 18, _, _, _, _, _⟩) (v := undef) rfl (by kernel_rfl) (by kernel_rfl) (by kernel_rfl) (fun _ _ _ h => h) (Or.inr ⟨by rfl, rfl⟩) hS ?_
        try simp only [Act.put, putA, putZ, putS]
        refine wpAnyH_take (i := 11) (oi := ⟨some 19, _, _, _, _, _⟩) (v := undef) rfl (by kernel_rfl) (by kernel_rfl) (by kernel_rfl) (fun _ _ _ h => h) (Or.inr ⟨by rfl, rfl⟩) hS ?_
        try simp only [Act.put, putA, putZ, putS]
        refine wpAnyH_take (i := 12) (oi := ⟨some 20, _, _, _, _, _⟩) (v := undef) rfl (by kernel_rfl) (by kernel_rfl) (by kernel_rfl) (fun _ _ _ h => h) (Or.inr ⟨by rfl, rfl⟩) hS ?_
        try simp only [Act.put, putA, putZ, putS]
        refine wpAnyH_take (i := 13) (oi := ⟨some 21, _, _, _, _, _⟩) (v := undef) rfl (by kernel_rfl) (by kernel_rfl) (by kernel_rfl) (fun _ _ _ h => h) (Or.inr ⟨by rfl, rfl⟩) hS ?_
        try simp only [Act.put, putA, putZ, putS]
        refine tk [14, 15] ?_
        repeat (refine tkH (oi := ⟨_, _, _, _, _, _⟩) (v := ?_) rfl (by kernel_rfl) (by rfl) (fun _ _ _ h => h) hS ?_ ?_; rotate_left; (· rintro W' ⟨z0, z1, z2, z3, z4, z5, z6, z7⟩; go_simp; try with_reducible rfl); try simp only [Act.put, putA, putZ, putS])
        refine tk0 ?_
        refine wpAnyH_take (i := 16) (oi := ⟨some 24, _, _, _, _, _⟩) (v := undef) rfl (by kernel_rfl) (by kernel_rfl) (by kernel_rfl) (fun _ _ _ h => h) (Or.inr ⟨by rfl, rfl⟩) hS ?_
        try simp only [Act.put, putA, putZ, putS]
        refine wpAnyH_take (i := 17) (oi := ⟨some 25, _, _, _, _, _⟩) (v := undef) rfl (by kernel_rfl) (by kernel_rfl) (by kernel_rfl) (fun _ _ _ h => h) (Or.inr ⟨by rfl, rfl⟩) hS ?_
        try simp only [Act.put, putA, putZ, putS]
        refine wpAnyH_take (i := 18) (oi := ⟨some 26, _, _, _, _, _⟩) (v := undef) rfl (by kernel_rfl) (by kernel_rfl) (by kernel_rfl) (fun _ _ _ h => h) (Or.inr ⟨by rfl, rfl⟩) hS ?_
        try simp only [Act.put, putA, putZ, putS]
        refine wpAnyH_take (i := 19) (oi := ⟨some 27, _, _, _, _, _⟩) (v := undef) rfl (by kernel_rfl) (by kernel_rfl) (by kernel_rfl) (fun _ _ _ h => h) (Or.inr ⟨by rfl, rfl⟩) hS ?_
        try simp only [Act.put, putA, putZ, putS]
        refine wpAnyH_take (i := 20) (oi := ⟨some 28, _, _, _, _, _⟩) (v := undef) rfl (by kernel_rfl) (by kernel_rfl) (by kernel_rfl) (fun _ _ _ h => h) (Or.inr ⟨by rfl, rfl⟩) hS ?_
        try simp only [Act.put, putA, putZ, putS]
        refine wpAnyH_take (i := 21) (oi := ⟨some 29, _, _, _, _, _⟩) (v := undef) rfl (by kernel_rfl) (by kernel_rfl) (by kernel_rfl) (fun _ _ _ h => h) (Or.inr ⟨by rfl, rfl⟩) hS ?_
        try simp only [Act.put, putA, putZ, putS]
        refine wpAnyH_take (i := 22) (oi := ⟨some 30, _, _, _, _, _⟩) (v := undef) rfl (by kernel_rfl) (by kernel_rfl) (by kernel_rfl) (fun _ _ _ h => h) (Or.inr ⟨by rfl, rfl⟩) hS ?_
        try simp only [Act.put, putA, putZ, putS]
        refine tk [23, 24] ?_
        repeat (refine tkH (oi := ⟨_, _, _, _, _, _⟩) (v := ?_) rfl (by kernel_rfl) (by rfl) (fun _ _ _ h => h) hS ?_ ?_; rotate_left; (· rintro W' ⟨z0, z1, z2, z3, z4, z5, z6, z7⟩; go_simp; try with_reducible rfl); try simp only [Act.put, putA, putZ, putS])
        refine tk0 ?_
        refine wpAnyH_take (i := 25) (oi := ⟨some 33, _, _, _, _, _⟩) (v := undef) rfl (by kernel_rfl) (by kernel_rfl) (by kernel_rfl) (fun _ _ _ h => h) (Or.inr ⟨by rfl, rfl⟩) hS ?_
        try simp only [Act.put, putA, putZ, putS]
        refine wpAnyH_take (i := 26) (oi := ⟨some 34, _, _, _, _, _⟩) (v := undef) rfl (by kernel_rfl) (by kernel_rfl) (by kernel_rfl) (fun _ _ _ h => h) (Or.inr ⟨by rfl, rfl⟩) hS ?_
        try simp only [Act.put, putA, putZ, putS]
        refine wpAnyH_take (i := 27) (oi := ⟨some 35, _, _, _, _, _⟩) (v := undef) rfl (by kernel_rfl) (by kernel_rfl) (by kernel_rfl) (fun _ _ _ h => h) (Or.inr ⟨by rfl, rfl⟩) hS ?_
        try simp only [Act.put, putA, putZ, putS]
        refine wpAnyH_take (i := 28) (oi := ⟨some 36, _, _, _, _, _⟩) (v := undef) rfl (by kernel_rfl) (by kernel_rfl) (by kernel_rfl) (fun _ _ _ h => h) (Or.inr ⟨by rfl, rfl⟩) hS ?_
        try simp only [Act.put, putA, putZ, putS]
        refine wpAnyH_take (i := 29) (oi := ⟨some 37, _, _, _, _, _⟩) (v := undef) rfl (by kernel_rfl) (by kernel_rfl) (by kernel_rfl) (fun _ _ _ h => h) (Or.inr ⟨by rfl, rfl⟩) hS ?_
        try simp only [Act.put, putA, putZ, putS]
        refine wpAnyH_take (i := 30) (oi := ⟨some 38, _, _, _, _, _⟩) (v := undef) rfl (by kernel_rfl) (by kernel_rfl) (by kernel_rfl) (fun _ _ _ h => h) (Or.inr ⟨by rfl, rfl⟩) hS ?_
        try simp only [Act.put, putA, putZ, putS]
        refine wpAnyH_take (i := 31) (oi := ⟨some 39, _, _, _, _, _⟩) (v := undef) rfl (by kernel_rfl) (by kernel_rfl) (by kernel_rfl) (fun _ _ _ h => h) (Or.inr ⟨by rfl, rfl⟩) hS ?_
        try simp only [Act.put, putA, putZ, putS]
        refine tH 32 (oi := ⟨_, _, _, _, _, _⟩) (v := ?_) rfl (by kernel_rfl) (by rfl) (fun _ _ _ h => h) hS ?_ ?_
        rotate_left
        · rintro W' ⟨z0, z1, z2, z3, z4, z5, z6, z7⟩; go_simp; try with_reducible rfl
        try simp only [Act.put, putA, putZ, putS]
        refine wpAnyH_done (by kernel_rfl) ?_ _
        go_wp2_with fail
        go_meet
        exact ⟨by simp [e1], HA0.out⟩
    have a1 : nf ≤ t.ng := by omega
    have b1 : t.ng ≤ nf := by omega
    have E1 := Lib.hid e1
    clear e1
    by_cases e2 : nb = t.nb
    case neg =>
      · refine wp_region_held_drew (S := fun X => X.cell? ⟨w.heap.size, 0, none⟩ = some (.slice uca t.nc ucc) ∧ X.cell? ⟨w.heap.size, 1, none⟩ = some (.slice uba t.nb ubc) ∧ X.cell? ⟨w.heap.size, 2, none⟩ = some (.slice ura t.nr urc) ∧ X.cell? ⟨w.heap.size, 3, none⟩ = some (.slice una t.nn unc) ∧ X.cell? ⟨w.heap.size + 1, 0, none⟩ = some (.slice fa nf fc) ∧ X.cell? ⟨w.heap.size + 1, 1, none⟩ = some (.slice ba nb bc) ∧ X.cell? ⟨w.heap.size + 1, 2, none⟩ = some (.slice da nd dc) ∧ X.cell? ⟨w.heap.size + 1, 3, none⟩ = some (.slice ma nm mc)) (by kernel_rfl) (HC1.out _ HAX.out) (fun hS => ?_)
        generalize w1.drew = X at *
        refine tk [0, 1, 2, 3] ?_
        repeat (refine tkH (oi := ⟨_, _, _, _, _, _⟩) (v := ?_) rfl (by kernel_rfl) (by rfl) (fun _ _ _ h => h) hS ?_ ?_; rotate_left; (· rintro W' ⟨z0, z1, z2, z3, z4, z5, z6, z7⟩; go_simp; try with_reducible rfl); try simp only [Act.put, putA, putZ, putS])
        refine tk0 ?_
        refine wpAnyH_ready (rs := [4]) (by kernel_rfl) (by simp) ?_
        refine AllReadyH.cons (o := ⟨some 12, _, _, _, _, _⟩) rfl (fun K hK => ?_) AllReadyH.nil
        go_simp
        refine (HG.out _ HAX.out.fr).mono ?_
        rintro _ X0 ⟨rfl, hb0⟩
        (try go_wp2_with fail)
        have HA0 := Lib.hid (HAX.out.below hb0)
        refine hK.out _ _ (HC1.out X0 HA0.out) (fun hS => ?_)
        clear hK K
        try simp only [Act.put, putA, putZ, putS]
        clear hb0
        refine tH 5 (oi := ⟨_, _, _, _, _, _⟩) (v := .bool false) rfl (by kernel_rfl) (by rfl) (fun _ _ _ h => h) hS ?_ ?_
        · rintro W' ⟨z0, z1, z2, z3, z4, z5, z6, z7⟩; go_simp; (try omega)
        try simp only [Act.put, putA, putZ, putS]
        refine tk [6, 7, 8, 9, 10, 11, 12] ?_
        repeat (refine tkH (oi := ⟨_, _, _, _, _, _⟩) (v := ?_) rfl (by kernel_rfl) (by rfl) (fun _ _ _ h => h) hS ?_ ?_; rotate_left; (· rintro W' ⟨z0, z1, z2, z3, z4, z5, z6, z7⟩; go_simp; try with_reducible rfl); try simp only [Act.put, putA, putZ, putS])
        refine tk0 ?_
        refine tH 13 (oi := ⟨_, _, _, _, _, _⟩) (v := .bool true) rfl (by kernel_rfl) (by rfl) (fun _ _ _ h => h) hS ?_ ?_
        · rintro W' ⟨z0, z1, z2, z3, z4, z5, z6, z7⟩; go_simp; (try omega)
        try simp only [Act.put, putA, putZ, putS]
        refine tk [14, 15] ?_
        repeat (refine tkH (oi := ⟨_, _, _, _, _, _⟩) (v := ?_) rfl (by kernel_rfl) (by rfl) (fun _ _ _ h => h) hS ?_ ?_; rotate_left; (· rintro W' ⟨z0, z1, z2, z3, z4, z5, z6, z7⟩; go_simp; try with_reducible rfl); try simp only [Act.put, putA, putZ, putS])
        refine tk0 ?_
        refine wpAnyH_take (i := 16) (oi := ⟨some 24, _, _, _, _, _⟩) (v := undef) rfl (by kernel_rfl) (by kernel_rfl) (by kernel_rfl) (fun _ _ _ h => h) (Or.inr ⟨by rfl, rfl⟩) hS ?_
        try simp only [Act.put, putA, putZ, putS]
        refine wpAnyH_take (i := 17) (oi := ⟨some 25, _, _, _, _, _⟩) (v := undef) rfl (by kernel_rfl) (by kernel_rfl) (by kernel_rfl) (fun _ _ _ h => h) (Or.inr ⟨by rfl, rfl⟩) hS ?_
        try simp only [Act.put, putA, putZ, putS]
        refine wpAnyH_take (i := 18) (oi := ⟨some 26, _, _, _, _, _⟩) (v := undef) rfl (by kernel_rfl) (by kernel_rfl) (by kernel_rfl) (fun _ _ _ h => h) (Or.inr ⟨by rfl, rfl⟩) hS ?_
        try simp only [Act.put, putA, putZ, putS]
        refine wpAnyH_take (i := 19) (oi := ⟨some 27, _, _, _, _, _⟩) (v := undef) rfl (by kernel_rfl) (by kernel_rfl) (by kernel_rfl) (fun _ _ _ h => h) (Or.inr ⟨by rfl, rfl⟩) hS ?_
        try simp only [Act.put, putA, putZ, putS]
        refine wpAnyH_take (i := 20) (oi := ⟨some 28, _, _, _, _, _⟩) (v := undef) rfl (by kernel_rfl) (by kernel_rfl) (by kernel_rfl) (fun _ _ _ h => h) (Or.inr ⟨by rfl, rfl⟩) hS ?_
        try simp only [Act.put, putA, putZ, putS]
        refine wpAnyH_take (i := 21) (oi := ⟨some 29, _, _, _, _, _⟩) (v := undef) rfl (by kernel_rfl) (by kernel_rfl) (by kernel_rfl) (fun _ _ _ h => h) (Or.inr ⟨by rfl, rfl⟩) hS ?_
        try simp only [Act.put, putA, putZ, putS]
        refine wpAnyH_take (i := 22) (oi := ⟨some 30, _, _, _, _, _⟩) (v := undef) rfl (by kernel_rfl) (by kernel_rfl) (by kernel_rfl) (fun _ _ _ h => h) (Or.inr ⟨by rfl, rfl⟩) hS ?_
        try simp only [Act.put, putA, putZ, putS]
        refine tk [23, 24] ?_
        repeat (refine tkH (oi := ⟨_, _, _, _, _, _⟩) (v := ?_) rfl (by kernel_rfl) (by rfl) (fun _ _ _ h => h) hS ?_ ?_; rotate_left; (· rintro W' ⟨z0, z1, z2, z3, z4, z5, z6, z7⟩; go_simp; try with_reducible rfl); try simp only [Act.put, putA, putZ, putS])
        refine tk0 ?_
        refine wpAnyH_take (i := 25) (oi := ⟨some 33, _, _, _, _, _⟩) (v := undef) rfl (by kernel_rfl) (by kernel_rfl) (by kernel_rfl) (fun _ _ _ h => h) (Or.inr ⟨by rfl, rfl⟩) hS ?_
        try simp only [Act.put, putA, putZ, putS]
        refine wpAnyH_take (i := 26) (oi := ⟨some 34, _, _, _, _, _⟩) (v := undef) rfl (by kernel_rfl) (by kernel_rfl) (by kernel_rfl) (fun _ _ _ h => h) (Or.inr ⟨by rfl, rfl⟩) hS ?_
        try simp only [Act.put, putA, putZ, putS]
        refine wpAnyH_take (i := 27) (oi := ⟨some 35, _, _, _, _, _⟩) (v := undef) rfl (by kernel_rfl) (by kernel_rfl) (by kernel_rfl) (fun _ _ _ h => h) (Or.inr ⟨by rfl, rfl⟩) hS ?_
        try simp only [Act.put, putA, putZ, putS]
        refine wpAnyH_take (i := 28) (oi := ⟨some 36, _, _, _, _, _⟩) (v := undef) rfl (by kernel_rfl) (by kernel_rfl) (by kernel_rfl) (fun _ _ _ h => h) (Or.inr ⟨by rfl, rfl⟩) hS ?_
        try simp only [Act.put, putA, putZ, putS]
        refine wpAnyH_take (i := 29) (oi := ⟨some 37, _, _, _, _, _⟩) (v := undef) rfl (by kernel_rfl) (by kernel_rfl) (by kernel_rfl) (fun _ _ _ h => h) (Or.inr ⟨by rfl, rfl⟩) hS ?_
        try simp only [Act.put, putA, putZ, putS]
        refine wpAnyH_take (i := 30) (oi := ⟨some 38, _, _, _, _, _⟩) (v := undef) rfl (by kernel_rfl) (by kernel_rfl) (by kernel_rfl) (fun _ _ _ h => h) (Or.inr ⟨by rfl, rfl⟩) hS ?_
        try simp only [Act.put, putA, putZ, putS]
        refine wpAnyH_take (i := 31) (oi := ⟨some 39, _, _, _, _, _⟩) (v := undef) rfl (by kernel_rfl) (by kernel_rfl) (by kernel_rfl) (fun _ _ _ h => h) (Or.inr ⟨by rfl, rfl⟩) hS ?_
        try simp only [Act.put, putA, putZ, putS]
        refine tH 32 (oi := ⟨_, _, _, _, _, _⟩) (v := ?_) rfl (by kernel_rfl) (by rfl) (fun _ _ _ h => h) hS ?_ ?_
        rotate_left
        · rintro W' ⟨z0, z1, z2, z3, z4, z5, z6, z7⟩; go_simp; try with_reducible rfl
        try simp only [Act.put, putA, putZ, putS]
        refine wpAnyH_done (by kernel_rfl) ?_ _
        go_wp2_with fail
        go_meet
        exact ⟨by have e1 := E1.out; simp [e1, e2], HA0.out⟩
    have a2 : nb ≤ t.nb := by omega
    have b2 : t.nb ≤ nb := by omega
    have E2 := Lib.hid e2
    clear e2
    by_cases e3 : nd = t.nb
    case neg =>
      · refine wp_region_held_drew (S := fun X => X.cell? ⟨w.heap.size, 0, none⟩ = some (.slice uca t.nc ucc) ∧ X.cell? ⟨w.heap.size, 1, none⟩ = some (.slice uba t.nb ubc) ∧ X.cell? ⟨w.heap.size, 2, none⟩ = some (.slice ura t.nr urc) ∧ X.cell? ⟨w.heap.size, 3, none⟩ = some (.slice una t.nn unc) ∧ X.cell? ⟨w.heap.size + 1, 0, none⟩ = some (.slice fa nf fc) ∧ X.cell? ⟨w.heap.size + 1, 1, none⟩ = some (.slice ba nb bc) ∧ X.cell? ⟨w.heap.size + 1, 2, none⟩ = some (.slice da nd dc) ∧ X.cell? ⟨w.heap.size + 1, 3, none⟩ = some (.slice ma nm mc)) (by kernel_rfl) (HC1.out _ HAX.out) (fun hS => ?_)
        generalize w1.drew = X at *
        refine tk [0, 1, 2, 3] ?_
        repeat (refine tkH (oi := ⟨_, _, _, _, _, _⟩) (v := ?_) rfl (by kernel_rfl) (by rfl) (fun _ _ _ h => h) hS ?_ ?_; rotate_left; (· rintro W' ⟨z0, z1, z2, z3, z4, z5, z6, z7⟩; go_simp; try with_reducible rfl); try simp only [Act.put, putA, putZ, putS])
        refine tk0 ?_
        refine wpAnyH_ready (rs := [4]) (by kernel_rfl) (by simp) ?_
        refine AllReadyH.cons (o := ⟨some 12, _, _, _, _, _⟩) rfl (fun K hK => ?_) AllReadyH.nil
        go_simp
        refine (HG.out _ HAX.out.fr).mono ?_
        rintro _ X0 ⟨rfl, hb0⟩
        (try go_wp2_with fail)
        have HA0 := Lib.hid (HAX.out.below hb0)
        refine hK.out _ _ (HC1.out X0 HA0.out) (fun hS => ?_)
        clear hK K
        try simp only [Act.put, putA, putZ, putS]
        clear hb0
        refine tH 5 (oi := ⟨_, _, _, _, _, _⟩) (v := .bool false) rfl (by kernel_rfl) (by rfl) (fun _ _ _ h => h) hS ?_ ?_
        · rintro W' ⟨z0, z1, z2, z3, z4, z5, z6, z7⟩; go_simp; (try omega)
        try simp only [Act.put, putA, putZ, putS]
        refine tk [6, 7, 8, 9, 10, 11, 12] ?_
        repeat (refine tkH (oi := ⟨_, _, _, _, _, _⟩) (v := ?_) rfl (by kernel_rfl) (by rfl) (fun _ _ _ h => h) hS ?_ ?_; rotate_left; (· rintro W' ⟨z0, z1, z2, z3, z4, z5, z6, z7⟩; go_simp; try with_reducible rfl); try simp only [Act.put, putA, putZ, putS])
        refine tk0 ?_
        refine tH 13 (oi := ⟨_, _, _, _, _, _⟩) (v := .bool false) rfl (by kernel_rfl) (by rfl) (fun _ _ _ h => h) hS ?_ ?_
        · rintro W' ⟨z0, z1, z2, z3, z4, z5, z6, z7⟩; go_simp; (try omega)
        try simp only [Act.put, putA, putZ, putS]
        refine tk [14, 15, 16, 17, 18, 19, 20, 21] ?_
        repeat (refine tkH (oi := ⟨_, _, _, _, _, _⟩) (v := ?_) rfl (by kernel_rfl) (by rfl) (fun _ _ _ h => h) hS ?_ ?_; rotate_left; (· rintro W' ⟨z0, z1, z2, z3, z4, z5, z6, z7⟩; go_simp; try with_reducible rfl); try simp only [Act.put, putA, putZ, putS])
        refine tk0 ?_
        refine tH 22 (oi := ⟨_, _, _, _, _, _⟩) (v := .bool true) rfl (by kernel_rfl) (by rfl) (fun _ _ _ h => h) hS ?_ ?_
        · rintro W' ⟨z0, z1, z2, z3, z4, z5, z6, z7⟩; go_simp; (try omega)
        try simp only [Act.put, putA, putZ, putS]
        refine tk [23, 24] ?_
        repeat (refine tkH (oi := ⟨_, _, _, _, _, _⟩) (v := ?_) rfl (by kernel_rfl) (by rfl) (fun _ _ _ h => h) hS ?_ ?_; rotate_left; (· rintro W' ⟨z0, z1, z2, z3, z4, z5, z6, z7⟩; go_simp; try with_reducible rfl); try simp only [Act.put, putA, putZ, putS])
        refine tk0 ?_
        refine wpAnyH_take (i := 25) (oi := ⟨some 33, _, _, _, _, _⟩) (v := undef) rfl (by kernel_rfl) (by kernel_rfl) (by kernel_rfl) (fun _ _ _ h => h) (Or.inr ⟨by rfl, rfl⟩) hS ?_
        try simp only [Act.put, putA, putZ, putS]
        refine wpAnyH_take (i := 26) (oi := ⟨some 34, _, _, _, _, _⟩) (v := undef) rfl (by kernel_rfl) (by kernel_rfl) (by kernel_rfl) (fun _ _ _ h => h) (Or.inr ⟨by rfl, rfl⟩) hS ?_
        try simp only [Act.put, putA, putZ, putS]
        refine wpAnyH_take (i := 27) (oi := ⟨some 35, _, _, _, _, _⟩) (v := undef) rfl (by kernel_rfl) (by kernel_rfl) (by kernel_rfl) (fun _ _ _ h => h) (Or.inr ⟨by rfl, rfl⟩) hS ?_
        try simp only [Act.put, putA, putZ, putS]
        refine wpAnyH_take (i := 28) (oi := ⟨some 36, _, _, _, _, _⟩) (v := undef) rfl (by kernel_rfl) (by kernel_rfl) (by kernel_rfl) (fun _ _ _ h => h) (Or.inr ⟨by rfl, rfl⟩) hS ?_
        try simp only [Act.put, putA, putZ, putS]
        refine wpAnyH_take (i := 29) (oi := ⟨some 37, _, _, _, _, _⟩) (v := undef) rfl (by kernel_rfl) (by kernel_rfl) (by kernel_rfl) (fun _ _ _ h => h) (Or.inr ⟨by rfl, rfl⟩) hS ?_
        try simp only [Act.put, putA, putZ, putS]
        refine wpAnyH_take (i := 30) (oi := ⟨some 38, _, _, _, _, _⟩) (v := undef) rfl (by kernel_rfl) (by kernel_rfl) (by kernel_rfl) (fun _ _ _ h => h) (Or.inr ⟨by rfl, rfl⟩) hS ?_
        try simp only [Act.put, putA, putZ, putS]
        refine wpAnyH_take (i := 31) (oi := ⟨some 39, _, _, _, _, _⟩) (v := undef) rfl (by kernel_rfl) (by kernel_rfl) (by kernel_rfl) (fun _ _ _ h => h) (Or.inr ⟨by rfl, rfl⟩) hS ?_
        try simp only [Act.put, putA, putZ, putS]
        refine tH 32 (oi := ⟨_, _, _, _, _, _⟩) (v := ?_) rfl (by kernel_rfl) (by rfl) (fun _ _ _ h => h) hS ?_ ?_
        rotate_left
        · rintro W' ⟨z0, z1, z2, z3, z4, z5, z6, z7⟩; go_simp; try with_reducible rfl
        try simp only [Act.put, putA, putZ, putS]
        refine wpAnyH_done (by kernel_rfl) ?_ _
        go_wp2_with fail
        go_meet
        exact ⟨by have e1 := E1.out; have e2 := E2.out; simp [e1, e2, e3], HA0.out⟩
    have a3 : nd ≤ t.nb := by omega
    have b3 : t.nb ≤ nd := by omega
    have E3 := Lib.hid e3
    clear e3
    by_cases e4 : nm = t.nb
    case neg =>
      · refine wp_region_held_drew (S := fun X => X.cell? ⟨w.heap.size, 0, none⟩ = some (.slice uca t.nc ucc) ∧ X.cell? ⟨w.heap.size, 1, none⟩ = some (.slice uba t.nb ubc) ∧ X.cell? ⟨w.heap.size, 2, none⟩ = some (.slice ura t.nr urc) ∧ X.cell? ⟨w.heap.size, 3, none⟩ = some (.slice una t.nn unc) ∧ X.cell? ⟨w.heap.size + 1, 0, none⟩ = some (.slice fa nf fc) ∧ X.cell? ⟨w.heap.size + 1, 1, none⟩ = some (.slice ba nb bc) ∧ X.cell? ⟨w.heap.size + 1, 2, none⟩ = some (.slice da nd dc) ∧ X.cell? ⟨w.heap.size + 1, 3, none⟩ = some (.slice ma nm mc)) (by kernel_rfl) (HC1.out _ HAX.out) (fun hS => ?_)
        generalize w1.drew = X at *
        refine tk [0, 1, 2, 3] ?_
        repeat (refine tkH (oi := ⟨_, _, _, _, _, _⟩) (v := ?_) rfl (by kernel_rfl) (by rfl) (fun _ _ _ h => h) hS ?_ ?_; rotate_left; (· rintro W' ⟨z0, z1, z2, z3, z4, z5, z6, z7⟩; go_simp; try with_reducible rfl); try simp only [Act.put, putA, putZ, putS])
        refine tk0 ?_
        refine wpAnyH_ready (rs := [4]) (by kernel_rfl) (by simp) ?_
        refine AllReadyH.cons (o := ⟨some 12, _, _, _, _, _⟩) rfl (fun K hK => ?_) AllReadyH.nil
        go_simp
        refine (HG.out _ HAX.out.fr).mono ?_
        rintro _ X0 ⟨rfl, hb0⟩
        (try go_wp2_with fail)
        have HA0 := Lib.hid (HAX.out.below hb0)
        refine hK.out _ _ (HC1.out X0 HA0.out) (fun hS => ?_)
        clear hK K
        try simp only [Act.put, putA, putZ, putS]
        clear hb0
        refine tH 5 (oi := ⟨_, _, _, _, _, _⟩) (v := .bool false) rfl (by kernel_rfl) (by rfl) (fun _ _ _ h => h) hS ?_ ?_
        · rintro W' ⟨z0, z1, z2, z3, z4, z5, z6, z7⟩; go_simp; (try omega)
        try simp only [Act.put, putA, putZ, putS]
        refine tk [6, 7, 8, 9, 10, 11, 12] ?_
        repeat (refine tkH (oi := ⟨_, _, _, _, _, _⟩) (v := ?_) rfl (by kernel_rfl) (by rfl) (fun _ _ _ h => h) hS ?_ ?_; rotate_left; (· rintro W' ⟨z0, z1, z2, z3, z4, z5, z6, z7⟩; go_simp; try with_reducible rfl); try simp only [Act.put, putA, putZ, putS])
        refine tk0 ?_
        refine tH 13 (oi := ⟨_, _, _, _, _, _⟩) (v := .bool false) rfl (by kernel_rfl) (by rfl) (fun _ _ _ h => h) hS ?_ ?_
        · rintro W' ⟨z0, z1, z2, z3, z4, z5, z6, z7⟩; go_simp; (try omega)
        try simp only [Act.put, putA, putZ, putS]
        refine tk [14, 15, 16, 17, 18, 19, 20, 21] ?_
        repeat (refine tkH (oi := ⟨_, _, _, _, _, _⟩) (v := ?_) rfl (by kernel_rfl) (by rfl) (fun _ _ _ h => h) hS ?_ ?_; rotate_left; (· rintro W' ⟨z0, z1, z2, z3, z4, z5, z6, z7⟩; go_simp; try with_reducible rfl); try simp only [Act.put, putA, putZ, putS])
        refine tk0 ?_
        refine tH 22 (oi := ⟨_, _, _, _, _, _⟩) (v := .bool false) rfl (by kernel_rfl) (by rfl) (fun _ _ _ h => h) hS ?_ ?_
        · rintro W' ⟨z0, z1, z2, z3, z4, z5, z6, z7⟩; go_simp; (try omega)
        try simp only [Act.put, putA, putZ, putS]
        refine tk [23, 24, 25, 26, 27, 28, 29, 30] ?_
        repeat (refine tkH (oi := ⟨_, _, _, _, _, _⟩) (v := ?_) rfl (by kernel_rfl) (by rfl) (fun _ _ _ h => h) hS ?_ ?_; rotate_left; (· rintro W' ⟨z0, z1, z2, z3, z4, z5, z6, z7⟩; go_simp; try with_reducible rfl); try simp only [Act.put, putA, putZ, putS])
        refine tk0 ?_
        refine tH 31 (oi := ⟨_, _, _, _, _, _⟩) (v := .bool true) rfl (by kernel_rfl) (by rfl) (fun _ _ _ h => h) hS ?_ ?_
        · rintro W' ⟨z0, z1, z2, z3, z4, z5, z6, z7⟩; go_simp; (try omega)
        try simp only [Act.put, putA, putZ, putS]
        refine tH 32 (oi := ⟨_, _, _, _, _, _⟩) (v := ?_) rfl (by kernel_rfl) (by rfl) (fun _ _ _ h => h) hS ?_ ?_
        rotate_left
        · rintro W' ⟨z0, z1, z2, z3, z4, z5, z6, z7⟩; go_simp; try with_reducible rfl
        try simp only [Act.put, putA, putZ, putS]
        refine wpAnyH_done (by kernel_rfl) ?_ _
        go_wp2_with fail
        go_meet
        exact ⟨by have e1 := E1.out; have e2 := E2.out; have e3 := E3.out; simp [e1, e2, e3, e4], HA0.out⟩
    case pos =>
      · have a4 : nm ≤ t.nb := by omega
        have b4 : t.nb ≤ nm := by omega
        have E4 := Lib.hid e4
        clear e4
        refine wp_region_held_drew (S := fun X => X.cell? ⟨w.heap.size, 0, none⟩ = some (.slice uca t.nc ucc) ∧ X.cell? ⟨w.heap.size, 1, none⟩ = some (.slice uba t.nb ubc) ∧ X.cell? ⟨w.heap.size, 2, none⟩ = some (.slice ura t.nr urc) ∧ X.cell? ⟨w.heap.size, 3, none⟩ = some (.slice una t.nn unc) ∧ X.cell? ⟨w.heap.size + 1, 0, none⟩ = some (.slice fa nf fc) ∧ X.cell? ⟨w.heap.size + 1, 1, none⟩ = some (.slice ba nb bc) ∧ X.cell? ⟨w.heap.size + 1, 2, none⟩ = some (.slice da nd dc) ∧ X.cell? ⟨w.heap.size + 1, 3, none⟩ = some (.slice ma nm mc)) (by kernel_rfl) (HC1.out _ HAX.out) (fun hS => ?_)
        generalize w1.drew = X at *
        refine tk [0, 1, 2, 3] ?_
        repeat (refine tkH (oi := ⟨_, _, _, _, _, _⟩) (v := ?_) rfl (by kernel_rfl) (by rfl) (fun _ _ _ h => h) hS ?_ ?_; rotate_left; (· rintro W' ⟨z0, z1, z2, z3, z4, z5, z6, z7⟩; go_simp; try with_reducible rfl); try simp only [Act.put, putA, putZ, putS])
        refine tk0 ?_
        refine wpAnyH_ready (rs := [4]) (by kernel_rfl) (by simp) ?_
        refine AllReadyH.cons (o := ⟨some 12, _, _, _, _, _⟩) rfl (fun K hK => ?_) AllReadyH.nil
        go_simp
        refine (HG.out _ HAX.out.fr).mono ?_
        rintro _ X0 ⟨rfl, hb0⟩
        (try go_wp2_with fail)
        have HA0 := Lib.hid (HAX.out.below hb0)
        refine hK.out _ _ (HC1.out X0 HA0.out) (fun hS => ?_)
        clear hK K
        try simp only [Act.put, putA, putZ, putS]
        clear hb0
        refine tH 5 (oi := ⟨_, _, _, _, _, _⟩) (v := .bool false) rfl (by kernel_rfl) (by rfl) (fun _ _ _ h => h) hS ?_ ?_
        · rintro W' ⟨z0, z1, z2, z3, z4, z5, z6, z7⟩; go_simp; (try omega)
        try simp only [Act.put, putA, putZ, putS]
        refine tk [6, 7, 8, 9, 10, 11, 12] ?_
        repeat (refine tkH (oi := ⟨_, _, _, _, _, _⟩) (v := ?_) rfl (by kernel_rfl) (by rfl) (fun _ _ _ h => h) hS ?_ ?_; rotate_left; (· rintro W' ⟨z0, z1, z2, z3, z4, z5, z6, z7⟩; go_simp; try with_reducible rfl); try simp only [Act.put, putA, putZ, putS])
        refine tk0 ?_
        refine tH 13 (oi := ⟨_, _, _, _, _, _⟩) (v := .bool false) rfl (by kernel_rfl) (by rfl) (fun _ _ _ h => h) hS ?_ ?_
        · rintro W' ⟨z0, z1, z2, z3, z4, z5, z6, z7⟩; go_simp; (try omega)
        try simp only [Act.put, putA, putZ, putS]
        refine tk [14, 15, 16, 17, 18, 19, 20, 21] ?_
        repeat (refine tkH (oi := ⟨_, _, _, _, _, _⟩) (v := ?_) rfl (by kernel_rfl) (by rfl) (fun _ _ _ h => h) hS ?_ ?_; rotate_left; (· rintro W' ⟨z0, z1, z2, z3, z4, z5, z6, z7⟩; go_simp; try with_reducible rfl); try simp only [Act.put, putA, putZ, putS])
        refine tk0 ?_
        refine tH 22 (oi := ⟨_, _, _, _, _, _⟩) (v := .bool false) rfl (by kernel_rfl) (by rfl) (fun _ _ _ h => h) hS ?_ ?_
        · rintro W' ⟨z0, z1, z2, z3, z4, z5, z6, z7⟩; go_simp; (try omega)
        try simp only [Act.put, putA, putZ, putS]
        refine tk [23, 24, 25, 26, 27, 28, 29, 30] ?_
        repeat (refine tkH (oi := ⟨_, _, _, _, _, _⟩) (v := ?_) rfl (by kernel_rfl) (by rfl) (fun _ _ _ h => h) hS ?_ ?_; rotate_left; (· rintro W' ⟨z0, z1, z2, z3, z4, z5, z6, z7⟩; go_simp; try with_reducible rfl); try simp only [Act.put, putA, putZ, putS])
        refine tk0 ?_
        refine tH 31 (oi := ⟨_, _, _, _, _, _⟩) (v := .bool false) rfl (by kernel_rfl) (by rfl) (fun _ _ _ h => h) hS ?_ ?_
        · rintro W' ⟨z0, z1, z2, z3, z4, z5, z6, z7⟩; go_simp; (try omega)
        try simp only [Act.put, putA, putZ, putS]
        refine tH 32 (oi := ⟨_, _, _, _, _, _⟩) (v := ?_) rfl (by kernel_rfl) (by rfl) (fun _ _ _ h => h) hS ?_ ?_
        rotate_left
        · rintro W' ⟨z0, z1, z2, z3, z4, z5, z6, z7⟩; go_simp; try with_reducible rfl
        try simp only [Act.put, putA, putZ, putS]
        refine wpAnyH_done (by kernel_rfl) ?_ _
        go_wp2_with fail
        go_meet
        exact ⟨by have e1 := E1.out; have e2 := E2.out; have e3 := E3.out; have e4 := E4.out; simp [e1, e2, e3, e4], HA0.out⟩
  rename World => w2
  obtain ⟨rfl, hbf⟩ := hcut
  have HA2 := Lib.hid hbf
  clear hbf HA0
  by_cases hE : nf = t.ng ∧ nb = t.nb ∧ nd = t.nb ∧ nm = t.nb
  case neg =>
    have hF : (!(decide (nf = t.ng) && (decide (nb = t.nb) && (decide (nd = t.nb) && decide (nm = t.nb))))) = true := by
      simp only [Bool.not_eq_true', Bool.and_eq_false_iff, decide_eq_false_iff_not]; omega
    have HR : Hid (t.isTr ⟨nf, xf, nb, xb, nd, dl, xd, nm, ml, xm⟩ = false) := by
      show Tb.isTr _ _ = false
      unfold Tb.isTr
      simp only [Bool.and_eq_false_iff, decide_eq_false_iff_not]
      by_cases e1 : nf = t.ng
      · by_cases e2 : nb = t.nb
        · by_cases e3 : nd = t.nb
          · by_cases e4 : nm = t.nb
            · exact absurd ⟨e1, e2, e3, e4⟩ hE
            · exact .inr (.inr (.inr (.inr (.inl e4))))
          · exact .inr (.inr (.inr (.inl e3)))
        · exact .inr (.inr (.inl e2))
      · exact .inl e1
    rw [hF]
    clear hF hE
    go_wp2_with fail
    go_ret
    exact ⟨ret_bool HR.out.symm, HA2.out.fr⟩
  obtain ⟨rfl, rfl, h3, h4⟩ := hE
  subst h3; subst h4
  have hF : (!(decide (t.ng = t.ng) && (decide (t.nb = t.nb) && (decide (t.nb = t.nb) && decide (t.nb = t.nb))))) = false := by simp
  rw [hF]
  clear hF
  have HRES : Hid (t.isTr ⟨t.ng, xf, t.nb, xb, t.nb, dl, xd, t.nb, ml, xm⟩ = (allB (fun g => countB (xf g)) t.ng && allB (trRow t ⟨t.ng, xf, t.nb, xb, t.nb, dl, xd, t.nb, ml, xm⟩) t.nb)) := by
    show Tb.isTr _ _ = _
    unfold Tb.isTr
    simp
  go_wp2_with fail
  go_loopw [5] (fun i wr => ∃ k : Nat, k ≤ t.ng ∧ i = .int .i64 k ∧ BF w wr [(w.heap.size, #[.slice uca t.nc ucc, .slice uba t.nb ubc, .slice ura t.nr urc, .slice una t.nn unc], 25), (w.heap.size + 1, #[.slice fa t.ng fc, .slice ba t.nb bc, .slice da t.nb dc, .slice ma t.nb mc], 75)] ∧ ∀ q, q < k → countB (xf q) = true) (fun i _ => t.ng - (intOf i).toNat)
  case atStart => exact ⟨0, Nat.zero_le _, rfl, HA2.out, fun _ h => absurd h (Nat.not_lt_zero _)⟩
  case round =>
    obtain ⟨k, hk, rfl, hbf, hall⟩ := hrel
    rename World => wx
    have HA := Lib.hid hbf; have HQ := Lib.hid hall
    clear hbf hall HA2
    have ki : (0 : Int) ≤ (k : Int) := by omega
    have c0 := HA.out.cell (.tail _ (.head _)) 0
    by_cases hlt : k < t.ng
    · as_aux_lemma =>
      have kj : (k : Int) < (t.ng : Int) := by omega
      obtain ⟨fb, fo, rfl, hfb, y1⟩ := HXL.out.1.at (k := k) hlt
      simp only at y1
      obtain ⟨fk, HFK⟩ : ∃ fk, Hid (xf k = fk) := ⟨_, rfl⟩
      rw [HFK.out] at y1
      have r1 := kept HA.out.fr hfb y1
      clear y1 hfb
      cases hc : inB fk 0 500
      · go_wp2_with (go_at_call 22; refine (rIn_any _ _ _ _).mono ?_; rw [hc]; rintro _ _ ⟨rfl, rfl⟩)
        go_ret
        exact ⟨ret_bool (by rw [HRES.out, allB_false (k := k) hlt (by unfold countB; rw [HFK.out]; exact hc)]; rfl), HA.out.fr⟩
      · go_wp2_with (go_at_call 22; refine (rIn_any _ _ _ _).mono ?_; rw [hc]; rintro _ _ ⟨rfl, rfl⟩)
        go_roundw
        case rel => exact ⟨k + 1, by omega, by go_num, HA.out, fun q hq => by
          rcases Nat.lt_succ_iff_lt_or_eq.1 hq with h | rfl
          · exact HQ.out q h
          · unfold countB; rw [HFK.out]; exact hc⟩
        case measure => simp [intOf]; omega
    · obtain rfl : k = t.ng := by omega
      have HAL : Hid (allB (fun g => countB (xf g)) t.ng = true) := allB_true (fun q hq => HQ.out q hq)
      have HR2 : Hid (t.isTr ⟨t.ng, xf, t.nb, xb, t.nb, dl, xd, t.nb, ml, xm⟩ = allB (trRow t ⟨t.ng, xf, t.nb, xb, t.nb, dl, xd, t.nb, ml, xm⟩) t.nb) := by
        rw [Hid, HRES.out, HAL.out]; rfl
      go_wp2_with fail
      clear c0 HQ HRES HAL
      go_loopw [6] (fun i wr => ∃ k : Nat, k ≤ t.nb ∧ i = .int .i64 k ∧ BF w wr [(w.heap.size, #[.slice uca t.nc ucc, .slice uba t.nb ubc, .slice ura t.nr urc, .slice una t.nn unc], 25), (w.heap.size + 1, #[.slice fa t.ng fc, .slice ba t.nb bc, .slice da t.nb dc, .slice ma t.nb mc], 75)] ∧ ∀ q, q < k → trRow t ⟨t.ng, xf, t.nb, xb, t.nb, dl, xd, t.nb, ml, xm⟩ q = true) (fun i _ => t.nb - (intOf i).toNat)
      case atStart => exact ⟨0, Nat.zero_le _, rfl, HA.out, fun _ h => absurd h (Nat.not_lt_zero _)⟩
      case round =>
        obtain ⟨k, hk, rfl, hbf, hall⟩ := hrel
        rename World => wy
        clear HA
        have HA := Lib.hid hbf; have HQ := Lib.hid hall
        clear hbf hall
        have ki : (0 : Int) ≤ (k : Int) := by omega
        have c1 := HA.out.cell (.head _) 1
        by_cases hlt : k < t.nb
        · as_aux_lemma =>
          have kj : (k : Int) < (t.nb : Int) := by omega
          obtain ⟨b1, o1, rfl, hb1, p1, p2⟩ := HL.out.2.1.at hlt
          obtain ⟨bb, bo, rfl, hbb, y1⟩ := HXL.out.2.1.at (k := k) hlt
          obtain ⟨db, d0, dra, drc, rfl, hdb, y2, _⟩ := HXL.out.2.2.1.at (k := k) hlt
          obtain ⟨mb, mo, mra, mrc, rfl, hmb, y3, hmr⟩ := HXL.out.2.2.2.at (k := k) hlt
          simp only at y1 y2 y3 hmr
          have HMR := Lib.hid hmr
          obtain ⟨q1, q2, HPQ⟩ : ∃ q1 q2, Hid (t.b k = (q1, q2)) := ⟨_, _, rfl⟩
          obtain ⟨bk, HBK⟩ : ∃ bk, Hid (xb k = bk) := ⟨_, rfl⟩
          obtain ⟨dk, HDK⟩ : ∃ dk, Hid (dl k = dk) := ⟨_, rfl⟩
          obtain ⟨mk, HMK⟩ : ∃ mk, Hid (ml k = mk) := ⟨_, rfl⟩
          rw [HPQ.out] at p1 p2
          rw [HBK.out] at y1
          rw [HDK.out] at y2
          rw [HMK.out] at y3 HMR
          simp only at p1 p2
          have sdk : dk ≤ 100000 := by rw [← HDK.out]; exact HSM.out.dl k hlt
          have smk : mk ≤ 100000 := by rw [← HMK.out]; exact HSM.out.ml k hlt
          have HMC : Hid (∀ X, Below w.heap.size w X → X.cell? ⟨mb, mo + k, none⟩ = some (.slice mra mk mrc)) := fun X hX => kept hX hmb y3
          have HC11 : Hid (∀ X, BF w X [(w.heap.size, #[.slice uca t.nc ucc, .slice (some ⟨b1, o1, none⟩) t.nb ubc, .slice ura t.nr urc, .slice una t.nn unc], 25), (w.heap.size + 1, #[.slice fa t.ng fc, .slice (some ⟨bb, bo, none⟩) t.nb bc, .slice (some ⟨db, d0, none⟩) t.nb dc, .slice (some ⟨mb, mo, none⟩) t.nb mc], 75)] → (X.cell? ⟨w.heap.size, 0, none⟩ = some (.slice uca t.nc ucc) ∧ X.cell? ⟨w.heap.size, 1, none⟩ = some (.slice (some ⟨b1, o1, none⟩) t.nb ubc) ∧ X.cell? ⟨w.heap.size, 2, none⟩ = some (.slice ura t.nr urc) ∧ X.cell? ⟨w.heap.size, 3, none⟩ = some (.slice una t.nn unc) ∧ X.cell? ⟨w.heap.size + 1, 0, none⟩ = some (.slice fa t.ng fc) ∧ X.cell? ⟨w.heap.size + 1, 1, none⟩ = some (.slice (some ⟨bb, bo, none⟩) t.nb bc) ∧ X.cell? ⟨w.heap.size + 1, 2, none⟩ = some (.slice (some ⟨db, d0, none⟩) t.nb dc) ∧ X.cell? ⟨w.heap.size + 1, 3, none⟩ = some (.slice (some ⟨mb, mo, none⟩) t.nb mc) ∧ X.cell? ⟨bb, bo + k, none⟩ = some (.int .i64 bk) ∧ X.cell? ⟨b1, o1 + k * 2, none⟩ = some (.int .i64 q1) ∧ X.cell? ⟨b1, o1 + k * 2 + 1, none⟩ = some (.int .i64 q2) ∧ X.cell? ⟨db, d0 + k, none⟩ = some (.slice dra dk drc) ∧ X.cell? ⟨mb, mo + k, none⟩ = some (.slice mra mk mrc))) := fun X h => ⟨h.cell (.head _) 0, h.cell (.head _) 1, h.cell (.head _) 2, h.cell (.head _) 3, h.cell (.tail _ (.head _)) 0, h.cell (.tail _ (.head _)) 1, h.cell (.tail _ (.head _)) 2, h.cell (.tail _ (.head _)) 3, kept h.fr hbb y1, kept h.fr hb1 p1, kept h.fr hb1 p2, kept h.fr hdb y2, kept h.fr hmb y3⟩
          clear p1 p2 y1 y2 y3 hbb hdb hmb hb1 hmr
          obtain ⟨hh, HH⟩ : ∃ hh, Hid (inB bk q1 q2 = hh) := ⟨_, rfl⟩
          have HROW : Hid (trRow t ⟨t.ng, xf, t.nb, xb, t.nb, dl, xd, t.nb, ml, xm⟩ k = (hh && (decide (dk = t.ng + 1) && (decide (mk = t.ng) && allB (fun g => inB (xm k g) (t.n g).1 (t.n g).2) t.ng)))) := by
            show (inB (xb k) (t.b k).1 (t.b k).2 && (decide (dl k = t.ng + 1) && (decide (ml k = t.ng) && allB (fun g => inB (xm k g) (t.n g).1 (t.n g).2) t.ng))) = _
            rw [HPQ.out, HBK.out, HDK.out, HMK.out, HH.out]
          go_wp2_with fail
          clear c1
          have HAX := Lib.hid (HA.out.below (Below.refl _ wy).drew)
          go_cut [103] (fun s103 wz => s103 = .bool (!(hh && (decide (dk = t.ng + 1) && decide (mk = t.ng)))) ∧ BF w wz [(w.heap.size, #[.slice uca t.nc ucc, .slice (some ⟨b1, o1, none⟩) t.nb ubc, .slice ura t.nr urc, .slice una t.nn unc], 25), (w.heap.size + 1, #[.slice fa t.ng fc, .slice (some ⟨bb, bo, none⟩) t.nb bc, .slice (some ⟨db, d0, none⟩) t.nb dc, .slice (some ⟨mb, mo, none⟩) t.nb mc], 75)])
          case first => as_aux_lemma =>
            cases hh
            · refine wp_region_held_drew (S := fun X => X.cell? ⟨w.heap.size, 0, none⟩ = some (.slice uca t.nc ucc) ∧ X.cell? ⟨w.heap.size, 1, none⟩ = some (.slice (some ⟨b1, o1, none⟩) t.nb ubc) ∧ X.cell? ⟨w.heap.size, 2, none⟩ = some (.slice ura t.nr urc) ∧ X.cell? ⟨w.heap.size, 3, none⟩ = some (.slice una t.nn unc) ∧ X.cell? ⟨w.heap.size + 1, 0, none⟩ = some (.slice fa t.ng fc) ∧ X.cell? ⟨w.heap.size + 1, 1, none⟩ = some (.slice (some ⟨bb, bo, none⟩) t.nb bc) ∧ X.cell? ⟨w.heap.size + 1, 2, none⟩ = some (.slice (some ⟨db, d0, none⟩) t.nb dc) ∧ X.cell? ⟨w.heap.size + 1, 3, none⟩ = some (.slice (some ⟨mb, mo, none⟩) t.nb mc) ∧ X.cell? ⟨bb, bo + k, none⟩ = some (.int .i64 bk) ∧ X.cell? ⟨b1, o1 + k * 2, none⟩ = some (.int .i64 q1) ∧ X.cell? ⟨b1, o1 + k * 2 + 1, none⟩ = some (.int .i64 q2) ∧ X.cell? ⟨db, d0 + k, none⟩ = some (.slice dra dk drc) ∧ X.cell? ⟨mb, mo + k, none⟩ = some (.slice mra mk mrc)) (by kernel_rfl) (HC11.out _ HAX.out) (fun hS => ?_)
              generalize wy.drew = X at *
              refine tk [0, 1, 2, 3, 4, 5, 6, 7, 8, 9, 10, 11, 12, 13, 14, 15, 16] ?_
              repeat (refine tkH (oi := ⟨_, _, _, _, _, _⟩) (v := ?_) rfl (by kernel_rfl) (by rfl) (fun _ _ _ h => h) hS ?_ ?_; rotate_left; (· rintro W' ⟨z0, z1, z2, z3, z4, z5, z6, z7, z8, z9, z10, z11, z12⟩; go_simp; try with_reducible rfl); try simp only [Act.put, putA, putZ, putS])
              refine tk0 ?_
              refine wpAnyH_ready (rs := [17]) (by kernel_rfl) (by simp) ?_
              refine AllReadyH.cons (o := ⟨some 79, _, _, _, _, _⟩) rfl (fun K hK => ?_) AllReadyH.nil
              go_simp
              refine (rIn_any bk q1 q2 _).mono ?_
              rw [HH.out]
              rintro _ _ ⟨rfl, rfl⟩
              (try go_wp2_with fail)
              refine hK.out _ _ (HC11.out X HAX.out) (fun hS => ?_)
              clear hK K
              try simp only [Act.put, putA, putZ, putS]
              refine tk [18, 19] ?_
              repeat (refine tkH (oi := ⟨_, _, _, _, _, _⟩) (v := ?_) rfl (by kernel_rfl) (by rfl) (fun _ _ _ h => h) hS ?_ ?_; rotate_left; (· rintro W' ⟨z0, z1, z2, z3, z4, z5, z6, z7, z8, z9, z10, z11, z12⟩; go_simp; try with_reducible rfl); try simp only [Act.put, putA, putZ, putS])
              refine tk0 ?_
              refine wpAnyH_take (i := 20) (oi := ⟨some 82, _, _, _, _, _⟩) (v := undef) rfl (by kernel_rfl) (by kernel_rfl) (by kernel_rfl) (fun _ _ _ h => h) (Or.inr ⟨by rfl, rfl⟩) hS ?_
              try simp only [Act.put, putA, putZ, putS]
              refine wpAnyH_take (i := 21) (oi := ⟨some 83, _, _, _, _, _⟩) (v := undef) rfl (by kernel_rfl) (by kernel_rfl) (by kernel_rfl) (fun _ _ _ h => h) (Or.inr ⟨by rfl, rfl⟩) hS ?_
              try simp only [Act.put, putA, putZ, putS]
              refine wpAnyH_take (i := 22) (oi := ⟨some 84, _, _, _, _, _⟩) (v := undef) rfl (by kernel_rfl) (by kernel_rfl) (by kernel_rfl) (fun _ _ _ h => h) (Or.inr ⟨by rfl, rfl⟩) hS ?_
              try simp only [Act.put, putA, putZ, putS]
              refine wpAnyH_take (i := 23) (oi := ⟨some 85, _, _, _, _, _⟩) (v := undef) rfl (by kernel_rfl) (by kernel_rfl) (by kernel_rfl) (fun _ _ _ h => h) (Or.inr ⟨by rfl, rfl⟩) hS ?_
              try simp only [Act.put, putA, putZ, putS]
              refine wpAnyH_take (i := 24) (oi := ⟨some 86, _, _, _, _, _⟩) (v := undef) rfl (by kernel_rfl) (by kernel_rfl) (by kernel_rfl) (fun _ _ _ h => h) (Or.inr ⟨by rfl, rfl⟩) hS ?_
              try simp only [Act.put, putA, putZ, putS]
              refine wpAnyH_take (i := 25) (oi := ⟨some 87, _, _, _, _, _⟩) (v := undef) rfl (by kernel_rfl) (by kernel_rfl) (by kernel_rfl) (fun _ _ _ h => h) (Or.inr ⟨by rfl, rfl⟩) hS ?_
              try simp only [Act.put, putA, putZ, putS]
              refine wpAnyH_take (i := 26) (oi := ⟨some 88, _, _, _, _, _⟩) (v := undef) rfl (by kernel_rfl) (by kernel_rfl) (by kernel_rfl) (fun _ _ _ h => h) (Or.inr ⟨by rfl, rfl⟩) hS ?_
              try simp only [Act.put, putA, putZ, putS]
              refine wpAnyH_take (i := 27) (oi := ⟨some 89, _, _, _, _, _⟩) (v := undef) rfl (by kernel_rfl) (by kernel_rfl) (by kernel_rfl) (fun _ _ _ h => h) (Or.inr ⟨by rfl, rfl⟩) hS ?_
              try simp only [Act.put, putA, putZ, putS]
              refine wpAnyH_take (i := 28) (oi := ⟨some 90, _, _, _, _, _⟩) (v := undef) rfl (by kernel_rfl) (by kernel_rfl) (by kernel_rfl) (fun _ _ _ h => h) (Or.inr ⟨by rfl, rfl⟩) hS ?_
              try simp only [Act.put, putA, putZ, putS]
              refine wpAnyH_take (i := 29) (oi := ⟨some 91, _, _, _, _, _⟩) (v := undef) rfl (by kernel_rfl) (by kernel_rfl) (by kernel_rfl) (fun _ _ _ h => h) (Or.inr ⟨by rfl, rfl⟩) hS ?_
              try simp only [Act.put, putA, putZ, putS]
              refine tk [30, 31] ?_
              repeat (refine tkH (oi := ⟨_, _, _, _, _, _⟩) (v := ?_) rfl (by kernel_rfl) (by rfl) (fun _ _ _ h => h) hS ?_ ?_; rotate_left; (· rintro W' ⟨z0, z1, z2, z3, z4, z5, z6, z7, z8, z9, z10, z11, z12⟩; go_simp; try with_reducible rfl); try simp only [Act.put, putA, putZ, putS])
              refine tk0 ?_
              refine wpAnyH_take (i := 32) (oi := ⟨some 94, _, _, _, _, _⟩) (v := undef) rfl (by kernel_rfl) (by kernel_rfl) (by kernel_rfl) (fun _ _ _ h => h) (Or.inr ⟨by rfl, rfl⟩) hS ?_
              try simp only [Act.put, putA, putZ, putS]
              refine wpAnyH_take (i := 33) (oi := ⟨some 95, _, _, _, _, _⟩) (v := undef) rfl (by kernel_rfl) (by kernel_rfl) (by kernel_rfl) (fun _ _ _ h => h) (Or.inr ⟨by rfl, rfl⟩) hS ?_
              try simp only [Act.put, putA, putZ, putS]
              refine wpAnyH_take (i := 34) (oi := ⟨some 96, _, _, _, _, _⟩) (v := undef) rfl (by kernel_rfl) (by kernel_rfl) (by kernel_rfl) (fun _ _ _ h => h) (Or.inr ⟨by rfl, rfl⟩) hS ?_
              try simp only [Act.put, putA, putZ, putS]
              refine wpAnyH_take (i := 35) (oi := ⟨some 97, _, _, _, _, _⟩) (v := undef) rfl (by kernel_rfl) (by kernel_rfl) (by kernel_rfl) (fun _ _ _ h => h) (Or.inr ⟨by rfl, rfl⟩) hS ?_
              try simp only [Act.put, putA, putZ, putS]
              refine wpAnyH_take (i := 36) (oi := ⟨some 98, _, _, _, _, _⟩) (v := undef) rfl (by kernel_rfl) (by kernel_rfl) (by kernel_rfl) (fun _ _ _ h => h) (Or.inr ⟨by rfl, rfl⟩) hS ?_
              try simp only [Act.put, putA, putZ, putS]
              refine wpAnyH_take (i := 37) (oi := ⟨some 99, _, _, _, _, _⟩) (v := undef) rfl (by kernel_rfl) (by kernel_rfl) (by kernel_rfl) (fun _ _ _ h => h) (Or.inr ⟨by rfl, rfl⟩) hS ?_
              try simp only [Act.put, putA, putZ, putS]
              refine wpAnyH_take (i := 38) (oi := ⟨some 100, _, _, _, _, _⟩) (v := undef) rfl (by kernel_rfl) (by kernel_rfl) (by kernel_rfl) (fun _ _ _ h => h) (Or.inr ⟨by rfl, rfl⟩) hS ?_
              try simp only [Act.put, putA, putZ, putS]
              refine wpAnyH_take (i := 39) (oi := ⟨some 101, _, _, _, _, _⟩) (v := undef) rfl (by kernel_rfl) (by kernel_rfl) (by kernel_rfl) (fun _ _ _ h => h) (Or.inr ⟨by rfl, rfl⟩) hS ?_
              try simp only [Act.put, putA, putZ, putS]
              refine wpAnyH_take (i := 40) (oi := ⟨some 102, _, _, _, _, _⟩) (v := undef) rfl (by kernel_rfl) (by kernel_rfl) (by kernel_rfl) (fun _ _ _ h => h) (Or.inr ⟨by rfl, rfl⟩) hS ?_
              try simp only [Act.put, putA, putZ, putS]
              refine tH 41 (oi := ⟨_, _, _, _, _, _⟩) (v := ?_) rfl (by kernel_rfl) (by rfl) (fun _ _ _ h => h) hS ?_ ?_
              rotate_left
              · rintro W' ⟨z0, z1, z2, z3, z4, z5, z6, z7, z8, z9, z10, z11, z12⟩; go_simp; try with_reducible rfl
              try simp only [Act.put, putA, putZ, putS]
              refine wpAnyH_done (by kernel_rfl) ?_ _
              go_wp2_with fail
              go_meet
              exact ⟨by simp, HAX.out⟩
            by_cases e1 : dk = t.ng + 1
            · by_cases e2 : mk = t.ng
              · refine wp_region_held_drew (S := fun X => X.cell? ⟨w.heap.size, 0, none⟩ = some (.slice uca t.nc ucc) ∧ X.cell? ⟨w.heap.size, 1, none⟩ = some (.slice (some ⟨b1, o1, none⟩) t.nb ubc) ∧ X.cell? ⟨w.heap.size, 2, none⟩ = some (.slice ura t.nr urc) ∧ X.cell? ⟨w.heap.size, 3, none⟩ = some (.slice una t.nn unc) ∧ X.cell? ⟨w.heap.size + 1, 0, none⟩ = some (.slice fa t.ng fc) ∧ X.cell? ⟨w.heap.size + 1, 1, none⟩ = some (.slice (some ⟨bb, bo, none⟩) t.nb bc) ∧ X.cell? ⟨w.heap.size + 1, 2, none⟩ = some (.slice (some ⟨db, d0, none⟩) t.nb dc) ∧ X.cell? ⟨w.heap.size + 1, 3, none⟩ = some (.slice (some ⟨mb, mo, none⟩) t.nb mc) ∧ X.cell? ⟨bb, bo + k, none⟩ = some (.int .i64 bk) ∧ X.cell? ⟨b1, o1 + k * 2, none⟩ = some (.int .i64 q1) ∧ X.cell? ⟨b1, o1 + k * 2 + 1, none⟩ = some (.int .i64 q2) ∧ X.cell? ⟨db, d0 + k, none⟩ = some (.slice dra dk drc) ∧ X.cell? ⟨mb, mo + k, none⟩ = some (.slice mra mk mrc)) (by kernel_rfl) (HC11.out _ HAX.out) (fun hS => ?_)
                generalize wy.drew = X at *
                refine tk [0, 1, 2, 3, 4, 5, 6, 7, 8, 9, 10, 11, 12, 13, 14, 15, 16] ?_
                repeat (refine tkH (oi := ⟨_, _, _, _, _, _⟩) (v := ?_) rfl (by kernel_rfl) (by rfl) (fun _ _ _ h => h) hS ?_ ?_; rotate_left; (· rintro W' ⟨z0, z1, z2, z3, z4, z5, z6, z7, z8, z9, z10, z11, z12⟩; go_simp; try with_reducible rfl); try simp only [Act.put, putA, putZ, putS])
                refine tk0 ?_
                refine wpAnyH_ready (rs := [17]) (by kernel_rfl) (by simp) ?_
                refine AllReadyH.cons (o := ⟨some 79, _, _, _, _, _⟩) rfl (fun K hK => ?_) AllReadyH.nil
                go_simp
                refine (rIn_any bk q1 q2 _).mono ?_
                rw [HH.out]
                rintro _ _ ⟨rfl, rfl⟩
                (try go_wp2_with fail)
                refine hK.out _ _ (HC11.out X HAX.out) (fun hS => ?_)
                clear hK K
                try simp only [Act.put, putA, putZ, putS]
                refine tk [18, 19, 20, 21, 22, 23, 24, 25, 26] ?_
                repeat (refine tkH (oi := ⟨_, _, _, _, _, _⟩) (v := ?_) rfl (by kernel_rfl) (by rfl) (fun _ _ _ h => h) hS ?_ ?_; rotate_left; (· rintro W' ⟨z0, z1, z2, z3, z4, z5, z6, z7, z8, z9, z10, z11, z12⟩; go_simp; try with_reducible rfl); try simp only [Act.put, putA, putZ, putS])
                refine tk0 ?_
                refine wpAnyH_ready (rs := [27]) (by kernel_rfl) (by simp) ?_
                refine AllReadyH.cons (o := ⟨some 89, _, _, _, _, _⟩) rfl (fun K hK => ?_) AllReadyH.nil
                go_simp
                refine (HG.out _ HAX.out.fr).mono ?_
                rintro _ X1 ⟨rfl, hb1⟩
                (try go_wp2_with fail)
                have HA1 := Lib.hid (HAX.out.below hb1)
                refine hK.out _ _ (HC11.out X1 HA1.out) (fun hS => ?_)
                clear hK K
                try simp only [Act.put, putA, putZ, putS]
                clear hb1
                refine tH 28 (oi := ⟨_, _, _, _, _, _⟩) (v := ?_) rfl (by kernel_rfl) (by rfl) (fun _ _ _ h => h) hS ?_ ?_
                rotate_left
                · rintro W' ⟨z0, z1, z2, z3, z4, z5, z6, z7, z8, z9, z10, z11, z12⟩; go_simp; try with_reducible rfl
                try simp only [Act.put, putA, putZ, putS]
                refine tH 29 (oi := ⟨_, _, _, _, _, _⟩) (v := .bool false) rfl (by kernel_rfl) (by rfl) (fun _ _ _ h => h) hS ?_ ?_
                · rintro W' ⟨z0, z1, z2, z3, z4, z5, z6, z7, z8, z9, z10, z11, z12⟩; go_simp; (try omega)
                try simp only [Act.put, putA, putZ, putS]
                refine tk [30, 31, 32, 33, 34, 35, 36, 37, 38] ?_
                repeat (refine tkH (oi := ⟨_, _, _, _, _, _⟩) (v := ?_) rfl (by kernel_rfl) (by rfl) (fun _ _ _ h => h) hS ?_ ?_; rotate_left; (· rintro W' ⟨z0, z1, z2, z3, z4, z5, z6, z7, z8, z9, z10, z11, z12⟩; go_simp; try with_reducible rfl); try simp only [Act.put, putA, putZ, putS])
                refine tk0 ?_
                refine wpAnyH_ready (rs := [39]) (by kernel_rfl) (by simp) ?_
                refine AllReadyH.cons (o := ⟨some 101, _, _, _, _, _⟩) rfl (fun K hK => ?_) AllReadyH.nil
                go_simp
                refine (HG.out _ HA1.out.fr).mono ?_
                rintro _ X2 ⟨rfl, hb2⟩
                (try go_wp2_with fail)
                have HA2 := Lib.hid (HA1.out.below hb2)
                refine hK.out _ _ (HC11.out X2 HA2.out) (fun hS => ?_)
                clear hK K
                try simp only [Act.put, putA, putZ, putS]
                clear hb2
                refine tH 40 (oi := ⟨_, _, _, _, _, _⟩) (v := .bool false) rfl (by kernel_rfl) (by rfl) (fun _ _ _ h => h) hS ?_ ?_
                · rintro W' ⟨z0, z1, z2, z3, z4, z5, z6, z7, z8, z9, z10, z11, z12⟩; go_simp; (try omega)
                try simp only [Act.put, putA, putZ, putS]
                refine tH 41 (oi := ⟨_, _, _, _, _, _⟩) (v := ?_) rfl (by kernel_rfl) (by rfl) (fun _ _ _ h => h) hS ?_ ?_
                rotate_left
                · rintro W' ⟨z0, z1, z2, z3, z4, z5, z6, z7, z8, z9, z10, z11, z12⟩; go_simp; try with_reducible rfl
                try simp only [Act.put, putA, putZ, putS]
                refine wpAnyH_done (by kernel_rfl) ?_ _
                go_wp2_with fail
                go_meet
                exact ⟨by rw [decide_eq_true e1, decide_eq_true e2]; simp, HA2.out⟩
              · refine wp_region_held_drew (S := fun X => X.cell? ⟨w.heap.size, 0, none⟩ = some (.slice uca t.nc ucc) ∧ X.cell? ⟨w.heap.size, 1, none⟩ = some (.slice (some ⟨b1, o1, none⟩) t.nb ubc) ∧ X.cell? ⟨w.heap.size, 2, none⟩ = some (.slice ura t.nr urc) ∧ X.cell? ⟨w.heap.size, 3, none⟩ = some (.slice una t.nn unc) ∧ X.cell? ⟨w.heap.size + 1, 0, none⟩ = some (.slice fa t.ng fc) ∧ X.cell? ⟨w.heap.size + 1, 1, none⟩ = some (.slice (some ⟨bb, bo, none⟩) t.nb bc) ∧ X.cell? ⟨w.heap.size + 1, 2, none⟩ = some (.slice (some ⟨db, d0, none⟩) t.nb dc) ∧ X.cell? ⟨w.heap.size + 1, 3, none⟩ = some (.slice (some ⟨mb, mo, none⟩) t.nb mc) ∧ X.cell? ⟨bb, bo + k, none⟩ = some (.int .i64 bk) ∧ X.cell? ⟨b1, o1 + k * 2, none⟩ = some (.int .i64 q1) ∧ X.cell? ⟨b1, o1 + k * 2 + 1, none⟩ = some (.int .i64 q2) ∧ X.cell? ⟨db, d0 + k, none⟩ = some (.slice dra dk drc) ∧ X.cell? ⟨mb, mo + k, none⟩ = some (.slice mra mk mrc)) (by kernel_rfl) (HC11.out _ HAX.out) (fun hS => ?_)
                generalize wy.drew = X at *
                refine tk [0, 1, 2, 3, 4, 5, 6, 7, 8, 9, 10, 11, 12, 13, 14, 15, 16] ?_
                repeat (refine tkH (oi := ⟨_, _, _, _, _, _⟩) (v := ?_) rfl (by kernel_rfl) (by rfl) (fun _ _ _ h => h) hS ?_ ?_; rotate_left; (· rintro W' ⟨z0, z1, z2, z3, z4, z5, z6, z7, z8, z9, z10, z11, z12⟩; go_simp; try with_reducible rfl); try simp only [Act.put, putA, putZ, putS])
                refine tk0 ?_
                refine wpAnyH_ready (rs := [17]) (by kernel_rfl) (by simp) ?_
                refine AllReadyH.cons (o := ⟨some 79, _, _, _, _, _⟩) rfl (fun K hK => ?_) AllReadyH.nil
                go_simp
                refine (rIn_any bk q1 q2 _).mono ?_
                rw [HH.out]
                rintro _ _ ⟨rfl, rfl⟩
                (try go_wp2_with fail)
                refine hK.out _ _ (HC11.out X HAX.out) (fun hS => ?_)
                clear hK K
                try simp only [Act.put, putA, putZ, putS]
                refine tk [18, 19, 20, 21, 22, 23, 24, 25, 26] ?_
                repeat (refine tkH (oi := ⟨_, _, _, _, _, _⟩) (v := ?_) rfl (by kernel_rfl) (by rfl) (fun _ _ _ h => h) hS ?_ ?_; rotate_left; (· rintro W' ⟨z0, z1, z2, z3, z4, z5, z6, z7, z8, z9, z10, z11, z12⟩; go_simp; try with_reducible rfl); try simp only [Act.put, putA, putZ, putS])
                refine tk0 ?_
                refine wpAnyH_ready (rs := [27]) (by kernel_rfl) (by simp) ?_
                refine AllReadyH.cons (o := ⟨some 89, _, _, _, _, _⟩) rfl (fun K hK => ?_) AllReadyH.nil
                go_simp
                refine (HG.out _ HAX.out.fr).mono ?_
                rintro _ X1 ⟨rfl, hb1⟩
                (try go_wp2_with fail)
                have HA1 := Lib.hid (HAX.out.below hb1)
                refine hK.out _ _ (HC11.out X1 HA1.out) (fun hS => ?_)
                clear hK K
                try simp only [Act.put, putA, putZ, putS]
                clear hb1
                refine tH 28 (oi := ⟨_, _, _, _, _, _⟩) (v := ?_) rfl (by kernel_rfl) (by rfl) (fun _ _ _ h => h) hS ?_ ?_
                rotate_left
                · rintro W' ⟨z0, z1, z2, z3, z4, z5, z6, z7, z8, z9, z10, z11, z12⟩; go_simp; try with_reducible rfl
                try simp only [Act.put, putA, putZ, putS]
                refine tH 29 (oi := ⟨_, _, _, _, _, _⟩) (v := .bool false) rfl (by kernel_rfl) (by rfl) (fun _ _ _ h => h) hS ?_ ?_
                · rintro W' ⟨z0, z1, z2, z3, z4, z5, z6, z7, z8, z9, z10, z11, z12⟩; go_simp; (try omega)
                try simp only [Act.put, putA, putZ, putS]
                refine tk [30, 31, 32, 33, 34, 35, 36, 37, 38] ?_
                repeat (refine tkH (oi := ⟨_, _, _, _, _, _⟩) (v := ?_) rfl (by kernel_rfl) (by rfl) (fun _ _ _ h => h) hS ?_ ?_; rotate_left; (· rintro W' ⟨z0, z1, z2, z3, z4, z5, z6, z7, z8, z9, z10, z11, z12⟩; go_simp; try with_reducible rfl); try simp only [Act.put, putA, putZ, putS])
                refine tk0 ?_
                refine wpAnyH_ready (rs := [39]) (by kernel_rfl) (by simp) ?_
                refine AllReadyH.cons (o := ⟨some 101, _, _, _, _, _⟩) rfl (fun K hK => ?_) AllReadyH.nil
                go_simp
                refine (HG.out _ HA1.out.fr).mono ?_
                rintro _ X2 ⟨rfl, hb2⟩
                (try go_wp2_with fail)
                have HA2 := Lib.hid (HA1.out.below hb2)
                refine hK.out _ _ (HC11.out X2 HA2.out) (fun hS => ?_)
                clear hK K
                try simp only [Act.put, putA, putZ, putS]
                clear hb2
                refine tH 40 (oi := ⟨_, _, _, _, _, _⟩) (v := .bool true) rfl (by kernel_rfl) (by rfl) (fun _ _ _ h => h) hS ?_ ?_
                · rintro W' ⟨z0, z1, z2, z3, z4, z5, z6, z7, z8, z9, z10, z11, z12⟩; go_simp; (try omega)
                try simp only [Act.put, putA, putZ, putS]
                refine tH 41 (oi := ⟨_, _, _, _, _, _⟩) (v := ?_) rfl (by kernel_rfl) (by rfl) (fun _ _ _ h => h) hS ?_ ?_
                rotate_left
                · rintro W' ⟨z0, z1, z2, z3, z4, z5, z6, z7, z8, z9, z10, z11, z12⟩; go_simp; try with_reducible rfl
                try simp only [Act.put, putA, putZ, putS]
                refine wpAnyH_done (by kernel_rfl) ?_ _
                go_wp2_with fail
                go_meet
                exact ⟨by rw [decide_eq_true e1, decide_eq_false e2]; simp, HA2.out⟩
            · refine wp_region_held_drew (S := fun X => X.cell? ⟨w.heap.size, 0, none⟩ = some (.slice uca t.nc ucc) ∧ X.cell? ⟨w.heap.size, 1, none⟩ = some (.slice (some ⟨b1, o1, none⟩) t.nb ubc) ∧ X.cell? ⟨w.heap.size, 2, none⟩ = some (.slice ura t.nr urc) ∧ X.cell? ⟨w.heap.size, 3, none⟩ = some (.slice una t.nn unc) ∧ X.cell? ⟨w.heap.size + 1, 0, none⟩ = some (.slice fa t.ng fc) ∧ X.cell? ⟨w.heap.size + 1, 1, none⟩ = some (.slice (some ⟨bb, bo, none⟩) t.nb bc) ∧ X.cell? ⟨w.heap.size + 1, 2, none⟩ = some (.slice (some ⟨db, d0, none⟩) t.nb dc) ∧ X.cell? ⟨w.heap.size + 1, 3, none⟩ = some (.slice (some ⟨mb, mo, none⟩) t.nb mc) ∧ X.cell? ⟨bb, bo + k, none⟩ = some (.int .i64 bk) ∧ X.cell? ⟨b1, o1 + k * 2, none⟩ = some (.int .i64 q1) ∧ X.cell? ⟨b1, o1 + k * 2 + 1, none⟩ = some (.int .i64 q2) ∧ X.cell? ⟨db, d0 + k, none⟩ = some (.slice dra dk drc) ∧ X.cell? ⟨mb, mo + k, none⟩ = some (.slice mra mk mrc)) (by kernel_rfl) (HC11.out _ HAX.out) (fun hS => ?_)
              generalize wy.drew = X at *
              refine tk [0, 1, 2, 3, 4, 5, 6, 7, 8, 9, 10, 11, 12, 13, 14, 15, 16] ?_
              repeat (refine tkH (oi := ⟨_, _, _, _, _, _⟩) (v := ?_) rfl (by kernel_rfl) (by rfl) (fun _ _ _ h => h) hS ?_ ?_; rotate_left; (· rintro W' ⟨z0, z1, z2, z3, z4, z5, z6, z7, z8, z9, z10, z11, z12⟩; go_simp; try with_reducible rfl); try simp only [Act.put, putA, putZ, putS])
              refine tk0 ?_
              refine wpAnyH_ready (rs := [17]) (by kernel_rfl) (by simp) ?_
              refine AllReadyH.cons (o := ⟨some 79, _, _, _, _, _⟩) rfl (fun K hK => ?_) AllReadyH.nil
              go_simp
              refine (rIn_any bk q1 q2 _).mono ?_
              rw [HH.out]
              rintro _ _ ⟨rfl, rfl⟩
              (try go_wp2_with fail)
              refine hK.out _ _ (HC11.out X HAX.out) (fun hS => ?_)
              clear hK K
              try simp only [Act.put, putA, putZ, putS]
              refine tk [18, 19, 20, 21, 22, 23, 24, 25, 26] ?_
              repeat (refine tkH (oi := ⟨_, _, _, _, _, _⟩) (v := ?_) rfl (by kernel_rfl) (by rfl) (fun _ _ _ h => h) hS ?_ ?_; rotate_left; (· rintro W' ⟨z0, z1, z2, z3, z4, z5, z6, z7, z8, z9, z10, z11, z12⟩; go_simp; try with_reducible rfl); try simp only [Act.put, putA, putZ, putS])
              refine tk0 ?_
              refine wpAnyH_ready (rs := [27]) (by kernel_rfl) (by simp) ?_
              refine AllReadyH.cons (o := ⟨some 89, _, _, _, _, _⟩) rfl (fun K hK => ?_) AllReadyH.nil
              go_simp
              refine (HG.out _ HAX.out.fr).mono ?_
              rintro _ X1 ⟨rfl, hb1⟩
              (try go_wp2_with fail)
              have HA1 := Lib.hid (HAX.out.below hb1)
              refine hK.out _ _ (HC11.out X1 HA1.out) (fun hS => ?_)
              clear hK K
              try simp only [Act.put, putA, putZ, putS]
              clear hb1
              refine tH 28 (oi := ⟨_, _, _, _, _, _⟩) (v := ?_) rfl (by kernel_rfl) (by rfl) (fun _ _ _ h => h) hS ?_ ?_
              rotate_left
              · rintro W' ⟨z0, z1, z2, z3, z4, z5, z6, z7, z8, z9, z10, z11, z12⟩; go_simp; try with_reducible rfl
              try simp only [Act.put, putA, putZ, putS]
              refine tH 29 (oi := ⟨_, _, _, _, _, _⟩) (v := .bool true) rfl (by kernel_rfl) (by rfl) (fun _ _ _ h => h) hS ?_ ?_
              · rintro W' ⟨z0, z1, z2, z3, z4, z5, z6, z7, z8, z9, z10, z11, z12⟩; go_simp; (try omega)
              try simp only [Act.put, putA, putZ, putS]
              refine tk [30, 31] ?_
              repeat (refine tkH (oi := ⟨_, _, _, _, _, _⟩) (v := ?_) rfl (by kernel_rfl) (by rfl) (fun _ _ _ h => h) hS ?_ ?_; rotate_left; (· rintro W' ⟨z0, z1, z2, z3, z4, z5, z6, z7, z8, z9, z10, z11, z12⟩; go_simp; try with_reducible rfl); try simp only [Act.put, putA, putZ, putS])
              refine tk0 ?_
              refine wpAnyH_take (i := 32) (oi := ⟨some 94, _, _, _, _, _⟩) (v := undef) rfl (by kernel_rfl) (by kernel_rfl) (by kernel_rfl) (fun _ _ _ h => h) (Or.inr ⟨by rfl, rfl⟩) hS ?_
              try simp only [Act.put, putA, putZ, putS]
              refine wpAnyH_take (i := 33) (oi := ⟨some 95, _, _, _, _, _⟩) (v := undef) rfl (by kernel_rfl) (by kernel_rfl) (by kernel_rfl) (fun _ _ _ h => h) (Or.inr ⟨by rfl, rfl⟩) hS ?_
              try simp only [Act.put, putA, putZ, putS]
              refine wpAnyH_take (i := 34) (oi := ⟨some 96, _, _, _, _, _⟩) (v := undef) rfl (by kernel_rfl) (by kernel_rfl) (by kernel_rfl) (fun _ _ _ h => h) (Or.inr ⟨by rfl, rfl⟩) hS ?_
              try simp only [Act.put, putA, putZ, putS]
              refine wpAnyH_take (i := 35) (oi := ⟨some 97, _, _, _, _, _⟩) (v := undef) rfl (by kernel_rfl) (by kernel_rfl) (by kernel_rfl) (fun _ _ _ h => h) (Or.inr ⟨by rfl, rfl⟩) hS ?_
              try simp only [Act.put, putA, putZ, putS]
              refine wpAnyH_take (i := 36) (oi := ⟨some 98, _, _, _, _, _⟩) (v := undef) rfl (by kernel_rfl) (by kernel_rfl) (by kernel_rfl) (fun _ _ _ h => h) (Or.inr ⟨by rfl, rfl⟩) hS ?_
              try simp only [Act.put, putA, putZ, putS]
              refine wpAnyH_take (i := 37) (oi := ⟨some 99, _, _, _, _, _⟩) (v := undef) rfl (by kernel_rfl) (by kernel_rfl) (by kernel_rfl) (fun _ _ _ h => h) (Or.inr ⟨by rfl, rfl⟩) hS ?_
              try simp only [Act.put, putA, putZ, putS]
              refine wpAnyH_take (i := 38) (oi := ⟨some 100, _, _, _, _, _⟩) (v := undef) rfl (by kernel_rfl) (by kernel_rfl) (by kernel_rfl) (fun _ _ _ h => h) (Or.inr ⟨by rfl, rfl⟩) hS ?_
              try simp only [Act.put, putA, putZ, putS]
              refine wpAnyH_take (i := 39) (oi := ⟨some 101, _, _, _, _, _⟩) (v := undef) rfl (by kernel_rfl) (by kernel_rfl) (by kernel_rfl) (fun _ _ _ h => h) (Or.inr ⟨by rfl, rfl⟩) hS ?_
              try simp only [Act.put, putA, putZ, putS]
              refine wpAnyH_take (i := 40) (oi := ⟨some 102, _, _, _, _, _⟩) (v := undef) rfl (by kernel_rfl) (by kernel_rfl) (by kernel_rfl) (fun _ _ _ h => h) (Or.inr ⟨by rfl, rfl⟩) hS ?_
              try simp only [Act.put, putA, putZ, putS]
              refine tH 41 (oi := ⟨_, _, _, _, _, _⟩) (v := ?_) rfl (by kernel_rfl) (by rfl) (fun _ _ _ h => h) hS ?_ ?_
              rotate_left
              · rintro W' ⟨z0, z1, z2, z3, z4, z5, z6, z7, z8, z9, z10, z11, z12⟩; go_simp; try with_reducible rfl
              try simp only [Act.put, putA, putZ, putS]
              refine wpAnyH_done (by kernel_rfl) ?_ _
              go_wp2_with fail
              go_meet
              exact ⟨by rw [decide_eq_false e1]; simp, HA1.out⟩
          rename World => wz
          obtain ⟨rfl, hbf⟩ := hcut
          clear HA HAX HC11
          have HA := Lib.hid hbf
          clear hbf
          obtain ⟨bd, hbd⟩ : ∃ bd, (hh && (decide (dk = t.ng + 1) && decide (mk = t.ng))) = bd := ⟨_, rfl⟩
          rw [hbd]
          cases bd
          · have HF := Lib.hid hbd
            clear hbd
            go_wp2_with fail
            go_ret
            exact ⟨ret_bool (by rw [HR2.out, allB_false (k := k) hlt (by rw [HROW.out]; exact and4 _ _ _ _ HF.out)]), HA.out.fr⟩
          · simp only [Bool.and_eq_true, decide_eq_true_eq] at hbd
            obtain ⟨rfl, rfl, hmk⟩ := hbd
            subst hmk
            rw [Bool.not_true]
            have HROW2 : Hid (trRow t ⟨t.ng, xf, t.nb, xb, t.nb, dl, xd, t.nb, ml, xm⟩ k = allB (fun g => inB (xm k g) (t.n g).1 (t.n g).2) t.ng) := by rw [Hid, HROW.out]; simp
            clear HROW
            go_wp2_with fail
            go_loopw [7] (fun i wr => ∃ g : Nat, g ≤ t.ng ∧ i = .int .i64 g ∧ BF w wr [(w.heap.size, #[.slice uca t.nc ucc, .slice (some ⟨b1, o1, none⟩) t.nb ubc, .slice ura t.nr urc, .slice una t.nn unc], 25), (w.heap.size + 1, #[.slice fa t.ng fc, .slice (some ⟨bb, bo, none⟩) t.nb bc, .slice (some ⟨db, d0, none⟩) t.nb dc, .slice (some ⟨mb, mo, none⟩) t.nb mc], 75)] ∧ ∀ q, q < g → inB (xm k q) (t.n q).1 (t.n q).2 = true) (fun i _ => t.ng - (intOf i).toNat)
            case atStart => exact ⟨0, Nat.zero_le _, rfl, HA.out, fun _ h => absurd h (Nat.not_lt_zero _)⟩
            case round =>
              obtain ⟨g, hg, rfl, hbf, hall⟩ := hrel
              rename World => wv
              clear HA
              have HA := Lib.hid hbf; have HQ2 := Lib.hid hall
              clear hbf hall
              have gi : (0 : Int) ≤ (g : Int) := by omega
              have c0 := HA.out.cell (.head _) 0; have c1 := HA.out.cell (.head _) 1; have c2 := HA.out.cell (.head _) 2; have c3 := HA.out.cell (.head _) 3
              by_cases hlg : g < t.ng
              · as_aux_lemma =>
                have gj : (g : Int) < (t.ng : Int) := by omega
                have gk : (g : Int) < (t.nn : Int) := by rw [HNN.out]; exact gj
                obtain ⟨b3, o3, rfl, hb3, p1, p2⟩ := HL.out.2.2.2.at (k := g) (by rw [HNN.out]; exact hlg)
                obtain ⟨rb, ro, rfl, hrb, y1⟩ := HMR.out.at (k := g) hlg
                obtain ⟨n1, n2, HPN⟩ : ∃ n1 n2, Hid (t.n g = (n1, n2)) := ⟨_, _, rfl⟩
                obtain ⟨mg, HMG⟩ : ∃ mg, Hid (xm k g = mg) := ⟨_, rfl⟩
                rw [HPN.out] at p1 p2
                rw [HMG.out] at y1
                simp only at p1 p2 y1
                have HC16 : Hid (∀ X, BF w X [(w.heap.size, #[.slice uca t.nc ucc, .slice (some ⟨b1, o1, none⟩) t.nb ubc, .slice ura t.nr urc, .slice (some ⟨b3, o3, none⟩) t.nn unc], 25), (w.heap.size + 1, #[.slice fa t.ng fc, .slice (some ⟨bb, bo, none⟩) t.nb bc, .slice (some ⟨db, d0, none⟩) t.nb dc, .slice (some ⟨mb, mo, none⟩) t.nb mc], 75)] → (X.cell? ⟨w.heap.size, 0, none⟩ = some (.slice uca t.nc ucc) ∧ X.cell? ⟨w.heap.size, 1, none⟩ = some (.slice (some ⟨b1, o1, none⟩) t.nb ubc) ∧ X.cell? ⟨w.heap.size, 2, none⟩ = some (.slice ura t.nr urc) ∧ X.cell? ⟨w.heap.size, 3, none⟩ = some (.slice (some ⟨b3, o3, none⟩) t.nn unc) ∧ X.cell? ⟨w.heap.size + 1, 0, none⟩ = some (.slice fa t.ng fc) ∧ X.cell? ⟨w.heap.size + 1, 1, none⟩ = some (.slice (some ⟨bb, bo, none⟩) t.nb bc) ∧ X.cell? ⟨w.heap.size + 1, 2, none⟩ = some (.slice (some ⟨db, d0, none⟩) t.nb dc) ∧ X.cell? ⟨w.heap.size + 1, 3, none⟩ = some (.slice (some ⟨mb, mo, none⟩) t.nb mc) ∧ X.cell? ⟨mb, mo + k, none⟩ = some (.slice (some ⟨rb, ro, none⟩) t.ng mrc) ∧ X.cell? ⟨rb, ro + g, none⟩ = some (.int .i64 mg) ∧ X.cell? ⟨b3, o3 + g * 2, none⟩ = some (.int .i64 n1) ∧ X.cell? ⟨b3, o3 + g * 2 + 1, none⟩ = some (.int .i64 n2))) := fun X h => ⟨h.cell (.head _) 0, h.cell (.head _) 1, h.cell (.head _) 2, h.cell (.head _) 3, h.cell (.tail _ (.head _)) 0, h.cell (.tail _ (.head _)) 1, h.cell (.tail _ (.head _)) 2, h.cell (.tail _ (.head _)) 3, HMC.out X h.fr, kept h.fr hrb y1, kept h.fr hb3 p1, kept h.fr hb3 p2⟩
                clear p1 p2 y1 hb3 hrb
                obtain ⟨hh, HH⟩ : ∃ hh, Hid (inB mg n1 n2 = hh) := ⟨_, rfl⟩
                have HIG : Hid (inB (xm k g) (t.n g).1 (t.n g).2 = hh) := by
                  show inB (xm k g) (t.n g).1 (t.n g).2 = hh
                  rw [HPN.out, HMG.out, HH.out]
                go_wp2_with (go_at_call 23; refine (HG.out _ HA.out.fr).mono ?_; rintro _ wu ⟨rfl, hbu⟩; have HAU := Lib.hid (HA.out.below hbu); clear hbu)
                clear c0 c1 c2 c3
                have HAX := Lib.hid (HAU.out.below (Below.refl _ wu).drew)
                go_cut [131] (fun s131 wz => s131 = .bool (!hh) ∧ BF w wz [(w.heap.size, #[.slice uca t.nc ucc, .slice (some ⟨b1, o1, none⟩) t.nb ubc, .slice ura t.nr urc, .slice (some ⟨b3, o3, none⟩) t.nn unc], 25), (w.heap.size + 1, #[.slice fa t.ng fc, .slice (some ⟨bb, bo, none⟩) t.nb bc, .slice (some ⟨db, d0, none⟩) t.nb dc, .slice (some ⟨mb, mo, none⟩) t.nb mc], 75)])
                case first => as_aux_lemma =>
                  refine wp_region_held_drew (S := fun X => X.cell? ⟨w.heap.size, 0, none⟩ = some (.slice uca t.nc ucc) ∧ X.cell? ⟨w.heap.size, 1, none⟩ = some (.slice (some ⟨b1, o1, none⟩) t.nb ubc) ∧ X.cell? ⟨w.heap.size, 2, none⟩ = some (.slice ura t.nr urc) ∧ X.cell? ⟨w.heap.size, 3, none⟩ = some (.slice (some ⟨b3, o3, none⟩) t.nn unc) ∧ X.cell? ⟨w.heap.size + 1, 0, none⟩ = some (.slice fa t.ng fc) ∧ X.cell? ⟨w.heap.size + 1, 1, none⟩ = some (.slice (some ⟨bb, bo, none⟩) t.nb bc) ∧ X.cell? ⟨w.heap.size + 1, 2, none⟩ = some (.slice (some ⟨db, d0, none⟩) t.nb dc) ∧ X.cell? ⟨w.heap.size + 1, 3, none⟩ = some (.slice (some ⟨mb, mo, none⟩) t.nb mc) ∧ X.cell? ⟨mb, mo + k, none⟩ = some (.slice (some ⟨rb, ro, none⟩) t.ng mrc) ∧ X.cell? ⟨rb, ro + g, none⟩ = some (.int .i64 mg) ∧ X.cell? ⟨b3, o3 + g * 2, none⟩ = some (.int .i64 n1) ∧ X.cell? ⟨b3, o3 + g * 2 + 1, none⟩ = some (.int .i64 n2)) (by kernel_rfl) (HC16.out _ HAX.out) (fun hS => ?_)
                  generalize wu.drew = X at *
                  refine tk [0, 1, 2, 3, 4, 5, 6, 7, 8, 9, 10, 11, 12, 13, 14, 15, 16, 17, 18, 19] ?_
                  repeat (refine tkH (oi := ⟨_, _, _, _, _, _⟩) (v := ?_) rfl (by kernel_rfl) (by rfl) (fun _ _ _ h => h) hS ?_ ?_; rotate_left; (· rintro W' ⟨z0, z1, z2, z3, z4, z5, z6, z7, z8, z9, z10, z11⟩; go_simp; try with_reducible rfl); try simp only [Act.put, putA, putZ, putS])
                  refine tk0 ?_
                  refine wpAnyH_ready (rs := [20]) (by kernel_rfl) (by simp) ?_
                  refine AllReadyH.cons (o := ⟨some 130, _, _, _, _, _⟩) rfl (fun K hK => ?_) AllReadyH.nil
                  go_simp
                  refine (rIn_any mg n1 n2 _).mono ?_
                  rw [HH.out]
                  rintro _ _ ⟨rfl, rfl⟩
                  (try go_wp2_with fail)
                  refine hK.out _ _ (HC16.out X HAX.out) (fun hS => ?_)
                  clear hK K
                  try simp only [Act.put, putA, putZ, putS]
                  refine tH 21 (oi := ⟨_, _, _, _, _, _⟩) (v := ?_) rfl (by kernel_rfl) (by rfl) (fun _ _ _ h => h) hS ?_ ?_
                  rotate_left
                  · rintro W' ⟨z0, z1, z2, z3, z4, z5, z6, z7, z8, z9, z10, z11⟩; go_simp; try with_reducible rfl
                  try simp only [Act.put, putA, putZ, putS]
                  refine wpAnyH_done (by kernel_rfl) ?_ _
                  go_wp2_with fail
                  go_meet
                  exact ⟨by rfl, HAX.out⟩
                rename World => wt
                obtain ⟨rfl, hbf⟩ := hcut
                clear HA HAU HAX
                have HA := Lib.hid hbf
                clear hbf
                cases hh
                · go_wp2_with fail
                  go_ret
                  exact ⟨ret_bool (by rw [HR2.out, allB_false (k := k) hlt (by rw [HROW2.out]; exact allB_false (k := g) hlg HIG.out)]), HA.out.fr⟩
                · go_wp2_with fail
                  go_roundw
                  case rel => exact ⟨g + 1, by omega, by go_num, HA.out, fun q hq => by
                    rcases Nat.lt_succ_iff_lt_or_eq.1 hq with h | rfl
                    · exact HQ2.out q h
                    · exact HIG.out⟩
                  case measure => simp [intOf]; omega
              · obtain rfl : g = t.ng := by omega
                go_wp2_with (go_at_call 23; refine (HG.out _ HA.out.fr).mono ?_; rintro _ wu ⟨rfl, hbu⟩; have HAU := Lib.hid (HA.out.below hbu); clear hbu)
                go_roundw
                case rel => exact ⟨k + 1, by omega, by go_num, HAU.out, fun q hq => by
                  rcases Nat.lt_succ_iff_lt_or_eq.1 hq with h | rfl
                  · exact HQ.out q h
                  · rw [HROW2.out]; exact allB_true (fun g hg => HQ2.out g hg)⟩
                case measure => simp [intOf]; omega
        · obtain rfl : k = t.nb := by omega
          go_wp2_with fail
          go_ret
          exact ⟨ret_bool (by rw [HR2.out, allB_true (fun q hq => HQ.out q hq)]), HA.out.fr⟩
end Go.Proofs.Ytjaoflfophcibaa
