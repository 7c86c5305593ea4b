/- Play (the program's): truth. Printed by gen_in.py. -/
import Derived.Test.YtjaoflfophcibaaIM
namespace Go.Proofs.Ytjaoflfophcibaa
open Go.RowKit Go.Shelf

/-- The lists of a truth at one census are as described. -/
def trRow (t : Tb) (x : Tr) (c : Nat) : Bool := inB (x.b c) (t.b c).1 (t.b c).2 && (decide (x.dl c = t.ng + 1) && (decide (x.ml c = t.ng) && allB (fun g => inB (x.m c g) (t.n g).1 (t.n g).2) t.ng))
def Tb.isTr (t : Tb) (x : Tr) : Bool := decide (x.nf = t.ng) && (allB (fun g => countB (x.f g)) t.ng && (decide (x.nb = t.nb) && (decide (x.nd = t.nb) && (decide (x.nm = t.nb) && allB (trRow t x) t.nb))))
theorem and4 : ∀ a b c d : Bool, (a && (b && c)) = false → (a && (b && (c && d))) = false := by decide
structure TrSm (x : Tr) : Prop where
  f : x.nf ≤ 100000
  b : x.nb ≤ 100000
  d : x.nd ≤ 100000
  m : x.nm ≤ 100000
  dl : ∀ c, c < x.nd → x.dl c ≤ 100000
  ml : ∀ c, c < x.nm → x.ml c ≤ 100000
set_option maxRecDepth 100000 in
set_option maxHeartbeats 8000000 in
theorem truth_any (u : WV) (t : Tb) (y : XV) (x : Tr) (w : World) (hl : WL w u t) (hs : t.small) (hx : XL w y x) (ht : Okt t) (hsm : TrSm x) :
    Calls Try.prog 85 #[.agg #[u.cv t, u.bv t, u.rv t, u.nv t], .agg #[.slice y.fa x.nf y.fc, .slice y.ba x.nb y.bc, .slice y.da x.nd y.dc, .slice y.ma x.nm y.mc]] w fun e w' => e = .returned (.bool (t.isTr x)) ∧ Below w.heap.size w w' := by
  have HG : Hid (∀ X, Below w.heap.size w X → Calls Try.prog 57 #[.agg #[u.cv t, u.bv t, u.rv t, u.nv t]] X fun e w' => e = .returned (.int .i64 (t.ng : Nat)) ∧ Below X.heap.size X w') := fun X hX => groups_any _ t X (hl.below hX).tb hs
  have ng2 := ht.ng2; have ng4 := ht.ng4; have nb4 : t.nb ≤ 4 := by have := ht.nb; have := ht.nc4; omega
  have HNN := Lib.hid ht.nn
  have HL := Lib.hid hl; have HXL := Lib.hid hx; have HSM := Lib.hid hsm
  clear hl hx ht hsm hs
  obtain ⟨uca, ucc, uba, ubc, ura, urc, una, unc⟩ := u
  obtain ⟨fa, fc, ba, bc, da, dc, ma, mc⟩ := y
  obtain ⟨nf, xf, nb, xb, nd, dl, xd, nm, ml, xm⟩ := x
  simp only [WV.cv, WV.bv, WV.rv, WV.nv] at HG ⊢
  have sf : nf ≤ 100000 := HSM.out.f
  have sb : nb ≤ 100000 := HSM.out.b
  have sd : nd ≤ 100000 := HSM.out.d
  have sm : nm ≤ 100000 := HSM.out.m
  have HA0 : Hid (BF w ((w.alloc (.cells #[.slice uca t.nc ucc, .slice uba t.nb ubc, .slice ura t.nr urc, .slice una t.nn unc] 36)).alloc (.cells #[.slice fa nf fc, .slice ba nb bc, .slice da nd dc, .slice ma nm mc] 100)) [(w.heap.size, #[.slice uca t.nc ucc, .slice uba t.nb ubc, .slice ura t.nr urc, .slice una t.nn unc], 36), (w.heap.size + 1, #[.slice fa nf fc, .slice ba nb bc, .slice da nd dc, .slice ma nm mc], 100)]) := BF.made2 w _ _ _ _
  go_enter Try.func85, Try.ntmps85
  go_wp2_with fail
  generalize ((w.alloc (.cells #[.slice uca t.nc ucc, .slice uba t.nb ubc, .slice ura t.nr urc, .slice una t.nn unc] 36)).alloc (.cells #[.slice fa nf fc, .slice ba nb bc, .slice da nd dc, .slice ma nm mc] 100)) = w1 at *
  go_cut [5, 6] (fun s5 s6 wx => s5 = .int .i64 (t.ng : Nat) ∧ s6 = .int .i64 (t.nb : Nat) ∧ Below w1.heap.size w1 wx)
  case first =>
    have HAX : Hid (Below w1.heap.size w1 w1.drew) := (Below.refl _ _).drew
    have HC1 : Hid (∀ X, Below w1.heap.size w1 X → (X.cell? ⟨w.heap.size, 0, none⟩ = some (.slice uca t.nc ucc) ∧ X.cell? ⟨w.heap.size, 1, none⟩ = some (.slice uba t.nb ubc) ∧ X.cell? ⟨w.heap.size, 2, none⟩ = some (.slice ura t.nr urc) ∧ X.cell? ⟨w.heap.size, 3, none⟩ = some (.slice una t.nn unc))) := fun X hX => by
      have h := HA0.out.below hX
      exact ⟨h.cell (.head _) 0, h.cell (.head _) 1, h.cell (.head _) 2, h.cell (.head _) 3⟩
    refine wp_region_held_drew (S := fun X => X.cell? ⟨w.heap.size, 0, none⟩ = some (.slice uca t.nc ucc) ∧ X.cell? ⟨w.heap.size, 1, none⟩ = some (.slice uba t.nb ubc) ∧ X.cell? ⟨w.heap.size, 2, none⟩ = some (.slice ura t.nr urc) ∧ X.cell? ⟨w.heap.size, 3, none⟩ = some (.slice una t.nn unc)) (by kernel_rfl) (HC1.out _ HAX.out) (fun hS => ?_)
    generalize w1.drew = X at *
    refine tk [0, 2, 3, 4] ?_
    repeat (refine tkH (oi := ⟨_, _, _, _, _, _⟩) (v := ?_) rfl (by kernel_rfl) (by rfl) (fun _ _ _ h => h) hS ?_ ?_; rotate_left; (· rintro W' ⟨z0, z1, z2, z3⟩; go_simp; try with_reducible rfl); try simp only [Act.put, putA, putZ, putS])
    refine tk0 ?_
    refine wpAnyH_ready (rs := [1]) (by kernel_rfl) (by simp) ?_
    refine AllReadyH.cons (o := ⟨some 13, _, _, _, _, _⟩) rfl (fun K hK => ?_) AllReadyH.nil
    go_simp
    refine (HG.out _ (HA0.out.below HAX.out).fr).mono ?_
    rintro _ X0 ⟨rfl, hb0⟩
    (try go_wp2_with fail)
    have HA0 := Lib.hid (below_step HAX.out hb0)
    refine hK.out _ _ (HC1.out X0 HA0.out) (fun hS => ?_)
    clear hK K
    try simp only [Act.put, putA, putZ, putS]
    clear hb0
    refine tk [5, 6] ?_
    repeat (refine tkH (oi := ⟨_, _, _, _, _, _⟩) (v := ?_) rfl (by kernel_rfl) (by rfl) (fun _ _ _ h => h) hS ?_ ?_; rotate_left; (· rintro W' ⟨z0, z1, z2, z3⟩; go_simp; try with_reducible rfl); try simp only [Act.put, putA, putZ, putS])
    refine tk0 ?_
    refine wpAnyH_done (by kernel_rfl) ?_ _
    go_wp2_with fail
    go_meet
    exact ⟨rfl, rfl, HA0.out⟩
  rename World => w2
  obtain ⟨rfl, rfl, hb2⟩ := hcut
  have HA2 := Lib.hid (HA0.out.below hb2)
  clear hb2 HA0 HG
  have c0 := HA2.out.cell (.tail _ (.head _)) 0
  have c1 := HA2.out.cell (.tail _ (.head _)) 1
  have c2 := HA2.out.cell (.tail _ (.head _)) 2
  have c3 := HA2.out.cell (.tail _ (.head _)) 3
  by_cases hnf : nf = t.ng
  case neg =>
    go_wp2_with fail
    go_ret
    exact ⟨ret_bool (by unfold Tb.isTr; rw [decide_eq_false hnf]; rfl), HA2.out.fr⟩
  subst hnf
  obtain ⟨al, hal⟩ : ∃ al, allB (fun g => countB (xf g)) t.ng = al := ⟨_, rfl⟩
  have HALL : Hid (∀ X, Below w2.heap.size w2 X → Calls Try.prog 112 #[.slice fa t.ng fc, .func (.func 111) #[] #[]] X fun e w' => e = .returned (.bool al) ∧ Below X.heap.size X w') := fun X hX => by
    have h := all_countB t.ng (.slice fa t.ng fc) xf X (by omega) (HXL.out.1.below (HA2.out.below hX).fr)
    rw [hal] at h
    exact h
  have HAL := Lib.hid hal
  clear hal
  cases al
  · go_wp2_with (go_at_call 112; refine (HALL.out _ (Below.refl _ _)).mono ?_; rintro _ w3 ⟨rfl, hb3⟩; have HA3 := Lib.hid (HA2.out.below hb3); clear hb3)
    go_ret
    exact ⟨ret_bool (by unfold Tb.isTr; simp only; rw [HAL.out]; simp), HA3.out.fr⟩
  by_cases hnb : nb = t.nb
  case neg =>
    go_wp2_with (go_at_call 112; refine (HALL.out _ (Below.refl _ _)).mono ?_; rintro _ w3 ⟨rfl, hb3⟩; have HA3 := Lib.hid (HA2.out.below hb3); clear c0 c1 c2 c3; have c1 := HA3.out.cell (.tail _ (.head _)) 1; clear hb3)
    go_ret
    exact ⟨ret_bool (by unfold Tb.isTr; simp only; rw [decide_eq_false hnb]; simp), HA3.out.fr⟩
  subst hnb
  by_cases hnd : nd = t.nb
  case neg =>
    go_wp2_with (go_at_call 112; refine (HALL.out _ (Below.refl _ _)).mono ?_; rintro _ w3 ⟨rfl, hb3⟩; have HA3 := Lib.hid (HA2.out.below hb3); clear c0 c1 c2 c3; have c1 := HA3.out.cell (.tail _ (.head _)) 1; have c2 := HA3.out.cell (.tail _ (.head _)) 2; clear hb3)
    go_ret
    exact ⟨ret_bool (by unfold Tb.isTr; simp only; rw [decide_eq_false hnd]; simp), HA3.out.fr⟩
  subst hnd
  by_cases hnm : nm = t.nb
  case neg =>
    go_wp2_with (go_at_call 112; refine (HALL.out _ (Below.refl _ _)).mono ?_; rintro _ w3 ⟨rfl, hb3⟩; have HA3 := Lib.hid (HA2.out.below hb3); clear c0 c1 c2 c3; have c1 := HA3.out.cell (.tail _ (.head _)) 1; have c2 := HA3.out.cell (.tail _ (.head _)) 2; have c3 := HA3.out.cell (.tail _ (.head _)) 3; clear hb3)
    go_ret
    exact ⟨ret_bool (by unfold Tb.isTr; simp only; rw [decide_eq_false hnm]; simp), HA3.out.fr⟩
  subst hnm
  go_wp2_with (go_at_call 112; refine (HALL.out _ (Below.refl _ _)).mono ?_; rintro _ w3 ⟨rfl, hb3⟩; have HA3 := Lib.hid (HA2.out.below hb3); clear c0 c1 c2 c3; have c1 := HA3.out.cell (.tail _ (.head _)) 1; have c2 := HA3.out.cell (.tail _ (.head _)) 2; have c3 := HA3.out.cell (.tail _ (.head _)) 3; have k1 := HA3.out.cell (.head _) 1; clear hb3)
  have hres : t.isTr ⟨t.ng, xf, t.nb, xb, t.nb, dl, xd, t.nb, ml, xm⟩ = allB (trRow t ⟨t.ng, xf, t.nb, xb, t.nb, dl, xd, t.nb, ml, xm⟩) t.nb := by
    unfold Tb.isTr
    simp only
    rw [HAL.out]
    simp
  have HRES := Lib.hid hres
  clear hres c1 c2 c3 k1 HALL HA2 HAL
  go_loopw [53] (fun i wr => ∃ k : Nat, k ≤ t.nb ∧ i = .int .i64 k ∧ BF w wr [(w.heap.size, #[.slice uca t.nc ucc, .slice uba t.nb ubc, .slice ura t.nr urc, .slice una t.nn unc], 36), (w.heap.size + 1, #[.slice fa t.ng fc, .slice ba t.nb bc, .slice da t.nb dc, .slice ma t.nb mc], 100)] ∧ ∀ q, q < k → trRow t ⟨t.ng, xf, t.nb, xb, t.nb, dl, xd, t.nb, ml, xm⟩ q = true) (fun i _ => t.nb - (intOf i).toNat)
  case atStart => exact ⟨0, Nat.zero_le _, rfl, HA3.out, fun _ h => absurd h (Nat.not_lt_zero _)⟩
  case round =>
    obtain ⟨k, hk, rfl, hbf, hall⟩ := hrel
    rename World => wx
    have HA := Lib.hid hbf; have HQ := Lib.hid hall
    clear hbf hall HA3
    have ki : (0 : Int) ≤ (k : Int) := by omega
    by_cases hlt : k < t.nb
    · have kj : (k : Int) < (t.nb : Int) := by omega
      obtain ⟨b1, o1, rfl, hb1, p1, p2⟩ := HL.out.2.1.at hlt
      obtain ⟨bb, bo, rfl, hbb, y1⟩ := HXL.out.2.1.at (k := k) hlt
      obtain ⟨db, d0, dra, drc, rfl, hdb, y2, _⟩ := HXL.out.2.2.1.at (k := k) hlt
      obtain ⟨mb, mo, mra, mrc, rfl, hmb, y3, hmr⟩ := HXL.out.2.2.2.at (k := k) hlt
      simp only at y1 y2 y3 hmr
      have HMR := Lib.hid hmr
      obtain ⟨q1, q2, HPQ⟩ : ∃ q1 q2, Hid (t.b k = (q1, q2)) := ⟨_, _, rfl⟩
      obtain ⟨bk, HBK⟩ : ∃ bk, Hid (xb k = bk) := ⟨_, rfl⟩
      obtain ⟨dk, HDK⟩ : ∃ dk, Hid (dl k = dk) := ⟨_, rfl⟩
      obtain ⟨mk, HMK⟩ : ∃ mk, Hid (ml k = mk) := ⟨_, rfl⟩
      rw [HPQ.out] at p1 p2
      rw [HBK.out] at y1
      rw [HDK.out] at y2
      rw [HMK.out] at y3 HMR
      have sdk : dk ≤ 100000 := by rw [← HDK.out]; exact HSM.out.dl k hlt
      have smk : mk ≤ 100000 := by rw [← HMK.out]; exact HSM.out.ml k hlt
      have HC8 : Hid (∀ X, BF w X [(w.heap.size, #[.slice uca t.nc ucc, .slice (some ⟨b1, o1, none⟩) t.nb ubc, .slice ura t.nr urc, .slice una t.nn unc], 36), (w.heap.size + 1, #[.slice fa t.ng fc, .slice (some ⟨bb, bo, none⟩) t.nb bc, .slice (some ⟨db, d0, none⟩) t.nb dc, .slice (some ⟨mb, mo, none⟩) t.nb mc], 100)] → (X.cell? ⟨w.heap.size + 1, 1, none⟩ = some (.slice (some ⟨bb, bo, none⟩) t.nb bc) ∧ X.cell? ⟨w.heap.size + 1, 2, none⟩ = some (.slice (some ⟨db, d0, none⟩) t.nb dc) ∧ X.cell? ⟨w.heap.size + 1, 3, none⟩ = some (.slice (some ⟨mb, mo, none⟩) t.nb mc) ∧ X.cell? ⟨bb, bo + k, none⟩ = some (.int .i64 bk) ∧ X.cell? ⟨db, d0 + k, none⟩ = some (.slice dra dk drc) ∧ X.cell? ⟨mb, mo + k, none⟩ = some (.slice mra mk mrc))) := fun X hA => ⟨hA.cell (.tail _ (.head _)) 1, hA.cell (.tail _ (.head _)) 2, hA.cell (.tail _ (.head _)) 3, kept hA.fr hbb y1, kept hA.fr hdb y2, kept hA.fr hmb y3⟩
      have r1 := kept HA.out.fr hb1 p1
      have r2 := kept HA.out.fr hb1 p2
      have HAZ : Hid (BF w (wx.alloc (.cells #[.int .i64 q1, .int .i64 q2] 29)) [(wx.heap.size, #[.int .i64 q1, .int .i64 q2], 29), (w.heap.size, #[.slice uca t.nc ucc, .slice (some ⟨b1, o1, none⟩) t.nb ubc, .slice ura t.nr urc, .slice una t.nn unc], 36), (w.heap.size + 1, #[.slice fa t.ng fc, .slice (some ⟨bb, bo, none⟩) t.nb bc, .slice (some ⟨db, d0, none⟩) t.nb dc, .slice (some ⟨mb, mo, none⟩) t.nb mc], 100)]) := HA.out.alloc _ _
      clear p1 p2 y1 y2 y3 hbb hdb hmb hb1 hmr
      obtain ⟨hh, HH⟩ : ∃ hh, Hid (inB bk q1 q2 = hh) := ⟨_, rfl⟩
      have HROW : Hid (trRow t ⟨t.ng, xf, t.nb, xb, t.nb, dl, xd, t.nb, ml, xm⟩ k = (hh && (decide (dk = t.ng + 1) && (decide (mk = t.ng) && allB (fun g => inB (xm k g) (t.n g).1 (t.n g).2) t.ng)))) := by
        show (inB (xb k) (t.b k).1 (t.b k).2 && (decide (dl k = t.ng + 1) && (decide (ml k = t.ng) && allB (fun g => inB (xm k g) (t.n g).1 (t.n g).2) t.ng))) = _
        rw [HPQ.out, HBK.out, HDK.out, HMK.out, HH.out]
      have wng1 : IntKind.i64.wrap ((t.ng : Int) + 1) = (t.ng : Int) + 1 := IntWalk.i64_in _ (by omega)
      go_wp2_with fail
      obtain ⟨J, hJ⟩ : ∃ J, J = wx.heap.size := ⟨_, rfl⟩
      rw [← hJ] at HAZ ⊢
      generalize (wx.alloc (.cells #[.int .i64 q1, .int .i64 q2] 29)) = wz at *
      clear r1 r2 HA hJ
      have HAX := Lib.hid (HAZ.out.below (Below.refl _ wz).drew)
      go_cut [86] (fun s86 wy => s86 = .bool (!(hh && (decide (dk = t.ng + 1) && decide (mk = t.ng)))) ∧ BF w wy [(w.heap.size, #[.slice uca t.nc ucc, .slice (some ⟨b1, o1, none⟩) t.nb ubc, .slice ura t.nr urc, .slice una t.nn unc], 36), (w.heap.size + 1, #[.slice fa t.ng fc, .slice (some ⟨bb, bo, none⟩) t.nb bc, .slice (some ⟨db, d0, none⟩) t.nb dc, .slice (some ⟨mb, mo, none⟩) t.nb mc], 100)])
      case first =>
        have hS8 := HC8.out _ (HAX.out.sub (List.forall_mem_cons.2 ⟨.tail _ (.head _), List.forall_mem_cons.2 ⟨.tail _ (.tail _ (.head _)), List.forall_mem_nil _⟩⟩))
        cases hh
        · refine wp_region_held_drew (S := fun X => X.cell? ⟨J, 0, none⟩ = some (.int .i64 q1) ∧ X.cell? ⟨J, 1, none⟩ = some (.int .i64 q2) ∧ X.cell? ⟨w.heap.size + 1, 1, none⟩ = some (.slice (some ⟨bb, bo, none⟩) t.nb bc) ∧ X.cell? ⟨w.heap.size + 1, 2, none⟩ = some (.slice (some ⟨db, d0, none⟩) t.nb dc) ∧ X.cell? ⟨w.heap.size + 1, 3, none⟩ = some (.slice (some ⟨mb, mo, none⟩) t.nb mc) ∧ X.cell? ⟨bb, bo + k, none⟩ = some (.int .i64 bk) ∧ X.cell? ⟨db, d0 + k, none⟩ = some (.slice dra dk drc) ∧ X.cell? ⟨mb, mo + k, none⟩ = some (.slice mra mk mrc)) (by kernel_rfl) (⟨HAX.out.cell (.head _) 0, HAX.out.cell (.head _) 1, hS8⟩) (fun hS => ?_)
          generalize wz.drew = X at *
          refine tk [0, 1, 2, 3, 4, 5] ?_
          repeat (refine tkH (oi := ⟨_, _, _, _, _, _⟩) (v := ?_) rfl (by kernel_rfl) (by rfl) (fun _ _ _ h => h) hS ?_ ?_; rotate_left; (· rintro W' ⟨z0, z1, z2, z3, z4, z5, z6, z7⟩; go_simp; try with_reducible rfl); try simp only [Act.put, putA, putZ, putS])
          refine tk0 ?_
          refine wpAnyH_ready (rs := [6]) (by kernel_rfl) (by simp) ?_
          refine AllReadyH.cons (o := ⟨some 64, _, _, _, _, _⟩) rfl (fun K hK => ?_) AllReadyH.nil
          go_simp
          refine (has_any q1 q2 bk _).mono ?_
          rw [HH.out]
          rintro _ X0 ⟨rfl, hb0⟩
          (try go_wp2_with fail)
          have HA0 := Lib.hid (HAX.out.below hb0)
          refine hK.out _ _ (⟨HA0.out.cell (.head _) 0, HA0.out.cell (.head _) 1, HC8.out _ (HA0.out.sub (List.forall_mem_cons.2 ⟨.tail _ (.head _), List.forall_mem_cons.2 ⟨.tail _ (.tail _ (.head _)), List.forall_mem_nil _⟩⟩))⟩) (fun hS => ?_)
          clear hK K
          try simp only [Act.put, putA, putZ, putS]
          clear hb0
          refine tk [7, 8] ?_
          repeat (refine tkH (oi := ⟨_, _, _, _, _, _⟩) (v := ?_) rfl (by kernel_rfl) (by rfl) (fun _ _ _ h => h) hS ?_ ?_; rotate_left; (· rintro W' ⟨z0, z1, z2, z3, z4, z5, z6, z7⟩; go_simp; try with_reducible rfl); try simp only [Act.put, putA, putZ, putS])
          refine tk0 ?_
          refine wpAnyH_take (i := 9) (oi := ⟨some 67, _, _, _, _, _⟩) (v := undef) rfl (by kernel_rfl) (by kernel_rfl) (by kernel_rfl) (fun _ _ _ h => h) (Or.inr ⟨by rfl, rfl⟩) hS ?_
          try simp only [Act.put, putA, putZ, putS]
          refine wpAnyH_take (i := 10) (oi := ⟨some 68, _, _, _, _, _⟩) (v := undef) rfl (by kernel_rfl) (by kernel_rfl) (by kernel_rfl) (fun _ _ _ h => h) (Or.inr ⟨by rfl, rfl⟩) hS ?_
          try simp only [Act.put, putA, putZ, putS]
          refine wpAnyH_take (i := 11) (oi := ⟨some 69, _, _, _, _, _⟩) (v := undef) rfl (by kernel_rfl) (by kernel_rfl) (by kernel_rfl) (fun _ _ _ h => h) (Or.inr ⟨by rfl, rfl⟩) hS ?_
          try simp only [Act.put, putA, putZ, putS]
          refine wpAnyH_take (i := 12) (oi := ⟨some 70, _, _, _, _, _⟩) (v := undef) rfl (by kernel_rfl) (by kernel_rfl) (by kernel_rfl) (fun _ _ _ h => h) (Or.inr ⟨by rfl, rfl⟩) hS ?_
          try simp only [Act.put, putA, putZ, putS]
          refine wpAnyH_take (i := 13) (oi := ⟨some 71, _, _, _, _, _⟩) (v := undef) rfl (by kernel_rfl) (by kernel_rfl) (by kernel_rfl) (fun _ _ _ h => h) (Or.inr ⟨by rfl, rfl⟩) hS ?_
          try simp only [Act.put, putA, putZ, putS]
          refine wpAnyH_take (i := 14) (oi := ⟨some 72, _, _, _, _, _⟩) (v := undef) rfl (by kernel_rfl) (by kernel_rfl) (by kernel_rfl) (fun _ _ _ h => h) (Or.inr ⟨by rfl, rfl⟩) hS ?_
          try simp only [Act.put, putA, putZ, putS]
          refine wpAnyH_take (i := 15) (oi := ⟨some 73, _, _, _, _, _⟩) (v := undef) rfl (by kernel_rfl) (by kernel_rfl) (by kernel_rfl) (fun _ _ _ h => h) (Or.inr ⟨by rfl, rfl⟩) hS ?_
          try simp only [Act.put, putA, putZ, putS]
          refine wpAnyH_take (i := 16) (oi := ⟨some 74, _, _, _, _, _⟩) (v := undef) rfl (by kernel_rfl) (by kernel_rfl) (by kernel_rfl) (fun _ _ _ h => h) (Or.inr ⟨by rfl, rfl⟩) hS ?_
          try simp only [Act.put, putA, putZ, putS]
          refine wpAnyH_take (i := 17) (oi := ⟨some 75, _, _, _, _, _⟩) (v := undef) rfl (by kernel_rfl) (by kernel_rfl) (by kernel_rfl) (fun _ _ _ h => h) (Or.inr ⟨by rfl, rfl⟩) hS ?_
          try simp only [Act.put, putA, putZ, putS]
          refine tk [18, 19] ?_
          repeat (refine tkH (oi := ⟨_, _, _, _, _, _⟩) (v := ?_) rfl (by kernel_rfl) (by rfl) (fun _ _ _ h => h) hS ?_ ?_; rotate_left; (· rintro W' ⟨z0, z1, z2, z3, z4, z5, z6, z7⟩; go_simp; try with_reducible rfl); try simp only [Act.put, putA, putZ, putS])
          refine tk0 ?_
          refine wpAnyH_take (i := 20) (oi := ⟨some 78, _, _, _, _, _⟩) (v := undef) rfl (by kernel_rfl) (by kernel_rfl) (by kernel_rfl) (fun _ _ _ h => h) (Or.inr ⟨by rfl, rfl⟩) hS ?_
          try simp only [Act.put, putA, putZ, putS]
          refine wpAnyH_take (i := 21) (oi := ⟨some 79, _, _, _, _, _⟩) (v := undef) rfl (by kernel_rfl) (by kernel_rfl) (by kernel_rfl) (fun _ _ _ h => h) (Or.inr ⟨by rfl, rfl⟩) hS ?_
          try simp only [Act.put, putA, putZ, putS]
          refine wpAnyH_take (i := 22) (oi := ⟨some 80, _, _, _, _, _⟩) (v := undef) rfl (by kernel_rfl) (by kernel_rfl) (by kernel_rfl) (fun _ _ _ h => h) (Or.inr ⟨by rfl, rfl⟩) hS ?_
          try simp only [Act.put, putA, putZ, putS]
          refine wpAnyH_take (i := 23) (oi := ⟨some 81, _, _, _, _, _⟩) (v := undef) rfl (by kernel_rfl) (by kernel_rfl) (by kernel_rfl) (fun _ _ _ h => h) (Or.inr ⟨by rfl, rfl⟩) hS ?_
          try simp only [Act.put, putA, putZ, putS]
          refine wpAnyH_take (i := 24) (oi := ⟨some 82, _, _, _, _, _⟩) (v := undef) rfl (by kernel_rfl) (by kernel_rfl) (by kernel_rfl) (fun _ _ _ h => h) (Or.inr ⟨by rfl, rfl⟩) hS ?_
          try simp only [Act.put, putA, putZ, putS]
          refine wpAnyH_take (i := 25) (oi := ⟨some 83, _, _, _, _, _⟩) (v := undef) rfl (by kernel_rfl) (by kernel_rfl) (by kernel_rfl) (fun _ _ _ h => h) (Or.inr ⟨by rfl, rfl⟩) hS ?_
          try simp only [Act.put, putA, putZ, putS]
          refine wpAnyH_take (i := 26) (oi := ⟨some 84, _, _, _, _, _⟩) (v := undef) rfl (by kernel_rfl) (by kernel_rfl) (by kernel_rfl) (fun _ _ _ h => h) (Or.inr ⟨by rfl, rfl⟩) hS ?_
          try simp only [Act.put, putA, putZ, putS]
          refine wpAnyH_take (i := 27) (oi := ⟨some 85, _, _, _, _, _⟩) (v := undef) rfl (by kernel_rfl) (by kernel_rfl) (by kernel_rfl) (fun _ _ _ h => h) (Or.inr ⟨by rfl, rfl⟩) hS ?_
          try simp only [Act.put, putA, putZ, putS]
          refine tH 28 (oi := ⟨_, _, _, _, _, _⟩) (v := ?_) rfl (by kernel_rfl) (by rfl) (fun _ _ _ h => h) hS ?_ ?_
          rotate_left
          · rintro W' ⟨z0, z1, z2, z3, z4, z5, z6, z7⟩; go_simp; try with_reducible rfl
          try simp only [Act.put, putA, putZ, putS]
          refine wpAnyH_done (by kernel_rfl) ?_ _
          go_wp2_with fail
          go_meet
          exact ⟨by simp, HA0.out.sub (List.forall_mem_cons.2 ⟨.tail _ (.head _), List.forall_mem_cons.2 ⟨.tail _ (.tail _ (.head _)), List.forall_mem_nil _⟩⟩)⟩
        · by_cases e1 : dk = t.ng + 1
          · by_cases e2 : mk = t.ng
            · refine wp_region_held_drew (S := fun X => X.cell? ⟨J, 0, none⟩ = some (.int .i64 q1) ∧ X.cell? ⟨J, 1, none⟩ = some (.int .i64 q2) ∧ X.cell? ⟨w.heap.size + 1, 1, none⟩ = some (.slice (some ⟨bb, bo, none⟩) t.nb bc) ∧ X.cell? ⟨w.heap.size + 1, 2, none⟩ = some (.slice (some ⟨db, d0, none⟩) t.nb dc) ∧ X.cell? ⟨w.heap.size + 1, 3, none⟩ = some (.slice (some ⟨mb, mo, none⟩) t.nb mc) ∧ X.cell? ⟨bb, bo + k, none⟩ = some (.int .i64 bk) ∧ X.cell? ⟨db, d0 + k, none⟩ = some (.slice dra dk drc) ∧ X.cell? ⟨mb, mo + k, none⟩ = some (.slice mra mk mrc)) (by kernel_rfl) (⟨HAX.out.cell (.head _) 0, HAX.out.cell (.head _) 1, hS8⟩) (fun hS => ?_)
              generalize wz.drew = X at *
              refine tk [0, 1, 2, 3, 4, 5] ?_
              repeat (refine tkH (oi := ⟨_, _, _, _, _, _⟩) (v := ?_) rfl (by kernel_rfl) (by rfl) (fun _ _ _ h => h) hS ?_ ?_; rotate_left; (· rintro W' ⟨z0, z1, z2, z3, z4, z5, z6, z7⟩; go_simp; try with_reducible rfl); try simp only [Act.put, putA, putZ, putS])
              refine tk0 ?_
              refine wpAnyH_ready (rs := [6]) (by kernel_rfl) (by simp) ?_
              refine AllReadyH.cons (o := ⟨some 64, _, _, _, _, _⟩) rfl (fun K hK => ?_) AllReadyH.nil
              go_simp
              refine (has_any q1 q2 bk _).mono ?_
              rw [HH.out]
              rintro _ X0 ⟨rfl, hb0⟩
              (try go_wp2_with fail)
              have HA0 := Lib.hid (HAX.out.below hb0)
              refine hK.out _ _ (⟨HA0.out.cell (.head _) 0, HA0.out.cell (.head _) 1, HC8.out _ (HA0.out.sub (List.forall_mem_cons.2 ⟨.tail _ (.head _), List.forall_mem_cons.2 ⟨.tail _ (.tail _ (.head _)), List.forall_mem_nil _⟩⟩))⟩) (fun hS => ?_)
              clear hK K
              try simp only [Act.put, putA, putZ, putS]
              clear hb0
              refine tk [7, 8, 9, 10, 11, 12, 13, 14, 15, 16] ?_
              repeat (refine tkH (oi := ⟨_, _, _, _, _, _⟩) (v := ?_) rfl (by kernel_rfl) (by rfl) (fun _ _ _ h => h) hS ?_ ?_; rotate_left; (· rintro W' ⟨z0, z1, z2, z3, z4, z5, z6, z7⟩; go_simp; try with_reducible rfl); try simp only [Act.put, putA, putZ, putS])
              refine tk0 ?_
              refine tH 17 (oi := ⟨_, _, _, _, _, _⟩) (v := .bool false) rfl (by kernel_rfl) (by rfl) (fun _ _ _ h => h) hS ?_ ?_
              · rintro W' ⟨z0, z1, z2, z3, z4, z5, z6, z7⟩; go_simp; (try omega)
              try simp only [Act.put, putA, putZ, putS]
              refine tk [18, 19, 20, 21, 22, 23, 24, 25, 26] ?_
              repeat (refine tkH (oi := ⟨_, _, _, _, _, _⟩) (v := ?_) rfl (by kernel_rfl) (by rfl) (fun _ _ _ h => h) hS ?_ ?_; rotate_left; (· rintro W' ⟨z0, z1, z2, z3, z4, z5, z6, z7⟩; go_simp; try with_reducible rfl); try simp only [Act.put, putA, putZ, putS])
              refine tk0 ?_
              refine tH 27 (oi := ⟨_, _, _, _, _, _⟩) (v := .bool false) rfl (by kernel_rfl) (by rfl) (fun _ _ _ h => h) hS ?_ ?_
              · rintro W' ⟨z0, z1, z2, z3, z4, z5, z6, z7⟩; go_simp; (try omega)
              try simp only [Act.put, putA, putZ, putS]
              refine tH 28 (oi := ⟨_, _, _, _, _, _⟩) (v := ?_) rfl (by kernel_rfl) (by rfl) (fun _ _ _ h => h) hS ?_ ?_
              rotate_left
              · rintro W' ⟨z0, z1, z2, z3, z4, z5, z6, z7⟩; go_simp; try with_reducible rfl
              try simp only [Act.put, putA, putZ, putS]
              refine wpAnyH_done (by kernel_rfl) ?_ _
              go_wp2_with fail
              go_meet
              exact ⟨by rw [decide_eq_true e1, decide_eq_true e2]; simp, HA0.out.sub (List.forall_mem_cons.2 ⟨.tail _ (.head _), List.forall_mem_cons.2 ⟨.tail _ (.tail _ (.head _)), List.forall_mem_nil _⟩⟩)⟩
            · refine wp_region_held_drew (S := fun X => X.cell? ⟨J, 0, none⟩ = some (.int .i64 q1) ∧ X.cell? ⟨J, 1, none⟩ = some (.int .i64 q2) ∧ X.cell? ⟨w.heap.size + 1, 1, none⟩ = some (.slice (some ⟨bb, bo, none⟩) t.nb bc) ∧ X.cell? ⟨w.heap.size + 1, 2, none⟩ = some (.slice (some ⟨db, d0, none⟩) t.nb dc) ∧ X.cell? ⟨w.heap.size + 1, 3, none⟩ = some (.slice (some ⟨mb, mo, none⟩) t.nb mc) ∧ X.cell? ⟨bb, bo + k, none⟩ = some (.int .i64 bk) ∧ X.cell? ⟨db, d0 + k, none⟩ = some (.slice dra dk drc) ∧ X.cell? ⟨mb, mo + k, none⟩ = some (.slice mra mk mrc)) (by kernel_rfl) (⟨HAX.out.cell (.head _) 0, HAX.out.cell (.head _) 1, hS8⟩) (fun hS => ?_)
              generalize wz.drew = X at *
              refine tk [0, 1, 2, 3, 4, 5] ?_
              repeat (refine tkH (oi := ⟨_, _, _, _, _, _⟩) (v := ?_) rfl (by kernel_rfl) (by rfl) (fun _ _ _ h => h) hS ?_ ?_; rotate_left; (· rintro W' ⟨z0, z1, z2, z3, z4, z5, z6, z7⟩; go_simp; try with_reducible rfl); try simp only [Act.put, putA, putZ, putS])
              refine tk0 ?_
              refine wpAnyH_ready (rs := [6]) (by kernel_rfl) (by simp) ?_
              refine AllReadyH.cons (o := ⟨some 64, _, _, _, _, _⟩) rfl (fun K hK => ?_) AllReadyH.nil
              go_simp
              refine (has_any q1 q2 bk _).mono ?_
              rw [HH.out]
              rintro _ X0 ⟨rfl, hb0⟩
              (try go_wp2_with fail)
              have HA0 := Lib.hid (HAX.out.below hb0)
              refine hK.out _ _ (⟨HA0.out.cell (.head _) 0, HA0.out.cell (.head _) 1, HC8.out _ (HA0.out.sub (List.forall_mem_cons.2 ⟨.tail _ (.head _), List.forall_mem_cons.2 ⟨.tail _ (.tail _ (.head _)), List.forall_mem_nil _⟩⟩))⟩) (fun hS => ?_)
              clear hK K
              try simp only [Act.put, putA, putZ, putS]
              clear hb0
              refine tk [7, 8, 9, 10, 11, 12, 13, 14, 15, 16] ?_
              repeat (refine tkH (oi := ⟨_, _, _, _, _, _⟩) (v := ?_) rfl (by kernel_rfl) (by rfl) (fun _ _ _ h => h) hS ?_ ?_; rotate_left; (· rintro W' ⟨z0, z1, z2, z3, z4, z5, z6, z7⟩; go_simp; try with_reducible rfl); try simp only [Act.put, putA, putZ, putS])
              refine tk0 ?_
              refine tH 17 (oi := ⟨_, _, _, _, _, _⟩) (v := .bool false) rfl (by kernel_rfl) (by rfl) (fun _ _ _ h => h) hS ?_ ?_
              · rintro W' ⟨z0, z1, z2, z3, z4, z5, z6, z7⟩; go_simp; (try omega)
              try simp only [Act.put, putA, putZ, putS]
              refine tk [18, 19, 20, 21, 22, 23, 24, 25, 26] ?_
              repeat (refine tkH (oi := ⟨_, _, _, _, _, _⟩) (v := ?_) rfl (by kernel_rfl) (by rfl) (fun _ _ _ h => h) hS ?_ ?_; rotate_left; (· rintro W' ⟨z0, z1, z2, z3, z4, z5, z6, z7⟩; go_simp; try with_reducible rfl); try simp only [Act.put, putA, putZ, putS])
              refine tk0 ?_
              refine tH 27 (oi := ⟨_, _, _, _, _, _⟩) (v := .bool true) rfl (by kernel_rfl) (by rfl) (fun _ _ _ h => h) hS ?_ ?_
              · rintro W' ⟨z0, z1, z2, z3, z4, z5, z6, z7⟩; go_simp; (try omega)
              try simp only [Act.put, putA, putZ, putS]
              refine tH 28 (oi := ⟨_, _, _, _, _, _⟩) (v := ?_) rfl (by kernel_rfl) (by rfl) (fun _ _ _ h => h) hS ?_ ?_
              rotate_left
              · rintro W' ⟨z0, z1, z2, z3, z4, z5, z6, z7⟩; go_simp; try with_reducible rfl
              try simp only [Act.put, putA, putZ, putS]
              refine wpAnyH_done (by kernel_rfl) ?_ _
              go_wp2_with fail
              go_meet
              exact ⟨by rw [decide_eq_true e1, decide_eq_false e2]; simp, HA0.out.sub (List.forall_mem_cons.2 ⟨.tail _ (.head _), List.forall_mem_cons.2 ⟨.tail _ (.tail _ (.head _)), List.forall_mem_nil _⟩⟩)⟩
          · refine wp_region_held_drew (S := fun X => X.cell? ⟨J, 0, none⟩ = some (.int .i64 q1) ∧ X.cell? ⟨J, 1, none⟩ = some (.int .i64 q2) ∧ X.cell? ⟨w.heap.size + 1, 1, none⟩ = some (.slice (some ⟨bb, bo, none⟩) t.nb bc) ∧ X.cell? ⟨w.heap.size + 1, 2, none⟩ = some (.slice (some ⟨db, d0, none⟩) t.nb dc) ∧ X.cell? ⟨w.heap.size + 1, 3, none⟩ = some (.slice (some ⟨mb, mo, none⟩) t.nb mc) ∧ X.cell? ⟨bb, bo + k, none⟩ = some (.int .i64 bk) ∧ X.cell? ⟨db, d0 + k, none⟩ = some (.slice dra dk drc) ∧ X.cell? ⟨mb, mo + k, none⟩ = some (.slice mra mk mrc)) (by kernel_rfl) (⟨HAX.out.cell (.head _) 0, HAX.out.cell (.head _) 1, hS8⟩) (fun hS => ?_)
            generalize wz.drew = X at *
            refine tk [0, 1, 2, 3, 4, 5] ?_
            repeat (refine tkH (oi := ⟨_, _, _, _, _, _⟩) (v := ?_) rfl (by kernel_rfl) (by rfl) (fun _ _ _ h => h) hS ?_ ?_; rotate_left; (· rintro W' ⟨z0, z1, z2, z3, z4, z5, z6, z7⟩; go_simp; try with_reducible rfl); try simp only [Act.put, putA, putZ, putS])
            refine tk0 ?_
            refine wpAnyH_ready (rs := [6]) (by kernel_rfl) (by simp) ?_
            refine AllReadyH.cons (o := ⟨some 64, _, _, _, _, _⟩) rfl (fun K hK => ?_) AllReadyH.nil
            go_simp
            refine (has_any q1 q2 bk _).mono ?_
            rw [HH.out]
            rintro _ X0 ⟨rfl, hb0⟩
            (try go_wp2_with fail)
            have HA0 := Lib.hid (HAX.out.below hb0)
            refine hK.out _ _ (⟨HA0.out.cell (.head _) 0, HA0.out.cell (.head _) 1, HC8.out _ (HA0.out.sub (List.forall_mem_cons.2 ⟨.tail _ (.head _), List.forall_mem_cons.2 ⟨.tail _ (.tail _ (.head _)), List.forall_mem_nil _⟩⟩))⟩) (fun hS => ?_)
            clear hK K
            try simp only [Act.put, putA, putZ, putS]
            clear hb0
            refine tk [7, 8, 9, 10, 11, 12, 13, 14, 15, 16] ?_
            repeat (refine tkH (oi := ⟨_, _, _, _, _, _⟩) (v := ?_) rfl (by kernel_rfl) (by rfl) (fun _ _ _ h => h) hS ?_ ?_; rotate_left; (· rintro W' ⟨z0, z1, z2, z3, z4, z5, z6, z7⟩; go_simp; try with_reducible rfl); try simp only [Act.put, putA, putZ, putS])
            refine tk0 ?_
            refine tH 17 (oi := ⟨_, _, _, _, _, _⟩) (v := .bool true) rfl (by kernel_rfl) (by rfl) (fun _ _ _ h => h) hS ?_ ?_
            · rintro W' ⟨z0, z1, z2, z3, z4, z5, z6, z7⟩; go_simp; (try omega)
            try simp only [Act.put, putA, putZ, putS]
            refine tk [18, 19] ?_
            repeat (refine tkH (oi := ⟨_, _, _, _, _, _⟩) (v := ?_) rfl (by kernel_rfl) (by rfl) (fun _ _ _ h => h) hS ?_ ?_; rotate_left; (· rintro W' ⟨z0, z1, z2, z3, z4, z5, z6, z7⟩; go_simp; try with_reducible rfl); try simp only [Act.put, putA, putZ, putS])
            refine tk0 ?_
            refine wpAnyH_take (i := 20) (oi := ⟨some 78, _, _, _, _, _⟩) (v := undef) rfl (by kernel_rfl) (by kernel_rfl) (by kernel_rfl) (fun _ _ _ h => h) (Or.inr ⟨by rfl, rfl⟩) hS ?_
            try simp only [Act.put, putA, putZ, putS]
            refine wpAnyH_take (i := 21) (oi := ⟨some 79, _, _, _, _, _⟩) (v := undef) rfl (by kernel_rfl) (by kernel_rfl) (by kernel_rfl) (fun _ _ _ h => h) (Or.inr ⟨by rfl, rfl⟩) hS ?_
            try simp only [Act.put, putA, putZ, putS]
            refine wpAnyH_take (i := 22) (oi := ⟨some 80, _, _, _, _, _⟩) (v := undef) rfl (by kernel_rfl) (by kernel_rfl) (by kernel_rfl) (fun _ _ _ h => h) (Or.inr ⟨by rfl, rfl⟩) hS ?_
            try simp only [Act.put, putA, putZ, putS]
            refine wpAnyH_take (i := 23) (oi := ⟨some 81, _, _, _, _, _⟩) (v := undef) rfl (by kernel_rfl) (by kernel_rfl) (by kernel_rfl) (fun _ _ _ h => h) (Or.inr ⟨by rfl, rfl⟩) hS ?_
            try simp only [Act.put, putA, putZ, putS]
            refine wpAnyH_take (i := 24) (oi := ⟨some 82, _, _, _, _, _⟩) (v := undef) rfl (by kernel_rfl) (by kernel_rfl) (by kernel_rfl) (fun _ _ _ h => h) (Or.inr ⟨by rfl, rfl⟩) hS ?_
            try simp only [Act.put, putA, putZ, putS]
            refine wpAnyH_take (i := 25) (oi := ⟨some 83, _, _, _, _, _⟩) (v := undef) rfl (by kernel_rfl) (by kernel_rfl) (by kernel_rfl) (fun _ _ _ h => h) (Or.inr ⟨by rfl, rfl⟩) hS ?_
            try simp only [Act.put, putA, putZ, putS]
            refine wpAnyH_take (i := 26) (oi := ⟨some 84, _, _, _, _, _⟩) (v := undef) rfl (by kernel_rfl) (by kernel_rfl) (by kernel_rfl) (fun _ _ _ h => h) (Or.inr ⟨by rfl, rfl⟩) hS ?_
            try simp only [Act.put, putA, putZ, putS]
            refine wpAnyH_take (i := 27) (oi := ⟨some 85, _, _, _, _, _⟩) (v := undef) rfl (by kernel_rfl) (by kernel_rfl) (by kernel_rfl) (fun _ _ _ h => h) (Or.inr ⟨by rfl, rfl⟩) hS ?_
            try simp only [Act.put, putA, putZ, putS]
            refine tH 28 (oi := ⟨_, _, _, _, _, _⟩) (v := ?_) rfl (by kernel_rfl) (by rfl) (fun _ _ _ h => h) hS ?_ ?_
            rotate_left
            · rintro W' ⟨z0, z1, z2, z3, z4, z5, z6, z7⟩; go_simp; try with_reducible rfl
            try simp only [Act.put, putA, putZ, putS]
            refine wpAnyH_done (by kernel_rfl) ?_ _
            go_wp2_with fail
            go_meet
            exact ⟨by rw [decide_eq_false e1]; simp, HA0.out.sub (List.forall_mem_cons.2 ⟨.tail _ (.head _), List.forall_mem_cons.2 ⟨.tail _ (.tail _ (.head _)), List.forall_mem_nil _⟩⟩)⟩
      rename World => wy
      obtain ⟨rfl, hby⟩ := hcut
      have HAY := Lib.hid hby
      clear hby HAX HAZ
      obtain ⟨ok, HOK⟩ : ∃ ok, Hid ((hh && (decide (dk = t.ng + 1) && decide (mk = t.ng))) = ok) := ⟨_, rfl⟩
      rw [HOK.out]
      cases ok
      · go_wp2_with fail
        go_ret
        refine ⟨ret_bool ?_, HAY.out.fr⟩
        rw [HRES.out, allB_false (k := k) hlt]
        rw [HROW.out]
        exact and4 _ _ _ _ HOK.out
      · rw [Bool.not_true]
        have h := HOK.out
        simp only [Bool.and_eq_true, decide_eq_true_eq] at h
        obtain ⟨rfl, rfl, rfl⟩ := h
        have HROW2 : Hid (trRow t ⟨t.ng, xf, t.nb, xb, t.nb, dl, xd, t.nb, ml, xm⟩ k = allB (fun g => inB (xm k g) (t.n g).1 (t.n g).2) t.ng) := by
          unfold Hid
          rw [HROW.out, decide_eq_true rfl, decide_eq_true rfl]
          simp
        clear HROW HOK
        obtain ⟨_, _, z2, _, _, z5⟩ := HC8.out _ HAY.out
        go_wp2_with fail
        go_loopw [93] (fun i wr => ∃ g : Nat, g ≤ t.ng ∧ i = .int .i64 g ∧ BF w wr [(w.heap.size, #[.slice uca t.nc ucc, .slice (some ⟨b1, o1, none⟩) t.nb ubc, .slice ura t.nr urc, .slice una t.nn unc], 36), (w.heap.size + 1, #[.slice fa t.ng fc, .slice (some ⟨bb, bo, none⟩) t.nb bc, .slice (some ⟨db, d0, none⟩) t.nb dc, .slice (some ⟨mb, mo, none⟩) t.nb mc], 100)] ∧ ∀ q, q < g → inB (xm k q) (t.n q).1 (t.n q).2 = true) (fun i _ => t.ng - (intOf i).toNat)
        case atStart => exact ⟨0, Nat.zero_le _, rfl, HAY.out, fun _ h => absurd h (Nat.not_lt_zero _)⟩
        case round =>
          obtain ⟨g, hg, rfl, hbf, hall⟩ := hrel
          rename World => wv
          have HA := Lib.hid hbf; have HQ2 := Lib.hid hall
          clear hbf hall HAY z2 z5
          have gi : (0 : Int) ≤ (g : Int) := by omega
          by_cases hlg : g < t.ng
          · have gj : (g : Int) < (t.ng : Int) := by omega
            have gn : (g : Int) < (t.nn : Int) := by have := HNN.out; omega
            obtain ⟨vb, vo, rfl, hvb, m1⟩ := HMR.out.at hlg
            obtain ⟨n1, no, rfl, hn1, p1, p2⟩ := HL.out.2.2.2.at (k := g) (by have := HNN.out; omega)
            obtain ⟨s1, s2, HN⟩ : ∃ s1 s2, Hid (t.n g = (s1, s2)) := ⟨_, _, rfl⟩
            obtain ⟨mg, HM⟩ : ∃ mg, Hid (xm k g = mg) := ⟨_, rfl⟩
            rw [HN.out] at p1 p2
            rw [HM.out] at m1
            have m2 := kept HA.out.fr hvb m1
            have p3 := kept HA.out.fr hn1 p1
            have p4 := kept HA.out.fr hn1 p2
            have k3 := HA.out.cell (.head _) 3
            obtain ⟨ih, HIH⟩ : ∃ ih, Hid (inB mg s1 s2 = ih) := ⟨_, rfl⟩
            have HQ3 : Hid (inB (xm k g) (t.n g).1 (t.n g).2 = ih) := by unfold Hid; rw [HN.out, HM.out]; exact HIH.out
            have HHA : Hid (∀ X, Calls Try.prog 89 #[.agg #[.int .i64 s1, .int .i64 s2], .int .i64 mg] X fun e w' => e = .returned (.bool ih) ∧ Below X.heap.size X w') := fun X => by
              have h := has_any s1 s2 mg X
              rw [HIH.out] at h
              exact h
            clear m1 p1 p2 hvb hn1
            cases ih
            · go_wp2_with (go_at_call 89; refine (HHA.out _).mono ?_; rintro _ w9 ⟨rfl, hb9⟩; have HA9 := Lib.hid (HA.out.below hb9); clear hb9)
              go_ret
              refine ⟨ret_bool ?_, HA9.out.fr⟩
              rw [HRES.out, allB_false (k := k) hlt]
              rw [HROW2.out, allB_false (k := g) hlg HQ3.out]
            · go_wp2_with (go_at_call 89; refine (HHA.out _).mono ?_; rintro _ w9 ⟨rfl, hb9⟩; have HA9 := Lib.hid (HA.out.below hb9); clear hb9)
              go_roundw
              case rel => exact ⟨g + 1, by omega, by go_num, HA9.out, fun q hq => by
                rcases Nat.lt_succ_iff_lt_or_eq.1 hq with h | rfl
                · exact HQ2.out q h
                · exact HQ3.out⟩
              case measure => simp [intOf]; omega
          · obtain rfl : g = t.ng := by omega
            go_wp2_with fail
            go_roundw
            case rel => exact ⟨k + 1, by omega, by go_num, HA.out, fun q hq => by
              rcases Nat.lt_succ_iff_lt_or_eq.1 hq with h | rfl
              · exact HQ.out q h
              · rw [HROW2.out]; exact allB_true HQ2.out⟩
            case measure => simp [intOf]; omega
    · obtain rfl : k = t.nb := by omega
      go_wp2_with fail
      go_ret
      exact ⟨ret_bool (by rw [HRES.out, allB_true HQ.out]), HA.out.fr⟩
end Go.Proofs.Ytjaoflfophcibaa
