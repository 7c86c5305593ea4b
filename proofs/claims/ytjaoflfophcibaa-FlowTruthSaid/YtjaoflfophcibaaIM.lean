/- Play (the program's): sizes. Printed by gen_im.py. -/
import Derived.Test.YtjaoflfophcibaaIL
namespace Go.Proofs.Ytjaoflfophcibaa
open Go.RowKit Go.Shelf

theorem stP_siz {last : Nat} {M A D : Nat → Int} {ng : Nat} (hM : ∀ g, g < ng → -9223372036854775808 ≤ M g ∧ M g ≤ 9223372036854775807) (hl : last < ng) : ∀ k g, g < ng → stP last M A D k g = wrap64 (addP last A D k g + M g)
  | 0, g, hg => by
    unfold stP addP
    rw [Int.zero_add, IntWalk.wrap64_in _ (hM g hg)]
  | k + 1, g, hg => by
    have h1 := stP_siz (A := A) (D := D) hM hl k g hg
    unfold stP addP
    by_cases e : g = min k last
    · rw [if_pos e, if_pos e, ← e, h1]
      unfold wrap64
      omega
    · rw [if_neg e, if_neg e, h1]
theorem canR_congr {S S' : Nat → Int} : ∀ n b, (∀ g, g < n → S g = S' g) → canR S n b = canR S' n b
  | 0, _, _ => rfl
  | n + 1, b, h => by
    unfold canR
    rw [canR_congr n b (fun g hg => h g (by omega)), h n (by omega)]
/-- The moves of a truth are numbers of 64 bits. -/
def M64 (t : Tb) (x : Tr) : Prop := ∀ c, c < t.nb → ∀ g, g < t.ng → -9223372036854775808 ≤ x.m c g ∧ x.m c g ≤ 9223372036854775807
theorem canC_next (t : Tb) (x : Tr) (c : Nat) : canC t x (c + 1) = (canC t x c && canR (siz t.ng x (c + 1)) t.ng (canD t.r (allS (x.b c) (siz t.ng x c)) (x.d c) (t.ng + 1) true)) := by
  show canR _ _ (canD _ _ _ _ (canC t x c)) = _
  rw [canR_and _ _ (canD t.r (allS (x.b c) (siz t.ng x c)) (x.d c) (t.ng + 1) (canC t x c)), canR_and _ _ (canD t.r (allS (x.b c) (siz t.ng x c)) (x.d c) (t.ng + 1) true), canD_and _ _ _ _ (canC t x c), Bool.and_assoc]
/-- step at census c of a truth. -/
theorem step_siz (t : Tb) (x : Tr) (c : Nat) (w : World) (tc tb tn : Value) (ra sa da ma : Option Addr) (rc sc dc mc : Nat) (hr : RsAt w (.slice ra t.nr rc) t.nr t.r) (hs : IntsAt w (.slice sa t.ng sc) t.ng (siz t.ng x c)) (hd : IntsAt w (.slice da (t.ng + 1) dc) (t.ng + 1) (x.d c)) (hm : IntsAt w (.slice ma t.ng mc) t.ng (x.m c))
    (hg1 : 1 ≤ t.ng) (hg2 : t.ng ≤ 100) (hnr : t.ng < t.nr) (hM : ∀ g, g < t.ng → -9223372036854775808 ≤ x.m c g ∧ x.m c g ≤ 9223372036854775807) (ht : ∃ x1 x2 x3 y1 y2 y3 z1 z2 z3, tc = .slice x1 x2 x3 ∧ tb = .slice y1 y2 y3 ∧ tn = .slice z1 z2 z3) :
    Calls Try.prog 114 #[.agg #[tc, tb, .slice ra t.nr rc, tn], .slice sa t.ng sc, .int .i64 (x.b c), .slice da (t.ng + 1) dc, .slice ma t.ng mc] w fun e w' => ∃ v, e = .returned (.tuple #[v, .bool (canR (siz t.ng x (c + 1)) t.ng (canD t.r (allS (x.b c) (siz t.ng x c)) (x.d c) (t.ng + 1) true))]) ∧ w'.ownsRow w.heap.size 3 1 v t.ng (iL (siz t.ng x (c + 1)) t.ng) ∧ Below w.heap.size w w' := by
  have h := step_any w tc tb tn ra sa da ma rc t.nr sc t.ng (t.ng + 1) dc mc t.r (siz t.ng x c) (x.d c) (x.m c) (x.b c) hr hs hd hm hg1 hg2 hnr (by omega) ht
  have e : ∀ g, g < t.ng → stP (t.ng - 1) (x.m c) (allS (x.b c) (siz t.ng x c)) (x.d c) (t.ng + 1) g = siz t.ng x (c + 1) g := fun g hg => stP_siz hM (by omega) (t.ng + 1) g hg
  rw [canR_congr _ _ e, iL_congr e] at h
  exact h
set_option maxRecDepth 100000 in
set_option maxHeartbeats 4000000 in
theorem sizes_any (u : WV) (t : Tb) (y : XV) (x : Tr) (w : World) (hl : WL w u t) (hx : XL w y x) (hp : PlayOk t x) (hM : M64 t x) :
    Calls Try.prog 86 #[.agg #[u.cv t, u.bv t, u.rv t, u.nv t], .agg #[.slice y.fa x.nf y.fc, .slice y.ba x.nb y.bc, .slice y.da x.nd y.dc, .slice y.ma x.nm y.mc]] w fun e w' => ∃ v, e = .returned (.tuple #[v, .bool (canC t x t.nb)]) ∧ IRows w' v (t.nb + 1) (fun _ => t.ng) (siz t.ng x) ∧ Below w.heap.size w w' := by
  obtain ⟨i1, hi1, hy0, hy1, hy2⟩ := info_parts Try.infoInts
  have ng1 := hp.ng1; have ng4 := hp.ng4; have nb8 := hp.nb8
  have HP := Lib.hid hp; have HRR := Lib.hid hl.2.2.1; have HM := Lib.hid hM
  have HXF := Lib.hid hx.1; have HXB := Lib.hid hx.2.1; have HXD := Lib.hid hx.2.2.1; have HXM := Lib.hid hx.2.2.2
  have hnf := hp.nf
  clear hl hx hp hM
  obtain ⟨uca, ucc, uba, ubc, ura, urc, una, unc⟩ := u
  obtain ⟨fa, fc, ba, bc, da, dc, ma, mc⟩ := y
  simp only [WV.cv, WV.bv, WV.rv, WV.nv] at HRR ⊢
  simp only at HXF HXB HXD HXM
  rw [hnf] at HXF ⊢
  have HA0 : Hid (BF w ((w.alloc (.cells #[.slice uca t.nc ucc, .slice uba t.nb ubc, .slice ura t.nr urc, .slice una t.nn unc] 36)).alloc (.cells #[.slice fa t.ng fc, .slice ba x.nb bc, .slice da x.nd dc, .slice ma x.nm mc] 100)) [(w.heap.size, #[.slice uca t.nc ucc, .slice uba t.nb ubc, .slice ura t.nr urc, .slice una t.nn unc], 36), (w.heap.size + 1, #[.slice fa t.ng fc, .slice ba x.nb bc, .slice da x.nd dc, .slice ma x.nm mc], 100)]) := BF.made2 w _ _ _ _
  go_enter Try.func86, Try.ntmps86
  go_wp2_with fail
  refine (clone_ints _ t.ng x.f _ (by omega) (HXF.out.below HA0.out.fr)).mono ?_
  rintro _ w5 ⟨v5, rfl, ho5, hb5⟩
  obtain ⟨na, nc, rfl⟩ := own_slice' ho5
  have HA5 := Lib.hid (HA0.out.below hb5)
  have HO5 := Lib.hid (own_mono ho5 HA0.out.fr.size)
  clear ho5 hb5 HA0
  have HA6 : Hid (BF w (w5.alloc (.cells #[.slice na t.ng nc] 72)) [(w.heap.size, #[.slice uca t.nc ucc, .slice uba t.nb ubc, .slice ura t.nr urc, .slice una t.nn unc], 36), (w.heap.size + 1, #[.slice fa t.ng fc, .slice ba x.nb bc, .slice da x.nd dc, .slice ma x.nm mc], 100)]) := HA5.out.below (below_alloc _ _)
  have HO6 : Hid (IRowsO w.heap.size (w5.alloc (.cells #[.slice na t.ng nc] 72)) (.slice (some ⟨w5.heap.size, 0, none⟩) 1 1) 1 (fun _ => t.ng) (siz t.ng x) (fun _ => .slice na t.ng nc)) := by
    refine ⟨⟨rfl, .inr ⟨w5.heap.size, 1, #[.slice na t.ng nc], rfl, HA5.out.fr.size, heap_alloc_new _ _, Nat.le_refl _, by unfold maxLen; omega, by simp, by simp⟩⟩, fun j hj => ?_⟩
    obtain rfl : j = 0 := by omega
    exact own_below HO5.out (below_alloc _ _)
  have k1 := HA6.out.cell (.head _) 1
  clear HO5 HA5
  go_wp2_with fail
  generalize (w5.alloc (.cells #[.slice na t.ng nc] 72)) = w6 at *
  clear k1
  go_loopw [4, 5, 16] (fun ov cb i wr => ∃ (k : Nat) (va : Option Addr) (vc : Nat) (vs : Nat → Value), k ≤ t.nb ∧ i = .int .i64 k ∧ ov = .slice va (k + 1) vc ∧ cb = .bool (canC t x k) ∧ BF w wr [(w.heap.size, #[.slice uca t.nc ucc, .slice uba t.nb ubc, .slice ura t.nr urc, .slice una t.nn unc], 36), (w.heap.size + 1, #[.slice fa t.ng fc, .slice ba x.nb bc, .slice da x.nd dc, .slice ma x.nm mc], 100)] ∧ IRowsO w.heap.size wr (.slice va (k + 1) vc) (k + 1) (fun _ => t.ng) (siz t.ng x) vs) (fun _ _ i _ => t.nb - (intOf i).toNat)
  case atStart => exact ⟨0, _, 1, _, Nat.zero_le _, rfl, rfl, rfl, HA6.out, HO6.out⟩
  case round =>
    obtain ⟨k, va, vc, vs, hk, rfl, rfl, rfl, hbf, hro⟩ := hrel
    rename World => wx
    have HA := Lib.hid hbf; have HO := Lib.hid hro
    clear hbf hro HA6 HO6
    have ki : (0 : Int) ≤ (k : Int) := by omega
    by_cases hlt : k < t.nb
    · have kj : (k : Int) < (t.nb : Int) := by omega
      have kb : (k : Int) < (x.nb : Int) := by have := HP.out.b; omega
      have kd : (k : Int) < (x.nd : Int) := by have := HP.out.d; omega
      have km : (k : Int) < (x.nm : Int) := by have := HP.out.m; omega
      have kv : (k : Int) < (k : Int) + 1 := by omega
      obtain ⟨bb, bo, rfl, hbb, y1⟩ := HXB.out.at (k := k) (by omega)
      obtain ⟨db, d0, dra, drc, rfl, hdb, y2, hdr⟩ := HXD.out.at (k := k) (by omega)
      obtain ⟨mb, mo, mra, mrc, rfl, hmb, y3, hmr⟩ := HXM.out.at (k := k) (by omega)
      obtain ⟨vb, vo, sra, src, rfl, hvb, y4, hsr⟩ := HO.out.rows.at (k := k) (by omega)
      rw [HP.out.dl k hlt] at y2 hdr
      rw [HP.out.ml k hlt] at y3 hmr
      have hb := kept HA.out.fr hbb y1
      have hd := kept HA.out.fr hdb y2
      have hm := kept HA.out.fr hmb y3
      obtain ⟨bk, HBK⟩ : ∃ bk, Hid (x.b k = bk) := ⟨_, rfl⟩
      rw [HBK.out] at hb
      have HC5 : Hid (∀ X, Below wx.heap.size wx X → (X.cell? ⟨w.heap.size, 0, none⟩ = some (.slice uca t.nc ucc) ∧ X.cell? ⟨w.heap.size, 1, none⟩ = some (.slice uba t.nb ubc) ∧ X.cell? ⟨w.heap.size, 2, none⟩ = some (.slice ura t.nr urc) ∧ X.cell? ⟨w.heap.size, 3, none⟩ = some (.slice una t.nn unc) ∧ X.cell? ⟨w.heap.size + 1, 1, none⟩ = some (.slice (some ⟨bb, bo, none⟩) x.nb bc) ∧ X.cell? ⟨w.heap.size + 1, 2, none⟩ = some (.slice (some ⟨db, d0, none⟩) x.nd dc) ∧ X.cell? ⟨w.heap.size + 1, 3, none⟩ = some (.slice (some ⟨mb, mo, none⟩) x.nm mc) ∧ X.cell? ⟨vb, vo + k, none⟩ = some (.slice sra t.ng src) ∧ X.cell? ⟨bb, bo + k, none⟩ = some (.int .i64 bk) ∧ X.cell? ⟨db, d0 + k, none⟩ = some (.slice dra (t.ng + 1) drc) ∧ X.cell? ⟨mb, mo + k, none⟩ = some (.slice mra t.ng mrc))) := fun X hX => by
        have hA := HA.out.below hX
        exact ⟨hA.cell (.head _) 0, hA.cell (.head _) 1, hA.cell (.head _) 2, hA.cell (.head _) 3, hA.cell (.tail _ (.head _)) 1, hA.cell (.tail _ (.head _)) 2, hA.cell (.tail _ (.head _)) 3, kept hX hvb y4, kept hA.fr hbb (by rw [← HBK.out]; exact y1), kept hA.fr hdb y2, kept hA.fr hmb y3⟩
      obtain ⟨mm, HMM⟩ : ∃ mm, Hid (canR (siz t.ng x (k + 1)) t.ng (canD t.r (allS (x.b k) (siz t.ng x k)) (x.d k) (t.ng + 1) true) = mm) := ⟨_, rfl⟩
      have HST : Hid (∀ X, Below wx.heap.size wx X → Calls Try.prog 114 #[.agg #[.slice uca t.nc ucc, .slice uba t.nb ubc, .slice ura t.nr urc, .slice una t.nn unc], .slice sra t.ng src, .int .i64 bk, .slice dra (t.ng + 1) drc, .slice mra t.ng mrc] X fun e w' => ∃ v, e = .returned (.tuple #[v, .bool mm]) ∧ w'.ownsRow X.heap.size 3 1 v t.ng (iL (siz t.ng x (k + 1)) t.ng) ∧ Below X.heap.size X w') := fun X hX => by
        have hA := HA.out.below hX
        have h := step_siz t x k X (.slice uca t.nc ucc) (.slice uba t.nb ubc) (.slice una t.nn unc) ura sra dra mra urc src drc mrc (HRR.out.below hA.fr) (hsr.below hX) (hdr.below hA.fr) (hmr.below hA.fr) ng1 (by omega) (by have := HP.out.nr; omega) (HM.out k hlt) ⟨_, _, _, _, _, _, _, _, _, rfl, rfl, rfl⟩
        rw [HMM.out, HBK.out] at h
        exact h
      clear hb hd hm y1 y2 y3 y4 hbb hdb hmb hvb hsr hdr hmr
      go_wp2_with fail
      go_cut [7, 8] (fun s7 s8 wy => ∃ qa qc, s7 = .slice qa t.ng qc ∧ s8 = .bool mm ∧ wy.ownsRow w.heap.size 3 1 (.slice qa t.ng qc) t.ng (iL (siz t.ng x (k + 1)) t.ng) ∧ Below wx.heap.size wx wy)
      case first =>
        have HAX : Hid (Below wx.heap.size wx wx.drew) := (Below.refl _ _).drew
        refine wp_region_held_drew (S := fun X => X.cell? ⟨w.heap.size, 0, none⟩ = some (.slice uca t.nc ucc) ∧ X.cell? ⟨w.heap.size, 1, none⟩ = some (.slice uba t.nb ubc) ∧ X.cell? ⟨w.heap.size, 2, none⟩ = some (.slice ura t.nr urc) ∧ X.cell? ⟨w.heap.size, 3, none⟩ = some (.slice una t.nn unc) ∧ X.cell? ⟨w.heap.size + 1, 1, none⟩ = some (.slice (some ⟨bb, bo, none⟩) x.nb bc) ∧ X.cell? ⟨w.heap.size + 1, 2, none⟩ = some (.slice (some ⟨db, d0, none⟩) x.nd dc) ∧ X.cell? ⟨w.heap.size + 1, 3, none⟩ = some (.slice (some ⟨mb, mo, none⟩) x.nm mc) ∧ X.cell? ⟨vb, vo + k, none⟩ = some (.slice sra t.ng src) ∧ X.cell? ⟨bb, bo + k, none⟩ = some (.int .i64 bk) ∧ X.cell? ⟨db, d0 + k, none⟩ = some (.slice dra (t.ng + 1) drc) ∧ X.cell? ⟨mb, mo + k, none⟩ = some (.slice mra t.ng mrc)) (by kernel_rfl) (HC5.out _ HAX.out) (fun hS => ?_)
        generalize wx.drew = X at *
        refine tk [0, 1, 2, 3, 4, 5, 6, 7, 8, 9, 10, 11, 12, 13, 14, 15, 16, 17, 18, 19] ?_
        repeat (refine tkH (oi := ⟨_, _, _, _, _, _⟩) (v := ?_) rfl (by kernel_rfl) (by rfl) (fun _ _ _ h => h) hS ?_ ?_; rotate_left; (· rintro W' ⟨z0, z1, z2, z3, z4, z5, z6, z7, z8, z9, z10⟩; go_simp; try with_reducible rfl); try simp only [Act.put, putA, putZ, putS])
        refine tk0 ?_
        refine wpAnyH_ready (rs := [20]) (by kernel_rfl) (by simp) ?_
        refine AllReadyH.cons (o := ⟨some 40, _, _, _, _, _⟩) rfl (fun K hK => ?_) AllReadyH.nil
        go_simp
        refine (HST.out _ HAX.out).mono ?_
        rintro _ X0 ⟨vn, rfl, hon, hb0⟩
        obtain ⟨qa, qc, rfl⟩ := own_slice' hon
        (try go_wp2_with fail)
        have HN := Lib.hid (own_mono hon (Nat.le_trans HA.out.fr.size HAX.out.size))
        have HA0 := Lib.hid (below_step HAX.out hb0)
        refine hK.out _ _ (HC5.out X0 HA0.out) (fun hS => ?_)
        clear hK K
        try simp only [Act.put, putA, putZ, putS]
        clear hb0 hon
        refine tk [21, 22, 23, 24, 25] ?_
        repeat (refine tkH (oi := ⟨_, _, _, _, _, _⟩) (v := ?_) rfl (by kernel_rfl) (by rfl) (fun _ _ _ h => h) hS ?_ ?_; rotate_left; (· rintro W' ⟨z0, z1, z2, z3, z4, z5, z6, z7, z8, z9, z10⟩; go_simp; try with_reducible rfl); try simp only [Act.put, putA, putZ, putS])
        refine tk0 ?_
        refine wpAnyH_done (by kernel_rfl) ?_ _
        go_wp2_with fail
        go_meet
        exact ⟨qa, qc, rfl, rfl, HN.out, HA0.out⟩
      rename World => wy
      obtain ⟨qa, qc, rfl, rfl, hon, hby⟩ := hcut
      have HAY := Lib.hid (HA.out.below hby); have HOY := Lib.hid (HO.out.below hby); have HN := Lib.hid hon
      clear hon hby HA HO HC5 HST
      have HAZ := Lib.hid (HAY.out.below (below_alloc wy (.cells #[.slice qa t.ng qc] 72)))
      have HOZ := Lib.hid (HOY.out.below (below_alloc wy (.cells #[.slice qa t.ng qc] 72)))
      have HNZ := Lib.hid (own_below HN.out (below_alloc wy (.cells #[.slice qa t.ng qc] 72)))
      have hnew := heap_alloc_new wy (.cells #[.slice qa t.ng qc] 72)
      go_wp2_with (at_builtin; refine wpList_append_src _ rfl (.tmp 43) (.tmp 45) 73 rfl w.heap.size 72 i1 (.slice none 0 0) 1 24 Try.underlying73 hi1 hy0 hy1 hy2 rfl (by decide) (.slice (some ⟨vb, vo, none⟩) (k + 1) vc) (k + 1) ((List.range (k + 1)).map vs) rfl HOZ.out.1 (some ⟨wy.heap.size, 0, none⟩) 1 1 [.slice qa t.ng qc] rfl ⟨rfl, fun j u hu => ⟨_, rfl, World.news_of_block hnew j u hu⟩⟩ (by simp [Value.oneCell']) ?a1 ?a2 ?a3 ?next)
      case a1 => unfold maxLen; omega
      case a2 => omega
      case a3 => exact HAZ.out.fr.size
      intro v1 w9 hown hgr hlt1
      have hown2 : w9.ownsRow w.heap.size 72 1 v1 (k + 1 + 1) ((List.range (k + 1)).map vs ++ [.slice qa t.ng qc]) := by
        rw [List.range_succ, List.map_append, List.append_assoc]
        exact hown
      have HR9 := Lib.hid (HOZ.out.step HNZ.out hown2 hgr)
      have HA9 : Hid (BF w w9 [(w.heap.size, #[.slice uca t.nc ucc, .slice uba t.nb ubc, .slice ura t.nr urc, .slice una t.nn unc], 36), (w.heap.size + 1, #[.slice fa t.ng fc, .slice (some ⟨bb, bo, none⟩) x.nb bc, .slice (some ⟨db, d0, none⟩) x.nd dc, .slice (some ⟨mb, mo, none⟩) x.nm mc], 100)]) := HAZ.out.fro (Fr.grown hgr) (fun q hq e => by have := own_low HOZ.out.1 e; omega) (List.forall_mem_cons.2 ⟨fun e => own_type_ne HOZ.out.1 (HAZ.out.bk _ _ _ (.head _)).2 (by decide) e, List.forall_mem_cons.2 ⟨fun e => own_type_ne HOZ.out.1 (HAZ.out.bk _ _ _ (.tail _ (.head _))).2 (by decide) e, List.forall_mem_nil _⟩⟩)
      obtain ⟨xa, xc, rfl⟩ := own_slice' hown
      have HCN : Hid (canC t x (k + 1) = (canC t x k && mm)) := by unfold Hid; rw [canC_next, HMM.out]
      clear hown hown2 hgr hlt1 hnew HAZ HOZ HNZ HN HAY HOY
      cases hcb : canC t x k
      · rw [hcb] at HCN
        go_wp2_with fail
        go_roundw
        case rel => exact ⟨k + 1, xa, xc, _, by omega, by go_num, rfl, by rw [HCN.out]; rfl, HA9.out, HR9.out⟩
        case measure => simp [intOf]; omega
      · rw [hcb] at HCN
        go_wp2_with fail
        go_roundw
        case rel => exact ⟨k + 1, xa, xc, _, by omega, by go_num, rfl, by rw [HCN.out]; simp, HA9.out, HR9.out⟩
        case measure => simp [intOf]; omega
    · obtain rfl : k = t.nb := by omega
      go_wp2_with fail
      go_ret2
      exact ⟨_, rfl, HO.out.rows, HA.out.fr⟩
end Go.Proofs.Ytjaoflfophcibaa
