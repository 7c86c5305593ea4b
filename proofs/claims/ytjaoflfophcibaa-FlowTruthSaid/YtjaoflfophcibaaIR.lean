/- The law's conversion of a truth (Truth, ints, lists); slices of no length may have any address. Printed by gen_ir.py. -/
import Derived.Test.YtjaoflfophcibaaIQ
namespace Go.Proofs.Ytjaoflfophcibaa
open Go.RowKit Go.Shelf

set_option maxRecDepth 100000 in
set_option maxHeartbeats 1000000 in
theorem ints_conv (v : Value) (n : Nat) (z : Nat → Int) (w : World) (hn : n ≤ 100000) (h : IntsIn w v n z) :
    Calls Try.prog 87 #[v] w fun e w' => ∃ v', e = .returned v' ∧ w'.ownsRow w.heap.size 3 1 v' n (iL z n) ∧ Below w.heap.size w w' := by
  obtain ⟨i0, hi0, hz0, hz1, hz2⟩ := info_parts Try.infoInt
  obtain ⟨a, c, rfl⟩ := h.slice
  have HS := Lib.hid h.src
  clear h
  go_enter Try.func87, Try.ntmps87
  go_wp2_with (at_builtin; refine wpList_append_src _ rfl (.const (.slice none 0 0)) (.tmp 3) 72 rfl w.heap.size 3 i0 (.int .i64 0) 1 8 Try.underlying72 hi0 hz0 hz1 hz2 rfl (by decide) (.slice none 0 0) 0 [] rfl (World.ownsRow_nil _ _ _ _) a n c (iL z n) rfl HS.out (iL_one z n) ?a1 ?a2 ?a3 ?next)
  case a1 => unfold maxLen; omega
  case a2 => omega
  case a3 => exact Nat.le_refl _
  intro v1 w1 hown hgr hlt
  have HB : Hid (Below w.heap.size w w1) := (Fr.grown hgr).low (Nat.le_refl _) (fun k _ e => by cases e)
  have HO : Hid (w1.ownsRow w.heap.size 3 1 v1 n (iL z n)) := by
    first | exact hown | (rw [Nat.zero_add, List.nil_append] at hown; exact hown)
  clear hown hgr hlt
  go_wp2
  go_ret
  exact ⟨_, rfl, HO.out, HB.out⟩
set_option maxRecDepth 100000 in
set_option maxHeartbeats 2000000 in
theorem lists_conv (v : Value) (n : Nat) (rl : Nat → Nat) (ct : Nat → Nat → Int) (w : World) (hn : n ≤ 100000) (hrl : ∀ j, j < n → rl j ≤ 100000) (h : IRowsIn w v n rl ct) :
    Calls Try.prog 88 #[v] w fun e w' => ∃ v' vs, e = .returned v' ∧ IRowsO w.heap.size w' v' n rl ct vs ∧ Below w.heap.size w w' := by
  obtain ⟨i1, hi1, hy0, hy1, hy2⟩ := info_parts Try.infoInts
  obtain ⟨a, c, rfl⟩ := h.slice
  have HS := Lib.hid h; have HRL := Lib.hid hrl
  clear h hrl
  go_enter Try.func88, Try.ntmps88
  go_wp2_with fail
  go_loopw [3, 4] (fun ov i wr => ∃ (k : Nat) (va : Option Addr) (vc : Nat) (vs : Nat → Value), k ≤ n ∧ i = .int .i64 k ∧ ov = .slice va k vc ∧ Below w.heap.size w wr ∧ IRowsO w.heap.size wr (.slice va k vc) k rl ct vs) (fun _ i _ => n - (intOf i).toNat)
  case atStart => exact ⟨0, _, _, _, Nat.zero_le _, rfl, rfl, Below.refl _ _, IRowsO.nil _ _ _ _⟩
  case round =>
    obtain ⟨k, va, vc, vs, hk, rfl, rfl, hb, hro⟩ := hrel
    rename World => wx
    have HB := Lib.hid hb; have HO := Lib.hid hro
    clear hb hro
    have ki : (0 : Int) ≤ (k : Int) := by omega
    by_cases hlt : k < n
    · have kj : (k : Int) < (n : Int) := by omega
      obtain ⟨b, off, ra, rc, rfl, hbb, y1, hr⟩ := HS.out.at hlt
      have y2 := kept HB.out hbb y1
      obtain ⟨m, HM⟩ : ∃ m, Hid (rl k = m) := ⟨_, rfl⟩
      rw [HM.out] at y2 hr
      have hm : m ≤ 100000 := by rw [← HM.out]; exact HRL.out k hlt
      have HR := Lib.hid (hr.below HB.out)
      clear y1 hr hbb
      go_wp2_with (first | (go_at_call 87; refine (ints_conv _ m (ct k) _ hm HR.out).mono ?_; rintro _ w5 ⟨v5, rfl, ho5, hb5⟩; obtain ⟨qa, qc, rfl⟩ := own_slice' ho5; have HB5 := Lib.hid (below_step HB.out hb5); have HO5 := Lib.hid (HO.out.below hb5); have HN5 := Lib.hid (own_mono ho5 HB.out.size); have hnew := heap_alloc_new w5 (.cells #[.slice qa m qc] 72); have HB6 := Lib.hid (below_step HB5.out (below_alloc w5 (.cells #[.slice qa m qc] 72))); have HO6 := Lib.hid (HO5.out.below (below_alloc w5 (.cells #[.slice qa m qc] 72))); have HN6 := Lib.hid (own_below HN5.out (below_alloc w5 (.cells #[.slice qa m qc] 72))); clear ho5 hb5) | (at_builtin; refine wpList_append_src _ rfl (.tmp 11) (.tmp 17) 73 rfl w.heap.size 72 i1 (.slice none 0 0) 1 24 Try.underlying73 hi1 hy0 hy1 hy2 rfl (by decide) (.slice va k vc) k ((List.range k).map vs) rfl HO6.out.1 (some ⟨w5.heap.size, 0, none⟩) 1 1 [.slice qa m qc] rfl ⟨rfl, fun j u hu => ⟨_, rfl, World.news_of_block hnew j u hu⟩⟩ (by simp [Value.oneCell']) ?a1 ?a2 ?a3 ?next))
      case a1 => unfold maxLen; omega
      case a2 => omega
      case a3 => exact HB6.out.size
      intro v1 w9 hown hgr hlt1
      have hn6 : (w5.alloc (.cells #[.slice qa m qc] 72)).ownsRow w.heap.size 3 1 (.slice qa m qc) (rl k) (iL (ct k) (rl k)) := by
        rw [HM.out]
        exact HN6.out
      have HR9 := Lib.hid (HO6.out.step hn6 hown hgr)
      have HB9 : Hid (Below w.heap.size w w9) := grown_below HB6.out HO6.out.1 hgr
      obtain ⟨xa, xc, rfl⟩ := own_slice' hown
      clear hown hgr hlt1 hn6 hnew
      go_wp2_with fail
      go_roundw
      case rel => exact ⟨k + 1, xa, xc, _, by omega, by go_num, rfl, HB9.out, HR9.out⟩
      case measure => simp [intOf]; omega
    · obtain rfl : k = n := by omega
      go_wp2_with fail
      go_ret
      exact ⟨_, _, rfl, HO.out, HB.out⟩
set_option maxRecDepth 100000 in
set_option maxHeartbeats 4000000 in
theorem truth_conv (y : XV) (x : Tr) (w : World) (hx : XLi w y x) (hsm : TrSm x) :
    Calls Try.prog 49 #[.agg #[.slice y.fa x.nf y.fc, .slice y.ba x.nb y.bc, .slice y.da x.nd y.dc, .slice y.ma x.nm y.mc]] w fun e w' => ∃ y' : XV, e = .returned (.agg #[.slice y'.fa x.nf y'.fc, .slice y'.ba x.nb y'.bc, .slice y'.da x.nd y'.dc, .slice y'.ma x.nm y'.mc]) ∧ XL w' y' x ∧ Below w.heap.size w w' := by
  have HX := Lib.hid hx; have HM := Lib.hid hsm
  clear hx hsm
  have HA0 : Hid (BF w ((w.alloc (.cells #[.slice y.fa x.nf y.fc, .slice y.ba x.nb y.bc, .slice y.da x.nd y.dc, .slice y.ma x.nm y.mc] 75)).alloc (.cells #[.slice none 0 0, .slice none 0 0, .slice none 0 0, .slice none 0 0] 100)) [(w.heap.size, #[.slice y.fa x.nf y.fc, .slice y.ba x.nb y.bc, .slice y.da x.nd y.dc, .slice y.ma x.nm y.mc], 75), (w.heap.size + 1, #[.slice none 0 0, .slice none 0 0, .slice none 0 0, .slice none 0 0], 100)]) := BF.made2 w _ _ _ _
  go_enter Try.func49, Try.ntmps49
  go_wp2_with fail
  generalize ((w.alloc (.cells #[.slice y.fa x.nf y.fc, .slice y.ba x.nb y.bc, .slice y.da x.nd y.dc, .slice y.ma x.nm y.mc] 75)).alloc (.cells #[.slice none 0 0, .slice none 0 0, .slice none 0 0, .slice none 0 0] 100)) = w1 at *
  have HAX := Lib.hid (HA0.out.below (Below.refl _ w1).drew)
  refine wp_region_Z (S := fun X => X.cell? ⟨w.heap.size, 0, none⟩ = some (.slice y.fa x.nf y.fc) ∧ X.cell? ⟨w.heap.size, 1, none⟩ = some (.slice y.ba x.nb y.bc) ∧ X.cell? ⟨w.heap.size, 2, none⟩ = some (.slice y.da x.nd y.dc) ∧ X.cell? ⟨w.heap.size, 3, none⟩ = some (.slice y.ma x.nm y.mc)) (by kernel_rfl) (⟨HAX.out.cell (.head _) 0, HAX.out.cell (.head _) 1, HAX.out.cell (.head _) 2, HAX.out.cell (.head _) 3⟩) (fun hS => ?_)
  generalize w1.drew = X at *
  refine tk [0, 1, 3, 4, 6, 7, 9, 10] ?_
  repeat (refine tkZ (oi := ⟨_, _, _, _, _, _⟩) (v := ?_) rfl (by kernel_rfl) (by rfl) (fun _ _ _ h => h) hS ?_ ?_; rotate_left; (· rintro W' ⟨z0, z1, z2, z3⟩; go_simp; try with_reducible rfl); try simp only [Act.put, putA, putZ, putS])
  refine tk0 ?_
  refine wpAnyZ_next (rs := [2]) (by kernel_rfl) (by simp) ?_
  refine NextZ.cons (o := ⟨some 5, _, _, _, _, _⟩) rfl (fun K hK => ?_) NextZ.nil
  go_simp
  refine (ints_conv _ x.nf x.f _ HM.out.f (HX.out.1.below HAX.out.fr)).mono ?_
  rintro _ X0 ⟨vf, rfl, ho0, hb0⟩
  obtain ⟨fa, fc, rfl⟩ := own_slice' ho0
  (try go_wp2_with fail)
  have HA0 := Lib.hid (HAX.out.below hb0)
  have Hf0 := Lib.hid (own_mono ho0 (Nat.zero_le _))
  clear hb0 ho0
  refine hK.out _ _ (⟨HA0.out.cell (.head _) 0, HA0.out.cell (.head _) 1, HA0.out.cell (.head _) 2, HA0.out.cell (.head _) 3⟩) (fun hS => ?_)
  clear hK K
  try simp only [Act.put, putA, putZ, putS]
  refine wpAnyZ_next (rs := [5]) (by kernel_rfl) (by simp) ?_
  refine NextZ.cons (o := ⟨some 8, _, _, _, _, _⟩) rfl (fun K hK => ?_) NextZ.nil
  go_simp
  refine (ints_conv _ x.nb x.b _ HM.out.b (HX.out.2.1.below HA0.out.fr)).mono ?_
  rintro _ X1 ⟨vb, rfl, ho1, hb1⟩
  obtain ⟨ba, bc, rfl⟩ := own_slice' ho1
  (try go_wp2_with fail)
  have HA1 := Lib.hid (HA0.out.below hb1)
  have Hf1 := Lib.hid (own_below Hf0.out hb1)
  have Hb1 := Lib.hid (own_mono ho1 (Nat.zero_le _))
  clear hb1 ho1
  refine hK.out _ _ (⟨HA1.out.cell (.head _) 0, HA1.out.cell (.head _) 1, HA1.out.cell (.head _) 2, HA1.out.cell (.head _) 3⟩) (fun hS => ?_)
  clear hK K
  try simp only [Act.put, putA, putZ, putS]
  refine wpAnyZ_next (rs := [8]) (by kernel_rfl) (by simp) ?_
  refine NextZ.cons (o := ⟨some 11, _, _, _, _, _⟩) rfl (fun K hK => ?_) NextZ.nil
  go_simp
  refine (lists_conv _ x.nd x.dl x.d _ HM.out.d HM.out.dl (HX.out.2.2.1.below HA1.out.fr)).mono ?_
  rintro _ X2 ⟨vd, vsd, rfl, ho2, hb2⟩
  obtain ⟨da, dc, rfl⟩ := ho2.rows.slice
  (try go_wp2_with fail)
  have HA2 := Lib.hid (HA1.out.below hb2)
  have Hf2 := Lib.hid (own_below Hf1.out hb2)
  have Hb2 := Lib.hid (own_below Hb1.out hb2)
  have Hd2 := Lib.hid ho2
  clear hb2 ho2
  refine hK.out _ _ (⟨HA2.out.cell (.head _) 0, HA2.out.cell (.head _) 1, HA2.out.cell (.head _) 2, HA2.out.cell (.head _) 3⟩) (fun hS => ?_)
  clear hK K
  try simp only [Act.put, putA, putZ, putS]
  refine wpAnyZ_next (rs := [11]) (by kernel_rfl) (by simp) ?_
  refine NextZ.cons (o := ⟨some 14, _, _, _, _, _⟩) rfl (fun K hK => ?_) NextZ.nil
  go_simp
  refine (lists_conv _ x.nm x.ml x.m _ HM.out.m HM.out.ml (HX.out.2.2.2.below HA2.out.fr)).mono ?_
  rintro _ X3 ⟨vm, vsm, rfl, ho3, hb3⟩
  obtain ⟨ma, mc, rfl⟩ := ho3.rows.slice
  (try go_wp2_with fail)
  have HA3 := Lib.hid (HA2.out.below hb3)
  have Hf3 := Lib.hid (own_below Hf2.out hb3)
  have Hb3 := Lib.hid (own_below Hb2.out hb3)
  have Hd3 := Lib.hid (Hd2.out.below hb3)
  have Hm3 := Lib.hid ho3
  clear hb3 ho3
  refine hK.out _ _ (⟨HA3.out.cell (.head _) 0, HA3.out.cell (.head _) 1, HA3.out.cell (.head _) 2, HA3.out.cell (.head _) 3⟩) (fun hS => ?_)
  clear hK K
  try simp only [Act.put, putA, putZ, putS]
  refine tZ 12 (oi := ⟨_, _, _, _, _, _⟩) (v := ?_) rfl (by kernel_rfl) (by rfl) (fun _ _ _ h => h) hS ?_ ?_
  rotate_left
  · rintro W' ⟨z0, z1, z2, z3⟩; go_simp; try with_reducible rfl
  try simp only [Act.put, putA, putZ, putS]
  refine wpAnyZ_next (rs := [13]) (by kernel_rfl) (by simp) ?_
  refine NextZ.last (o := ⟨none, _, _, _, _, _⟩) rfl (by kernel_rfl) (fun K hK => ?_)
  have e0 := HA3.out.cell (.tail _ (.head _)) 0
  have f0 := HA3.out.thaw (.tail _ (.head _)) 0
  have e1 := HA3.out.cell (.tail _ (.head _)) 1
  have f1 := HA3.out.thaw (.tail _ (.head _)) 1
  have e2 := HA3.out.cell (.tail _ (.head _)) 2
  have f2 := HA3.out.thaw (.tail _ (.head _)) 2
  have e3 := HA3.out.cell (.tail _ (.head _)) 3
  have f3 := HA3.out.thaw (.tail _ (.head _)) 3
  obtain ⟨hk, hF2⟩ := set4r (HA3.out.bk _ _ _ (.tail _ (.head _))).2 (.slice fa x.nf fc) (.slice ba x.nb bc) (.slice da x.nd dc) (.slice ma x.nm mc)
  have HF2 := Lib.hid hF2
  have HBK := Lib.hid (HA3.out.bk _ _ _ (.tail _ (.head _))).2
  have r0 := cell_of_row _ _ 0 _ _ _ hk
  have r1 := cell_of_row _ _ 1 _ _ _ hk
  have r2 := cell_of_row _ _ 2 _ _ _ hk
  have r3 := cell_of_row _ _ 3 _ _ _ hk
  clear hk hF2
  go_simp
  refine hK.out _ _ ?_
  clear hK K e0 e1 e2 e3 f0 f1 f2 f3
  (try simp only [Act.put])
  refine wpAnyZ_done (by kernel_rfl) ?_ _
  go_wp2_with fail
  exact bodyPost_ret (v := .agg #[.slice fa x.nf fc, .slice ba x.nb bc, .slice da x.nd dc, .slice ma x.nm mc]) (by simp [results, Try.results49, go_sem, r0, r1, r2, r3]) rfl ⟨⟨fa, fc, ba, bc, da, dc, ma, mc⟩, rfl, ⟨IntsAt.own (own_fr Hf3.out HF2.out (fun g cur _ _ hg e => by subst e; rw [HBK.out] at hg; cases hg)), IntsAt.own (own_fr Hb3.out HF2.out (fun g cur _ _ hg e => by subst e; rw [HBK.out] at hg; cases hg)), (Hd3.out.fr HF2.out (fun b cs T hT hg e => by subst e; rw [HBK.out] at hg; cases hg; rcases hT with h | h <;> cases h)).rows, (Hm3.out.fr HF2.out (fun b cs T hT hg e => by subst e; rw [HBK.out] at hg; cases hg; rcases hT with h | h <;> cases h)).rows⟩, HA3.out.fr.trans (HF2.out.low HA3.out.fr.size (fun q hq e => by omega))⟩
end Go.Proofs.Ytjaoflfophcibaa
