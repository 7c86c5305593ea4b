/- Leave: the search, one more cell. Printed by gen_gj.py. | Leave. | The law's county; what the examples come to. | The chapter's examples, reckoned. | cells (of the law's package); CL as RsAt. -/
import Derived.Test.YtjaoflfophcibaaPG
namespace Go.Proofs.Ytjaoflfophcibaa
open Go.RowKit Go.Shelf

theorem lvL_step {step : List Int → Nat → Option (List Int)} {nc : Nat} {out : List Int} {k : Nat} (hk : k < nc) : lvL step nc out (nc - k) = match step (out ++ [(k : Int)]) (k + 1) with | some l => some l | none => lvL step nc out (nc - (k + 1)) := by
  obtain ⟨d, hd⟩ : ∃ d, nc - k = d + 1 := ⟨nc - k - 1, by omega⟩
  rw [hd, lvL, show nc - (d + 1) = k from by omega, show nc - (k + 1) = d from by omega]
  all_goals (cases step (out ++ [(k : Int)]) (k + 1) <;> rfl)
theorem Fr.sets (X : World) (b : Nat) : ∀ (vs : List Value) (o : Nat), Fr (fun q => q = b) X (X.setCells b o vs)
  | [], _ => Fr.refl _ _
  | v :: vs, o => (Fr.set X b o v).trans (Fr.sets _ b vs (o + 1))
theorem off_sets {X : World} {b : Nat} {cs : List Value} (hc : cs.length = 16) (f : Nat → Nat → Bool) (h : X.heap[b]? = some (.cells cs.toArray 110 (0, 0))) :
    (X.setCells b 0 (outL f)).heap[b]? = some (.cells (outL f).toArray 110 (0, 0)) := by
  match cs, hc with
  | [a0, a1, a2, a3, a4, a5, a6, a7, a8, a9, a10, a11, a12, a13, a14, a15], _ =>
    have e : outL f = [.bool (f 0 0), .bool (f 0 1), .bool (f 0 2), .bool (f 0 3), .bool (f 1 0), .bool (f 1 1), .bool (f 1 2), .bool (f 1 3), .bool (f 2 0), .bool (f 2 1), .bool (f 2 2), .bool (f 2 3), .bool (f 3 0), .bool (f 3 1), .bool (f 3 2), .bool (f 3 3)] := rfl
    rw [e]
    simp [World.setCells, World.setCell, Array.getElem?_modify, h]
attribute [local go_sem ↓] Go.wp_at_zero Go.wp_at_succ
set_option maxRecDepth 100000 in
set_option maxHeartbeats 4000000 in
theorem lv_succ {t : Tb} (hG : Gd t) (w0 : World) (x : WV) (Bt Bd Bl Bv : Nat) (lv : Value) (m : Nat)
    (ih : ∀ (next : Nat) (ov : Value) (out : List Int) (W : World), LE w0 W x t Bt Bd Bl Bv lv → LX w0 W lv ov → CL W ov (cellsOf t.ng out) → out.length + m ≤ 100 → next ≤ 100 →
      Calls Try.prog 77 #[ov, .agg (outL (outs t.ng out)).toArray, .int .i64 next, .int .i64 m, .pointer (some ⟨Bt, 0, none⟩), .pointer (some ⟨Bd, 0, none⟩), .pointer (some ⟨Bl, 0, none⟩), .pointer (some ⟨Bv, 0, none⟩)] W (LvP t.ng W Bd ov out (lvF (t.nc * t.ng) (okL t) m out next)))
    (next : Nat) (ov : Value) (out : List Int) (W : World) (hE : LE w0 W x t Bt Bd Bl Bv lv) (hX : LX w0 W lv ov) (hI : CL W ov (cellsOf t.ng out)) (hl : out.length + (m + 1) ≤ 100) (hnx : next ≤ 100) :
      Calls Try.prog 77 #[ov, .agg (outL (outs t.ng out)).toArray, .int .i64 next, .int .i64 ((m : Int) + 1), .pointer (some ⟨Bt, 0, none⟩), .pointer (some ⟨Bd, 0, none⟩), .pointer (some ⟨Bl, 0, none⟩), .pointer (some ⟨Bv, 0, none⟩)] W (LvP t.ng W Bd ov out (lvF (t.nc * t.ng) (okL t) (m + 1) out next)) := by
  have ng4 := hG.ng4; have nc4 := hG.nc4; have ng2 := hG.ng2
  have hnn : t.nc * t.ng ≤ 16 := Nat.le_trans (Nat.mul_le_mul nc4 ng4) (by decide)
  have HIH := Lib.hid ih; have HE := Lib.hid hE; have HI := Lib.hid hI; have HX := Lib.hid hX; clear ih hE hI hX hG
  have hmz : (((m : Int) + 1) == 0) = false := by simp; omega
  have hcl : (cellsOf t.ng out).length = out.length := by unfold cellsOf; rw [List.length_map]
  obtain ⟨oa, oc, rfl⟩ := HI.out.slice
  rw [hcl] at *
  clear hcl
  obtain ⟨N, hN⟩ : ∃ N, N = t.nc * t.ng := ⟨_, rfl⟩
  have HN := Lib.hid hN
  have hN16 : N ≤ 16 := by rw [hN]; exact hnn
  clear hnn
  rw [← hN] at HIH ⊢
  have hcn : (cellsN t.ng N).length = N := cellsN_length _ _
  have HRW : Hid (CL W lv (cellsN t.ng N)) := by have := HE.out.row; rw [← hN] at this; exact this
  have hlvs := HRW.out.slice
  rw [hcn] at hlvs
  obtain ⟨la, lc, rfl⟩ := hlvs
  clear hN hcn
  have HB0 := Lib.hid (below_alloc W (.cells (outL (outs t.ng out)).toArray 110))
  have HO0 := Lib.hid (Try.offBox (outs t.ng out) W)
  have HZ0 : Hid ((W.alloc (.cells (outL (outs t.ng out)).toArray 110)).heap.size = W.heap.size + 1) := World.size_alloc _ _
  go_enter Try.func77, Try.ntmps77
  go_wp2_with (refine wpList_box_row rfl 110 (.tmp 1) rfl (outL (outs t.ng out)).toArray rfl ?_)
  generalize W.alloc (.cells (outL (outs t.ng out)).toArray 110) = W1 at *
  obtain ⟨hz1, hz2⟩ : W.heap.size + 1 ≤ W1.heap.size ∧ W1.heap.size ≤ W.heap.size + 1 := by have := HZ0.out; omega
  clear HZ0
  go_loopw [13] (fun i wr => ∃ k : Nat, i = .int .i64 k ∧ next ≤ k ∧ k ≤ 100 ∧ lvF N (okL t) (m + 1) out next = lvL (lvF N (okL t) m) N out (N - k) ∧ CL wr (.slice oa out.length oc) (cellsOf t.ng out) ∧ Fr (fun q => q = Bd ∨ (Value.slice oa out.length oc).ownBlock = some q) W1 wr ∧ wr.heap[Bd]? = W.heap[Bd]?) (fun i _ => 200 - (intOf i).toNat)
  case atStart => exact ⟨next, rfl, Nat.le_refl _, hnx, rfl, HI.out.below HB0.out, Fr.refl _ _, HB0.out.block _ (Array.getElem?_eq_some_iff.1 HE.out.bd.choose_spec).1⟩
  case round =>
    obtain ⟨k, rfl, hk1, hk2, hres, hil, hfr, hbd⟩ := hrel
    have henv : LE w0 wr x t Bt Bd Bl Bv (.slice la N lc) := (HE.out.below HB0.out).fr (HX.out.below HB0.out) hfr (by obtain ⟨fv, h3⟩ := HE.out.bd; exact ⟨fv, hbd.trans h3⟩)
    have hlx : LX w0 wr (.slice la N lc) (.slice oa out.length oc) := fun q hq => by
      obtain ⟨h1, h2, _⟩ := HX.out q hq
      rcases hil.2 with ⟨e, _⟩ | ⟨g, cap, cur, e, _, hg, _⟩
      · rw [e] at hq; cases hq
      · rw [e] at hq; cases hq; exact ⟨h1, h2, cur, hg⟩
    have HENV := Lib.hid henv; have HIL := Lib.hid hil; have HFR := Lib.hid hfr; have HBD := Lib.hid hbd; have HRES := Lib.hid hres; have HLX := Lib.hid hlx
    have cl : wr.cell? ⟨Bl, 0, none⟩ = some (.slice la N lc) := cell_of_row _ _ 0 _ _ _ henv.bl
    have hOB : wr.heap[W.heap.size]? = some (.cells (outL (outs t.ng out)).toArray 110 (0, 0)) := by
      refine (hfr.block _ (by omega) ?_).trans HO0.out
      rintro (e | e)
      · obtain ⟨fv, h3⟩ := HE.out.bd; have := (Array.getElem?_eq_some_iff.1 h3).1; omega
      · obtain ⟨_, _, cur, h3⟩ := HX.out _ e; have := (Array.getElem?_eq_some_iff.1 h3).1; omega
    have HOB := Lib.hid hOB
    have hzr := hfr.size
    have HRL := Lib.hid henv.row
    clear hil hfr hbd hres henv hlx hOB
    by_cases hlt : k < N
    · have hst := HRES.out.trans (lvL_step hlt)
      have HST := Lib.hid hst; clear hst
      have hcn : (cellsN t.ng N).length = N := cellsN_length _ _
      have hrow : CL wr (.slice la N lc) (cellsN t.ng N) := by have := HRL.out; rw [← HN.out] at this; exact this
      unfold CL at hrow
      obtain ⟨gb, hgbe, hgb, kc0, kc1⟩ : ∃ gb, la = some ⟨gb, 0, none⟩ ∧ gb < wr.heap.size ∧ wr.cell? ⟨gb, k * 2, none⟩ = some (.int .i64 ((k / t.ng : Nat) : Int)) ∧ wr.cell? ⟨gb, k * 2 + 1, none⟩ = some (.int .i64 ((k % t.ng : Nat) : Int)) := by
        rw [hcn] at hrow
        have h := cells_at (l := cellsN t.ng N) (by rw [hcn]; exact hrow) (k := k) (by rw [hcn]; exact hlt)
        obtain ⟨gb, h1, h2, h3, h4⟩ := h
        have e : (cellsN t.ng N)[k]'(by rw [hcn]; exact hlt) = (((k / t.ng : Nat) : Int), ((k % t.ng : Nat) : Int)) := by simp [cellsN]
        rw [e] at h3 h4
        exact ⟨gb, h1, h2, h3, h4⟩
      subst hgbe
      obtain ⟨c0, hc0⟩ : ∃ c0, c0 = k / t.ng := ⟨_, rfl⟩
      obtain ⟨g0, hg0⟩ : ∃ g0, g0 = k % t.ng := ⟨_, rfl⟩
      have hc4 : c0 < 4 := by
        have h1 : k / t.ng < t.nc := (Nat.div_lt_iff_lt_mul (by omega)).2 (by rw [← HN.out]; exact hlt)
        omega
      have hg4 : g0 < 4 := by have := Nat.mod_lt k (show 0 < t.ng by omega); omega
      rw [← hc0] at kc0
      rw [← hg0] at kc1
      have HC0 := Lib.hid hc0; have HG0 := Lib.hid hg0
      clear hc0 hg0 hrow hcn
      have hbE := (BF.base wr).alloc #[.int .i64 (c0 : Int), .int .i64 (g0 : Int)] 39
      have HBE := Lib.hid hbE
      have HRG : Hid ((wr.alloc (.cells #[.int .i64 (c0 : Int), .int .i64 (g0 : Int)] 39)).rangeAt W.heap.size 0 (outL (outs t.ng out))) := off_range ((hbE.fr.block _ (Array.getElem?_eq_some_iff.1 HOB.out).1).trans HOB.out)
      clear hbE
      have hz0 := World.size_alloc wr (.cells #[.int .i64 (c0 : Int), .int .i64 (g0 : Int)] 39)
      have HZA := Lib.hid (HBE.out.alloc #[.bool false, .bool false, .bool false, .bool false, .bool false, .bool false, .bool false, .bool false, .bool false, .bool false, .bool false, .bool false, .bool false, .bool false, .bool false, .bool false] 110)
      rw [hz0] at HZA
      have hosz : (outL (outs t.ng out)).toArray.size = 16 := by rw [List.size_toArray, outL_length]
      have HTH : Hid (((wr.alloc (.cells #[.int .i64 (c0 : Int), .int .i64 (g0 : Int)] 39)).alloc (.cells #[.bool false, .bool false, .bool false, .bool false, .bool false, .bool false, .bool false, .bool false, .bool false, .bool false, .bool false, .bool false, .bool false, .bool false, .bool false, .bool false] 110)).there (wr.heap.size + 1) 0 (outL (outs t.ng out)).toArray.size) := fun j hj => by
        rw [Nat.zero_add]
        rw [hosz] at hj
        refine ⟨?_, HZA.out.thaw (.head _) j⟩
        rw [HZA.out.cell (.head _) j, Array.getElem?_eq_getElem (by simpa using hj)]; rfl
      have HSZ : Hid ((Try.prog.info? 110).map (·.size) = some (outL (outs t.ng out)).toArray.size) := by unfold Hid; rw [hosz]; exact Try.sizeOff
      have HSL : Hid ((Try.prog.info? 110).map (·.size) = some (outL (outs t.ng out)).length) := by unfold Hid; rw [outL_length]; exact Try.sizeOff
      have HON : Hid ((outL (outs t.ng out)).toArray.all (·.oneCell') = true) := by
        refine all_oneCell_toArray (fun v hv => ?_)
        unfold outL at hv
        simp only [List.mem_map] at hv
        obtain ⟨_, _, rfl⟩ := hv; rfl
      clear hz0 hosz
      go_upto_region 10 with fail
      refine wp_region_lit ?_
      refine wpList_load_mid rfl 110 (.tmp 9) rfl W.heap.size 0 rfl (outL (outs t.ng out)) _ HRG.out Try.underlying110 rfl HSL.out ?_
      generalize hoA : (outL (outs t.ng out)).toArray = oA at *
      go_wp2_with (refine wpList_store_mid (op := ⟨none, .store 110 (.tmp 15) (.tmp 36), _, _, _, _⟩) rfl 110 (.tmp 15) (.tmp 36) rfl (wr.heap.size + 1) 0 oA rfl rfl HTH.out HSZ.out HON.out ?_)
      have HA10 : Hid (BF wr (((wr.alloc (.cells #[.int .i64 (c0 : Int), .int .i64 (g0 : Int)] 39)).alloc (.cells #[.bool false, .bool false, .bool false, .bool false, .bool false, .bool false, .bool false, .bool false, .bool false, .bool false, .bool false, .bool false, .bool false, .bool false, .bool false, .bool false] 110)).setCells (wr.heap.size + 1) 0 oA.toList) [(wr.heap.size + 1, (outL (outs t.ng out)).toArray, 110), (wr.heap.size, #[.int .i64 (c0 : Int), .int .i64 (g0 : Int)], 39)]) := by
        subst hoA
        have hs := Fr.sets ((wr.alloc (.cells #[.int .i64 (c0 : Int), .int .i64 (g0 : Int)] 39)).alloc (.cells #[.bool false, .bool false, .bool false, .bool false, .bool false, .bool false, .bool false, .bool false, .bool false, .bool false, .bool false, .bool false, .bool false, .bool false, .bool false, .bool false] 110)) (wr.heap.size + 1) (outL (outs t.ng out)) 0
        have hz := HZA.out.fr.size
        refine ⟨HZA.out.fr.trans (hs.low hz (fun q hq e => by omega)), fun b cs T hm => ?_⟩
        simp only [List.mem_cons, Prod.mk.injEq, List.not_mem_nil, or_false] at hm
        rcases hm with ⟨rfl, rfl, rfl⟩ | ⟨rfl, rfl, rfl⟩
        · exact ⟨by omega, off_sets (cs := [.bool false, .bool false, .bool false, .bool false, .bool false, .bool false, .bool false, .bool false, .bool false, .bool false, .bool false, .bool false, .bool false, .bool false, .bool false, .bool false]) rfl _ (HZA.out.bk _ _ _ (.head _)).2⟩
        · have h2 := HZA.out.bk _ _ _ (.tail _ (.head _))
          exact ⟨h2.1, (hs.block _ (Array.getElem?_eq_some_iff.1 h2.2).1 (by omega)).trans h2.2⟩
      subst hoA
      have HAX : Hid (BF wr (((wr.alloc (.cells #[.int .i64 (c0 : Int), .int .i64 (g0 : Int)] 39)).alloc (.cells #[.bool false, .bool false, .bool false, .bool false, .bool false, .bool false, .bool false, .bool false, .bool false, .bool false, .bool false, .bool false, .bool false, .bool false, .bool false, .bool false] 110)).setCells (wr.heap.size + 1) 0 (outL (outs t.ng out)).toArray.toList).drew [(wr.heap.size + 1, (outL (outs t.ng out)).toArray, 110), (wr.heap.size, #[.int .i64 (c0 : Int), .int .i64 (g0 : Int)], 39)]) := HA10.out.below ((Below.refl _ _).drew)
      have hc4i : ¬ (4 : Int) ≤ (c0 : Int) := by omega
      have hg4i : ¬ (4 : Int) ≤ (g0 : Int) := by omega
      clear HA10 HZA HTH HSZ HSL HON HRG HBE kc0 kc1
      refine wp_region_Z (S := fun X => X.cell? ⟨wr.heap.size, 0, none⟩ = some (.int .i64 (c0 : Int)) ∧ X.cell? ⟨wr.heap.size, 1, none⟩ = some (.int .i64 (g0 : Int))) (by kernel_rfl) (⟨HAX.out.cell (.tail _ (.head _)) 0, HAX.out.cell (.tail _ (.head _)) 1⟩) (fun hS => ?_)
      generalize (((wr.alloc (.cells #[.int .i64 (c0 : Int), .int .i64 (g0 : Int)] 39)).alloc (.cells #[.bool false, .bool false, .bool false, .bool false, .bool false, .bool false, .bool false, .bool false, .bool false, .bool false, .bool false, .bool false, .bool false, .bool false, .bool false, .bool false] 110)).setCells (wr.heap.size + 1) 0 (outL (outs t.ng out)).toArray.toList).drew = X at *
      refine tk [0, 1, 2, 3] ?_
      repeat (refine tkZ (oi := ⟨_, _, _, _, _, _⟩) (v := ?_) rfl (by kernel_rfl) (by rfl) (fun _ _ _ h => h) hS ?_ ?_; rotate_left; (· rintro W' ⟨z0, z1⟩; go_simp; try with_reducible rfl); try simp only [Act.put, putA, putZ, putS])
      refine tk0 ?_
      refine tZ 4 (oi := ⟨_, _, _, _, _, _⟩) (v := .pointer (some ⟨wr.heap.size + 1, c0 * 4, none⟩)) rfl (by kernel_rfl) (by rfl) (fun _ _ _ h => h) hS ?_ ?_
      · rintro W' ⟨z0, z1⟩; go_simp
      try simp only [Act.put, putA, putZ, putS]
      refine tZ 5 (oi := ⟨_, _, _, _, _, _⟩) (v := .pointer (some ⟨wr.heap.size + 1, c0 * 4 + g0, none⟩)) rfl (by kernel_rfl) (by rfl) (fun _ _ _ h => h) hS ?_ ?_
      · rintro W' ⟨z0, z1⟩; go_simp
      try simp only [Act.put, putA, putZ, putS]
      refine wpAnyZ_next (rs := [6]) (by kernel_rfl) (by simp) ?_
      refine NextZ.cons (o := ⟨none, _, _, _, _, _⟩) rfl (fun K hK => ?_) NextZ.nil
      have e0 : X.cell? ⟨wr.heap.size + 1, c0 * 4 + g0, none⟩ = some (.bool (outs t.ng out c0 g0)) := (HAX.out.cell (.head _) (c0 * 4 + g0)).trans (outL_get hc4 hg4)
      have f0 := HAX.out.thaw (.head _) (c0 * 4 + g0)
      have HA0 := Lib.hid (BF.set1 (i := c0 * 4 + g0) (cs' := (outL (outs t.ng (out ++ [(k : Int)]))).toArray) HAX.out (.head _) (.bool true) (by rw [List.size_toArray, outL_length]; omega) (by rw [outL_put hc4 hg4, outs_snoc, ← HC0.out, ← HG0.out]) (L' := [(wr.heap.size, #[.int .i64 (c0 : Int), .int .i64 (g0 : Int)], 39)]) (List.forall_mem_cons.2 ⟨⟨show wr.heap.size ≠ wr.heap.size + 1 by omega, (.tail _ (.head _))⟩, List.forall_mem_nil _⟩))
      go_simp
      refine hK.out _ _ (⟨HA0.out.cell (.tail _ (.head _)) 0, HA0.out.cell (.tail _ (.head _)) 1⟩) (fun hS => ?_)
      clear hK K
      (try simp only [Act.put])
      clear e0 f0
      refine wpAnyZ_done (by kernel_rfl) ?_ _
      go_wp2_with fail
      have HA11 : Hid (BF wr (X.setCell ⟨wr.heap.size + 1, c0 * 4 + g0, none⟩ (.bool true)) [(wr.heap.size + 1, (outL (outs t.ng (out ++ [(k : Int)]))).toArray, 110), (wr.heap.size, #[.int .i64 (c0 : Int), .int .i64 (g0 : Int)], 39)]) := HA0.out.sub (List.forall_mem_cons.2 ⟨(.head _), List.forall_mem_cons.2 ⟨(.tail _ (.head _)), List.forall_mem_nil _⟩⟩)
      have HSL2 : Hid ((Try.prog.info? 110).map (·.size) = some (outL (outs t.ng (out ++ [(k : Int)]))).length) := by unfold Hid; rw [outL_length]; exact Try.sizeOff
      have hBv := (Array.getElem?_eq_some_iff.1 HENV.out.bv).1
      have hBd : Bd < wr.heap.size := (Array.getElem?_eq_some_iff.1 HENV.out.bd.choose_spec).1
      have hownlt : ∀ q, (Value.slice oa out.length oc).ownBlock = some q → q < wr.heap.size := fun q hq => own_lt HIL.out hq
      have HP0 : Hid (∀ X, BF wr X [(wr.heap.size + 1, (outL (outs t.ng (out ++ [(k : Int)]))).toArray, 110), (wr.heap.size, #[.int .i64 (c0 : Int), .int .i64 (g0 : Int)], 39)] → X.cell? ⟨Bv, 0, none⟩ = some (.func (.func 77) #[] #[.pointer (some ⟨Bt, 0, none⟩), .pointer (some ⟨Bd, 0, none⟩), .pointer (some ⟨Bl, 0, none⟩), .pointer (some ⟨Bv, 0, none⟩)]) ∧ X.cell? ⟨wr.heap.size, 0, none⟩ = some (.int .i64 (c0 : Int)) ∧ X.cell? ⟨wr.heap.size, 1, none⟩ = some (.int .i64 (g0 : Int)) ∧ X.rangeAt (wr.heap.size + 1) 0 (outL (outs t.ng (out ++ [(k : Int)])))) := fun X h => ⟨cell_of_row _ _ 0 _ _ _ ((h.fr.block _ hBv).trans HENV.out.bv), h.cell (.tail _ (.head _)) 0, h.cell (.tail _ (.head _)) 1, off_range (h.bk _ _ _ (.head _)).2⟩
      have HS1' : Hid (∀ X w1 v', BF wr X [(wr.heap.size + 1, (outL (outs t.ng (out ++ [(k : Int)]))).toArray, 110), (wr.heap.size, #[.int .i64 (c0 : Int), .int .i64 (g0 : Int)], 39)] → AppC X w1 (.slice oa out.length oc) (cellsOf t.ng out) ((c0 : Int), (g0 : Int)) v' → ∀ (b : Nat) (cs : Array Value) (T : TypeId), X.heap[b]? = some (.cells cs T (0, 0)) → (Value.slice oa out.length oc).ownBlock ≠ some b → w1.heap[b]? = some (.cells cs T (0, 0))) := fun X w1 v' h happ b cs T hb hne => (happ.2.1.block b (Array.getElem?_eq_some_iff.1 hb).1 hne).trans hb
      have hBvne : (Value.slice oa out.length oc).ownBlock ≠ some Bv := fun e => by obtain ⟨_, _, cur, hc⟩ := HLX.out _ e; have := HENV.out.bv; rw [hc] at this; cases this
      have hBdne : (Value.slice oa out.length oc).ownBlock ≠ some Bd := fun e => by obtain ⟨fv, h3⟩ := HENV.out.bd; obtain ⟨_, _, cur, hc⟩ := HLX.out _ e; rw [hc] at h3; cases h3
      have HS1 : Hid (∀ X w1 v', BF wr X [(wr.heap.size + 1, (outL (outs t.ng (out ++ [(k : Int)]))).toArray, 110), (wr.heap.size, #[.int .i64 (c0 : Int), .int .i64 (g0 : Int)], 39)] → AppC X w1 (.slice oa out.length oc) (cellsOf t.ng out) ((c0 : Int), (g0 : Int)) v' → (fun X : World => X.cell? ⟨Bv, 0, none⟩ = some (.func (.func 77) #[] #[.pointer (some ⟨Bt, 0, none⟩), .pointer (some ⟨Bd, 0, none⟩), .pointer (some ⟨Bl, 0, none⟩), .pointer (some ⟨Bv, 0, none⟩)]) ∧ X.cell? ⟨wr.heap.size, 0, none⟩ = some (.int .i64 (c0 : Int)) ∧ X.cell? ⟨wr.heap.size, 1, none⟩ = some (.int .i64 (g0 : Int)) ∧ X.rangeAt (wr.heap.size + 1) 0 (outL (outs t.ng (out ++ [(k : Int)])))) w1) := fun X w1 v' h happ => by
        have hE := HS1'.out X w1 v' h happ _ _ _ (h.bk _ _ _ (.tail _ (.head _))).2 (fun e => by have := hownlt _ e; omega)
        have hM := HS1'.out X w1 v' h happ _ _ _ (h.bk _ _ _ (.head _)).2 (fun e => by have := hownlt _ e; omega)
        exact ⟨cell_of_row _ _ 0 _ _ _ (HS1'.out X w1 v' h happ _ _ _ ((h.fr.block _ hBv).trans HENV.out.bv) hBvne), cell_of_row _ _ 0 _ _ _ hE, cell_of_row _ _ 1 _ _ _ hE, off_range hM⟩
      have HCALL : Hid (∀ X w1 v', BF wr X [(wr.heap.size + 1, (outL (outs t.ng (out ++ [(k : Int)]))).toArray, 110), (wr.heap.size, #[.int .i64 (c0 : Int), .int .i64 (g0 : Int)], 39)] → AppC X w1 (.slice oa out.length oc) (cellsOf t.ng out) ((c0 : Int), (g0 : Int)) v' →
          Calls Try.prog 77 #[v', .agg (outL (outs t.ng (out ++ [(k : Int)]))).toArray, .int .i64 ((k : Int) + 1), .int .i64 m, .pointer (some ⟨Bt, 0, none⟩), .pointer (some ⟨Bd, 0, none⟩), .pointer (some ⟨Bl, 0, none⟩), .pointer (some ⟨Bv, 0, none⟩)] w1 fun e W2 =>
            LvP t.ng w1 Bd v' (out ++ [(k : Int)]) (lvF N (okL t) m (out ++ [(k : Int)]) (k + 1)) e W2 ∧ CL W2 (.slice oa out.length oc) (cellsOf t.ng out) ∧ Fr (fun q => q = Bd ∨ (Value.slice oa out.length oc).ownBlock = some q) W1 W2 ∧ w1.heap[Bd]? = W.heap[Bd]? ∧ (fun X : World => X.cell? ⟨Bv, 0, none⟩ = some (.func (.func 77) #[] #[.pointer (some ⟨Bt, 0, none⟩), .pointer (some ⟨Bd, 0, none⟩), .pointer (some ⟨Bl, 0, none⟩), .pointer (some ⟨Bv, 0, none⟩)]) ∧ X.cell? ⟨wr.heap.size, 0, none⟩ = some (.int .i64 (c0 : Int)) ∧ X.cell? ⟨wr.heap.size, 1, none⟩ = some (.int .i64 (g0 : Int)) ∧ X.rangeAt (wr.heap.size + 1) 0 (outL (outs t.ng (out ++ [(k : Int)])))) W2) := fun X w1 v' h happ => by
        have hS1 := HS1'.out X w1 v' h happ
        have hEv := HENV.out.below h.fr
        have hxX : LX w0 X (.slice (some ⟨gb, 0, none⟩) N lc) (.slice oa out.length oc) := HLX.out.below h.fr
        obtain ⟨a1, a2, ⟨g, cap, hv⟩, a4, a5⟩ := happ
        have a2' := a2.mono (ex' := fun q => q = Bd ∨ (Value.slice oa out.length oc).ownBlock = some q) (fun _ _ h => .inr h)
        obtain ⟨fv, hbd⟩ := hEv.bd
        have hbd1 := hS1 _ _ _ hbd hBdne
        have env1 : LE w0 w1 x t Bt Bd Bl Bv (.slice (some ⟨gb, 0, none⟩) N lc) := hEv.fr hxX a2' ⟨fv, hbd1⟩
        have hgb1 : gb < X.heap.size := Nat.lt_of_lt_of_le hgb h.fr.size
        have hv1 : ∀ q, v'.ownBlock = some q → (Value.slice oa out.length oc).ownBlock = some q ∨ X.heap.size ≤ q := fun q hq => by
          rcases a4 with e | e
          · exact .inl (e ▸ hq)
          · exact .inr (e q hq)
        have hlx1 : LX w0 w1 (.slice (some ⟨gb, 0, none⟩) N lc) v' := fun q hq => by
          have hcur : ∃ cur, w1.heap[q]? = some (.cells cur 39 (0, 0)) := by
            rcases a1.2 with ⟨e, _⟩ | ⟨g, cap, cur, e, _, hg, _⟩
            · rw [e] at hq; cases hq
            · rw [e] at hq; cases hq; exact ⟨cur, hg⟩
          rcases hv1 q hq with e | e
          · obtain ⟨h1, h2, _⟩ := HLX.out q e
            exact ⟨h1, h2, hcur⟩
          · have hz := HENV.out.bel.size; have hz2 := h.fr.size
            refine ⟨by omega, fun e2 => ?_, hcur⟩
            have : gb = q := by cases e2; rfl
            omega
        have hc1 : CL w1 v' (cellsOf t.ng (out ++ [(k : Int)])) := by rw [cellsOf_snoc, ← HC0.out, ← HG0.out]; exact a1
        have hcall := HIH.out (k + 1) v' (out ++ [(k : Int)]) w1 env1 hlx1 hc1 (by simp; omega) (by omega)
        rw [show ((k + 1 : Nat) : Int) = (k : Int) + 1 from by omega] at hcall
        have hzX := h.fr.size
        have hzw := a2.size
        refine hcall.mono fun e W2 hp => ⟨hp, a5 W2 Bd (fun c hc => by rw [hbd1] at hc; cases hc) (by have := hp.1; rw [cellsOf_snoc, ← HC0.out, ← HG0.out] at this; exact this) hp.2.1, ?_, ?_, ?_⟩
        · have f1 := HFR.out.trans ((Fr.below h.fr _).trans a2')
          refine ⟨hp.2.1.os.trans f1.os, hp.2.1.tape.trans f1.tape, hp.2.1.output.trans f1.output, Nat.le_trans f1.size hp.2.1.size, fun q hq he => (hp.2.1.block q (Nat.lt_of_lt_of_le hq f1.size) ?_).trans (f1.block q hq he)⟩
          rintro (h2 | h2)
          · exact he (.inl h2)
          · rcases hv1 q h2 with e2 | e2
            · exact he (.inr e2)
            · omega
        · rw [hbd1, ← HBD.out, ← hbd]; exact h.fr.block _ hBd
        · have hh : ∀ (b : Nat) (cs : Array Value) (T : TypeId), w1.heap[b]? = some (.cells cs T (0, 0)) → b ≠ Bd → v'.ownBlock ≠ some b → W2.heap[b]? = some (.cells cs T (0, 0)) := fun b cs T hb h1 h2 => (hp.2.1.block b (Array.getElem?_eq_some_iff.1 hb).1 (fun e => e.elim h1 h2)).trans hb
          have hE := hS1 _ _ _ (h.bk _ _ _ (.tail _ (.head _))).2 (fun e => by have := hownlt _ e; omega)
          have hM := hS1 _ _ _ (h.bk _ _ _ (.head _)).2 (fun e => by have := hownlt _ e; omega)
          have hEl := (h.lt (.tail _ (.head _))).2
          have hMl := (h.lt (.head _)).2
          have hE2 := hh _ _ _ hE (by omega) (fun e => (hv1 _ e).elim (fun e => by have := hownlt _ e; omega) (fun e => by omega))
          have hM2 := hh _ _ _ hM (by omega) (fun e => (hv1 _ e).elim (fun e => by have := hownlt _ e; omega) (fun e => by omega))
          have hVl := (Array.getElem?_eq_some_iff.1 hEv.bv).1
          have hV2 := hh _ _ _ (hS1 _ _ _ hEv.bv hBvne) (fun e => by have h1 := HENV.out.bv; obtain ⟨f2, h2⟩ := HENV.out.bd; rw [e, h2] at h1; cases h1) (fun e => (hv1 _ e).elim (fun e => hBvne e) (fun e => by omega))
          exact ⟨cell_of_row _ _ 0 _ _ _ hV2, cell_of_row _ _ 0 _ _ _ hE2, cell_of_row _ _ 1 _ _ _ hE2, off_range hM2⟩
      have wk : IntKind.i64.wrap ((k : Int) + 1) = (k : Int) + 1 := IntWalk.i64_in _ (by omega)
      have wm : IntKind.i64.wrap ((m : Int) + 1 - 1) = (m : Int) := by rw [IntWalk.i64_in _ (by omega)]; omega
      have wm2 : IntKind.i64.wrap (m : Int) = (m : Int) := IntWalk.i64_in _ (by omega)
      have hol : (cellsOf t.ng out).length ≤ 1000 := by unfold cellsOf; rw [List.length_map]; omega
      have hil2 : CL wr (.slice oa out.length oc) (cellsOf t.ng out) := HIL.out
      clear HS1'
      cases hr : lvF N (okL t) m (out ++ [(k : Int)]) (k + 1) with
      | none =>
        have HR := Lib.hid hr
        have HST2 : Hid (lvF N (okL t) (m + 1) out next = lvL (lvF N (okL t) m) N out (N - (k + 1))) := by
          have := HST.out; rw [hr] at this; exact this
        clear hr hil2 hownlt hBvne hBdne
        have HAY : Hid (BF wr (X.setCell ⟨wr.heap.size + 1, c0 * 4 + g0, none⟩ (.bool true)).drew [(wr.heap.size + 1, (outL (outs t.ng (out ++ [(k : Int)]))).toArray, 110), (wr.heap.size, #[.int .i64 (c0 : Int), .int .i64 (g0 : Int)], 39)]) := HA11.out.below ((Below.refl _ _).drew)
        clear HA11
        refine wp_region_held_drew (S := fun X => X.cell? ⟨Bv, 0, none⟩ = some (.func (.func 77) #[] #[.pointer (some ⟨Bt, 0, none⟩), .pointer (some ⟨Bd, 0, none⟩), .pointer (some ⟨Bl, 0, none⟩), .pointer (some ⟨Bv, 0, none⟩)]) ∧ X.cell? ⟨wr.heap.size, 0, none⟩ = some (.int .i64 (c0 : Int)) ∧ X.cell? ⟨wr.heap.size, 1, none⟩ = some (.int .i64 (g0 : Int)) ∧ X.rangeAt (wr.heap.size + 1) 0 (outL (outs t.ng (out ++ [(k : Int)])))) (by kernel_rfl) (HP0.out _ HAY.out) (fun hS => ?_)
        generalize (X.setCell ⟨wr.heap.size + 1, c0 * 4 + g0, none⟩ (.bool true)).drew = X2 at *
        refine tk [0, 1, 2] ?_
        repeat (refine tkH (oi := ⟨_, _, _, _, _, _⟩) (v := ?_) rfl (by kernel_rfl) (by rfl) (fun _ _ _ h => h) hS ?_ ?_; rotate_left; (· rintro W' ⟨z0, z1, z2, z3⟩; go_simp; try with_reducible rfl); try simp only [Act.put, putA, putZ, putS])
        refine tk0 ?_
        refine wpAnyH_take (i := 5) (oi := ⟨some 48, _, _, _, _, _⟩) (v := .agg (outL (outs t.ng (out ++ [(k : Int)]))).toArray) rfl (by kernel_rfl) (by kernel_rfl) (by kernel_rfl) (fun _ _ _ h => h) (yieldsIf_load_mid (by rfl) 110 (.tmp 15) rfl (wr.heap.size + 1) 0 rfl (outL (outs t.ng (out ++ [(k : Int)]))) _ (fun _ h => h.2.2.2) Try.underlying110 rfl HSL2.out) hS ?_
        try simp only [Act.put, putA, putZ, putS]
        refine tH 6 (oi := ⟨_, _, _, _, _, _⟩) (v := ?_) rfl (by kernel_rfl) (by rfl) (fun _ _ _ h => h) hS ?_ ?_
        rotate_left
        · rintro W' ⟨z0, z1, z2, z3⟩; go_simp; try with_reducible rfl
        try simp only [Act.put, putA, putZ, putS]
        refine tH 7 (oi := ⟨_, _, _, _, _, _⟩) (v := .int .i64 ((k : Int) + 1)) rfl (by kernel_rfl) (by rfl) (fun _ _ _ h => h) hS ?_ ?_
        · rintro W' ⟨z0, z1, z2, z3⟩; go_simp
        try simp only [Act.put, putA, putZ, putS]
        refine tH 8 (oi := ⟨_, _, _, _, _, _⟩) (v := ?_) rfl (by kernel_rfl) (by rfl) (fun _ _ _ h => h) hS ?_ ?_
        rotate_left
        · rintro W' ⟨z0, z1, z2, z3⟩; go_simp; try with_reducible rfl
        try simp only [Act.put, putA, putZ, putS]
        refine tH 9 (oi := ⟨_, _, _, _, _, _⟩) (v := .int .i64 (m : Int)) rfl (by kernel_rfl) (by rfl) (fun _ _ _ h => h) hS ?_ ?_
        · rintro W' ⟨z0, z1, z2, z3⟩; go_simp
        try simp only [Act.put, putA, putZ, putS]
        refine wpAnyH_ready (rs := [3]) (by kernel_rfl) (by simp) ?_
        refine AllReadyH.cons (o := ⟨some 46, _, _, _, _, _⟩) rfl (fun K hK => ?_) AllReadyH.nil
        go_simp
        have HA0 := Lib.hid (HAY.out.alloc #[.int .i64 (c0 : Int), .int .i64 (g0 : Int)] 39)
        have hn0M := (HAY.out.lt (.head _)).2
        have hn0E := (HAY.out.lt (.tail _ (.head _))).2
        have hn0_ := HAY.out.fr.size
        refine hK.out _ _ (HP0.out (X2.alloc (.cells #[.int .i64 (c0 : Int), .int .i64 (g0 : Int)] 39)) (HA0.out.sub (List.forall_mem_cons.2 ⟨(.tail _ (.head _)), List.forall_mem_cons.2 ⟨(.tail _ (.tail _ (.head _))), List.forall_mem_nil _⟩⟩))) (fun hS => ?_)
        clear hK K
        try simp only [Act.put, putA, putZ, putS]
        generalize X2.heap.size = J0 at *
        generalize (X2.alloc (.cells #[.int .i64 (c0 : Int), .int .i64 (g0 : Int)] 39)) = X0 at *
        refine wpAnyH_ready (rs := [4]) (by kernel_rfl) (by simp) ?_
        refine AllReadyH.cons (o := ⟨some 47, _, _, _, _, _⟩) rfl (fun K hK => ?_) AllReadyH.nil
        refine step_append_cl (by rfl) (.tmp 44) (.tmp 46) (by rfl) (.slice oa out.length oc) (cellsOf t.ng out) ((c0 : Int), (g0 : Int)) (by rfl) (HIL.out.below HA0.out.fr) hol ⟨J0, 0, none⟩ (by rfl) (fun j u hu => World.news_of_block (HA0.out.bk _ _ _ (.head _)).2 j u hu) ?_
        intro v1 w1 happ
        have HAPP := Lib.hid happ
        have HP12 := Lib.hid (HS1.out X0 w1 v1 (HA0.out.sub (List.forall_mem_cons.2 ⟨(.tail _ (.head _)), List.forall_mem_cons.2 ⟨(.tail _ (.tail _ (.head _))), List.forall_mem_nil _⟩⟩)) happ)
        have HCQ := Lib.hid (HCALL.out X0 w1 v1 (HA0.out.sub (List.forall_mem_cons.2 ⟨(.tail _ (.head _)), List.forall_mem_cons.2 ⟨(.tail _ (.tail _ (.head _))), List.forall_mem_nil _⟩⟩)) happ)
        obtain ⟨_, happ2, ⟨gv, cv, rfl⟩, _⟩ := happ
        clear happ2
        refine hK.out _ _ HP12.out (fun hS => ?_)
        clear hK K
        try simp only [Act.put, putA, putZ, putS]
        refine wpAnyH_ready (rs := [10]) (by kernel_rfl) (by simp) ?_
        refine AllReadyH.cons (o := ⟨some 53, _, _, _, _, _⟩) rfl (fun K hK => ?_) AllReadyH.nil
        go_simp
        refine HCQ.out.mono ?_
        rintro e W2 ⟨hp, hi2, hf2, hb2, hs2⟩
        obtain ⟨rfl, _, _, hb3⟩ := LvP.none HR.out hp
        have HI2 := Lib.hid hi2; have HF2 := Lib.hid hf2; have HB2 := Lib.hid (hb3.trans hb2); have HS2 := Lib.hid hs2
        clear hp hi2 hf2 hb2 hb3 hs2
        (try go_wp2_with fail)
        refine hK.out _ _ HS2.out (fun hS => ?_)
        clear hK K
        try simp only [Act.put, putA, putZ, putS]
        refine wpAnyH_done (by kernel_rfl) ?_ _
        go_wp2_with fail
        go_roundw
        case rel => exact ⟨k + 1, by go_num, by omega, by omega, HST2.out, HI2.out, HF2.out, HB2.out⟩
        case measure => simp [intOf]; omega
      | some l =>
        have HR := Lib.hid hr
        have HST2 : Hid (lvF N (okL t) (m + 1) out next = some l) := by
          have := HST.out; rw [hr] at this; exact this
        clear hr hil2 hownlt hBvne hBdne
        have HAY : Hid (BF wr (X.setCell ⟨wr.heap.size + 1, c0 * 4 + g0, none⟩ (.bool true)).drew [(wr.heap.size + 1, (outL (outs t.ng (out ++ [(k : Int)]))).toArray, 110), (wr.heap.size, #[.int .i64 (c0 : Int), .int .i64 (g0 : Int)], 39)]) := HA11.out.below ((Below.refl _ _).drew)
        clear HA11
        refine wp_region_held_drew (S := fun X => X.cell? ⟨Bv, 0, none⟩ = some (.func (.func 77) #[] #[.pointer (some ⟨Bt, 0, none⟩), .pointer (some ⟨Bd, 0, none⟩), .pointer (some ⟨Bl, 0, none⟩), .pointer (some ⟨Bv, 0, none⟩)]) ∧ X.cell? ⟨wr.heap.size, 0, none⟩ = some (.int .i64 (c0 : Int)) ∧ X.cell? ⟨wr.heap.size, 1, none⟩ = some (.int .i64 (g0 : Int)) ∧ X.rangeAt (wr.heap.size + 1) 0 (outL (outs t.ng (out ++ [(k : Int)])))) (by kernel_rfl) (HP0.out _ HAY.out) (fun hS => ?_)
        generalize (X.setCell ⟨wr.heap.size + 1, c0 * 4 + g0, none⟩ (.bool true)).drew = X2 at *
        refine tk [0, 1, 2] ?_
        repeat (refine tkH (oi := ⟨_, _, _, _, _, _⟩) (v := ?_) rfl (by kernel_rfl) (by rfl) (fun _ _ _ h => h) hS ?_ ?_; rotate_left; (· rintro W' ⟨z0, z1, z2, z3⟩; go_simp; try with_reducible rfl); try simp only [Act.put, putA, putZ, putS])
        refine tk0 ?_
        refine wpAnyH_take (i := 5) (oi := ⟨some 48, _, _, _, _, _⟩) (v := .agg (outL (outs t.ng (out ++ [(k : Int)]))).toArray) rfl (by kernel_rfl) (by kernel_rfl) (by kernel_rfl) (fun _ _ _ h => h) (yieldsIf_load_mid (by rfl) 110 (.tmp 15) rfl (wr.heap.size + 1) 0 rfl (outL (outs t.ng (out ++ [(k : Int)]))) _ (fun _ h => h.2.2.2) Try.underlying110 rfl HSL2.out) hS ?_
        try simp only [Act.put, putA, putZ, putS]
        refine tH 6 (oi := ⟨_, _, _, _, _, _⟩) (v := ?_) rfl (by kernel_rfl) (by rfl) (fun _ _ _ h => h) hS ?_ ?_
        rotate_left
        · rintro W' ⟨z0, z1, z2, z3⟩; go_simp; try with_reducible rfl
        try simp only [Act.put, putA, putZ, putS]
        refine tH 7 (oi := ⟨_, _, _, _, _, _⟩) (v := .int .i64 ((k : Int) + 1)) rfl (by kernel_rfl) (by rfl) (fun _ _ _ h => h) hS ?_ ?_
        · rintro W' ⟨z0, z1, z2, z3⟩; go_simp
        try simp only [Act.put, putA, putZ, putS]
        refine tH 8 (oi := ⟨_, _, _, _, _, _⟩) (v := ?_) rfl (by kernel_rfl) (by rfl) (fun _ _ _ h => h) hS ?_ ?_
        rotate_left
        · rintro W' ⟨z0, z1, z2, z3⟩; go_simp; try with_reducible rfl
        try simp only [Act.put, putA, putZ, putS]
        refine tH 9 (oi := ⟨_, _, _, _, _, _⟩) (v := .int .i64 (m : Int)) rfl (by kernel_rfl) (by rfl) (fun _ _ _ h => h) hS ?_ ?_
        · rintro W' ⟨z0, z1, z2, z3⟩; go_simp
        try simp only [Act.put, putA, putZ, putS]
        refine wpAnyH_ready (rs := [3]) (by kernel_rfl) (by simp) ?_
        refine AllReadyH.cons (o := ⟨some 46, _, _, _, _, _⟩) rfl (fun K hK => ?_) AllReadyH.nil
        go_simp
        have HA0 := Lib.hid (HAY.out.alloc #[.int .i64 (c0 : Int), .int .i64 (g0 : Int)] 39)
        have hn0M := (HAY.out.lt (.head _)).2
        have hn0E := (HAY.out.lt (.tail _ (.head _))).2
        have hn0_ := HAY.out.fr.size
        refine hK.out _ _ (HP0.out (X2.alloc (.cells #[.int .i64 (c0 : Int), .int .i64 (g0 : Int)] 39)) (HA0.out.sub (List.forall_mem_cons.2 ⟨(.tail _ (.head _)), List.forall_mem_cons.2 ⟨(.tail _ (.tail _ (.head _))), List.forall_mem_nil _⟩⟩))) (fun hS => ?_)
        clear hK K
        try simp only [Act.put, putA, putZ, putS]
        generalize X2.heap.size = J0 at *
        generalize (X2.alloc (.cells #[.int .i64 (c0 : Int), .int .i64 (g0 : Int)] 39)) = X0 at *
        refine wpAnyH_ready (rs := [4]) (by kernel_rfl) (by simp) ?_
        refine AllReadyH.cons (o := ⟨some 47, _, _, _, _, _⟩) rfl (fun K hK => ?_) AllReadyH.nil
        refine step_append_cl (by rfl) (.tmp 44) (.tmp 46) (by rfl) (.slice oa out.length oc) (cellsOf t.ng out) ((c0 : Int), (g0 : Int)) (by rfl) (HIL.out.below HA0.out.fr) hol ⟨J0, 0, none⟩ (by rfl) (fun j u hu => World.news_of_block (HA0.out.bk _ _ _ (.head _)).2 j u hu) ?_
        intro v1 w1 happ
        have HAPP := Lib.hid happ
        have HP12 := Lib.hid (HS1.out X0 w1 v1 (HA0.out.sub (List.forall_mem_cons.2 ⟨(.tail _ (.head _)), List.forall_mem_cons.2 ⟨(.tail _ (.tail _ (.head _))), List.forall_mem_nil _⟩⟩)) happ)
        have HCQ := Lib.hid (HCALL.out X0 w1 v1 (HA0.out.sub (List.forall_mem_cons.2 ⟨(.tail _ (.head _)), List.forall_mem_cons.2 ⟨(.tail _ (.tail _ (.head _))), List.forall_mem_nil _⟩⟩)) happ)
        obtain ⟨_, happ2, ⟨gv, cv, rfl⟩, _⟩ := happ
        clear happ2
        refine hK.out _ _ HP12.out (fun hS => ?_)
        clear hK K
        try simp only [Act.put, putA, putZ, putS]
        refine wpAnyH_ready (rs := [10]) (by kernel_rfl) (by simp) ?_
        refine AllReadyH.cons (o := ⟨some 53, _, _, _, _, _⟩) rfl (fun K hK => ?_) AllReadyH.nil
        go_simp
        refine HCQ.out.mono ?_
        rintro e W2 ⟨hp, hi2, hf2, hb2, hs2⟩
        obtain ⟨rfl, _, _, hb3⟩ := LvP.some HR.out hp
        have HI2 := Lib.hid hi2; have HF2 := Lib.hid hf2; have HB2 := Lib.hid hb3; have HS2 := Lib.hid hs2
        clear hp hi2 hf2 hb2 hb3 hs2
        (try go_wp2_with fail)
        refine hK.out _ _ HS2.out (fun hS => ?_)
        clear hK K
        try simp only [Act.put, putA, putZ, putS]
        refine wpAnyH_done (by kernel_rfl) ?_ _
        go_wp2_with fail
        go_ret
        exact LvP.mkSome HST2.out HI2.out ((Fr.below HB0.out _).trans HF2.out) rfl HB2.out
    · have HNO : Hid (lvF N (okL t) (m + 1) out next = none) := by unfold Hid; rw [HRES.out, show N - k = 0 from by omega]; rfl
      go_wp2_with fail
      go_ret
      exact LvP.mkNone HNO.out HIL.out ((Fr.below HB0.out _).trans HFR.out) rfl HBD.out
end Go.Proofs.Ytjaoflfophcibaa

namespace Go.Proofs.Ytjaoflfophcibaa
open Go.RowKit Go.Shelf

/-- The first size at which a list can be left out. -/
def lvS (f : Nat → Option (List Int)) : Nat → Nat → Option (List Int)
  | 0, _ => none
  | k + 1, m => match f m with
    | some l => some l
    | none => lvS f k (m + 1)
theorem lvS_step {f : Nat → Option (List Int)} {n k : Nat} (hk : k < n) : lvS f (n - k) k = match f k with | some l => some l | none => lvS f (n - (k + 1)) (k + 1) := by
  obtain ⟨d, hd⟩ : ∃ d, n - k = d + 1 := ⟨n - k - 1, by omega⟩
  rw [hd, lvS, show n - (k + 1) = d from by omega]
  all_goals (cases f k <;> rfl)
theorem lv_any {t : Tb} (hG : Gd t) (w0 : World) (x : WV) (Bt Bd Bl Bv : Nat) (lv : Value) (m : Nat) : ∀ (next : Nat) (ov : Value) (out : List Int) (W : World), LE w0 W x t Bt Bd Bl Bv lv → LX w0 W lv ov → CL W ov (cellsOf t.ng out) → out.length + m ≤ 100 → next ≤ 100 →
      Calls Try.prog 77 #[ov, .agg (outL (outs t.ng out)).toArray, .int .i64 next, .int .i64 m, .pointer (some ⟨Bt, 0, none⟩), .pointer (some ⟨Bd, 0, none⟩), .pointer (some ⟨Bl, 0, none⟩), .pointer (some ⟨Bv, 0, none⟩)] W (LvP t.ng W Bd ov out (lvF (t.nc * t.ng) (okL t) m out next)) := by
  induction m with
  | zero =>
    intro next ov out W hE hX hI hl hn
    exact lv_zero hG w0 x Bt Bd Bl Bv lv next ov out W hE hX hI (by omega)
  | succ m ih =>
    intro next ov out W hE hX hI hl hn
    exact lv_succ hG w0 x Bt Bd Bl Bv lv m ih next ov out W hE hX hI hl hn
/-- The smallest list of cells that can be left out. -/
def Tb.leave (t : Tb) : Option (List Int) := lvS (fun m => lvF (t.nc * t.ng) (okL t) m [] 0) (t.nc * t.ng + 1 - 0) 0
def LeaveP (t : Tb) (w : World) (e : Ending) (w' : World) : Prop :=
  (∃ v, e = .returned (.tuple #[v, .int .i64 (if t.leave.isSome = true then 0 else 9)]) ∧ CL w' v (cellsOf t.ng (t.leave.getD []))) ∧ Below w.heap.size w w'
set_option maxRecDepth 100000 in
set_option maxHeartbeats 1000000 in
theorem Leave_bad (x : WV) (t : Tb) (hs : t.small) (w : World) (hl : WL w x t) (hf : t.fault ≠ 0) :
    Calls Try.prog 33 #[.agg #[x.cv t, x.bv t, x.rv t, x.nv t]] w fun e w' => e = .returned (.tuple #[.slice none 0 0, .int .i64 t.fault]) ∧ Below w.heap.size w w' := by
  have HC : Hid (∀ X, Below w.heap.size w X → Calls Try.prog 47 #[.agg #[x.cv t, x.bv t, x.rv t, x.nv t]] X fun e w' => e = .returned (.int .i64 t.fault) ∧ Below X.heap.size X w') := fun X hX => check_any _ t X (hl.below hX).tb hs
  have hq : (t.fault != 0) = true := by simp [hf]
  clear hl hs hf
  generalize t.fault = f at *
  simp only [WV.cv, WV.bv, WV.rv, WV.nv] at HC ⊢
  go_enter Try.func33, Try.ntmps33
  go_wp2
  go_step3
  go_wp2_with (go_at_call 47; refine (HC.out _ (below_alloc _ _)).mono ?_; rintro _ w1 ⟨rfl, hb1⟩)
  rw [Exit.noGoto_ret]
  go_ret2
  exact ⟨rfl, below_step (below_alloc _ _) hb1⟩
set_option maxRecDepth 100000 in
set_option maxHeartbeats 4000000 in
theorem Leave_ok (x : WV) (t : Tb) (hs : t.small) (w : World) (hl : WL w x t) (hf : t.fault = 0) :
    Calls Try.prog 33 #[.agg #[x.cv t, x.bv t, x.rv t, x.nv t]] w (LeaveP t w) := by
  have hG := Gd.of_fault hs hf
  have ng2 := hG.ng2; have ng4 := hG.ng4; have nc1 := hG.nc1; have nc4 := hG.nc4
  have HC : Hid (∀ X, Below w.heap.size w X → Calls Try.prog 47 #[.agg #[x.cv t, x.bv t, x.rv t, x.nv t]] X fun e w' => e = .returned (.int .i64 0) ∧ Below X.heap.size X w') := fun X hX => by rw [← hf]; exact check_any _ t X (hl.below hX).tb hs
  have HL := Lib.hid hl; have HG := Lib.hid hG; have HS := Lib.hid hs
  have HTB : Hid (∀ X Bt, Below w.heap.size w X → X.heap[Bt]? = some (.cells #[x.cv t, x.bv t, x.rv t, x.nv t] 36 (0, 0)) → TBox X Bt x t) := fun X Bt hX hB => ⟨hB, HL.out.below hX⟩
  have HCO : Hid (∀ X Bt, TBox X Bt x t → Calls Try.prog 75 #[.func (.func 106) #[] #[.pointer (some ⟨Bt, 0, none⟩)]] X fun e w' => ∃ v, e = .returned v ∧ CL w' v (cellsN t.ng (t.nc * t.ng)) ∧ Below X.heap.size X w') := fun X Bt h => collect_cells Bt x t hs nc4 ng4 X h
  clear hl hs hf hG
  simp only [WV.cv, WV.bv, WV.rv, WV.nv] at HC HTB ⊢
  obtain ⟨N, hN⟩ : ∃ N, N = t.nc * t.ng := ⟨_, rfl⟩
  have hN16 : N ≤ 16 := by rw [hN]; exact Nat.le_trans (Nat.mul_le_mul nc4 ng4) (by decide)
  have HN := Lib.hid hN
  rw [← hN] at HCO
  clear hN
  go_enter Try.func33, Try.ntmps33
  go_wp2
  go_step3
  go_wp2_with (first | (go_at_call 47; refine (HC.out _ (below_alloc _ _)).mono ?_; rintro _ w1 ⟨rfl, hb1⟩; have hT := (hb1.block w.heap.size (by simp)).trans (heap_alloc_new w _); have HT1 := Lib.hid hT; have d0 := cell_of_row _ _ 0 _ _ _ hT; have d1 := cell_of_row _ _ 1 _ _ _ hT; have d2 := cell_of_row _ _ 2 _ _ _ hT; have d3 := cell_of_row _ _ 3 _ _ _ hT; have HB1 := Lib.hid (below_step (below_alloc _ _) hb1); have hz1 : w.heap.size + 1 ≤ w1.heap.size := Nat.le_trans (Nat.le_of_eq (World.size_alloc _ _).symm) hb1.size; clear hb1 hT) | (go_at_call 76; refine (cells_any _ _ _ _ _).mono ?_; rintro _ w2 ⟨rfl, rfl⟩) | (go_at_call 75; go_loud (refine (HCO.out _ _ (HTB.out _ _ (below_step HB1.out (below_alloc _ _)) (heap_alloc_new w1 _))).mono ?_); rintro _ w3 ⟨v3, rfl, hc3, hb3⟩; have HC3 := Lib.hid hc3; have HB3 := Lib.hid (below_step (below_alloc w1 _) hb3); obtain ⟨la, lc, rfl⟩ := hc3.slice; clear hc3 hb3))
  have hcn : (cellsN t.ng N).length = N := cellsN_length _ _
  rw [hcn] at HC3
  rw [hcn]
  clear hcn
  obtain ⟨hz, hb4, k0, k1, k2⟩ := alloc3 w3 (.cells #[.slice la N lc] 63) (.cells #[.slice none 0 0] 63) (.cells #[.func (.func 77) #[] #[.pointer (some ⟨w.heap.size, 0, none⟩), .pointer (some ⟨w3.heap.size + 1, 0, none⟩), .pointer (some ⟨w3.heap.size, 0, none⟩), .pointer (some ⟨w3.heap.size + 1 + 1, 0, none⟩)]] 131)
  have hbw : Below w.heap.size w (((w3.alloc (.cells #[.slice la N lc] 63)).alloc (.cells #[.slice none 0 0] 63)).alloc (.cells #[.func (.func 77) #[] #[.pointer (some ⟨w.heap.size, 0, none⟩), .pointer (some ⟨w3.heap.size + 1, 0, none⟩), .pointer (some ⟨w3.heap.size, 0, none⟩), .pointer (some ⟨w3.heap.size + 1 + 1, 0, none⟩)]] 131)) := (HB1.out.trans (HB3.out.mono HB1.out.size)).trans (hb4.mono (by have := HB1.out.size; have := HB3.out.size; omega))
  have hz13 := HB3.out.size
  have henv : LE w (((w3.alloc (.cells #[.slice la N lc] 63)).alloc (.cells #[.slice none 0 0] 63)).alloc (.cells #[.func (.func 77) #[] #[.pointer (some ⟨w.heap.size, 0, none⟩), .pointer (some ⟨w3.heap.size + 1, 0, none⟩), .pointer (some ⟨w3.heap.size, 0, none⟩), .pointer (some ⟨w3.heap.size + 1 + 1, 0, none⟩)]] 131)) x t w.heap.size (w3.heap.size + 1) w3.heap.size (w3.heap.size + 1 + 1) (.slice la N lc) := by
    refine ⟨HL.out, hbw, (hb4.block _ (by omega)).trans ((HB3.out.block _ (by omega)).trans HT1.out), ⟨_, k1⟩, k0, k2, ?_, by omega, ⟨by omega, by omega, by omega, by omega⟩⟩
    rw [← HN.out]
    exact CL.below HC3.out hb4
  generalize (((w3.alloc (.cells #[.slice la N lc] 63)).alloc (.cells #[.slice none 0 0] 63)).alloc (.cells #[.func (.func 77) #[] #[.pointer (some ⟨w.heap.size, 0, none⟩), .pointer (some ⟨w3.heap.size + 1, 0, none⟩), .pointer (some ⟨w3.heap.size, 0, none⟩), .pointer (some ⟨w3.heap.size + 1 + 1, 0, none⟩)]] 131)) = W4 at *
  have HENV := Lib.hid henv; have HBW := Lib.hid hbw; have HK1 := Lib.hid k1
  obtain ⟨hza, hzb⟩ : w3.heap.size + 3 ≤ W4.heap.size ∧ W4.heap.size ≤ w3.heap.size + 3 := by omega
  have d5 : W4.cell? ⟨w3.heap.size, 0, none⟩ = some (.slice la N lc) := cell_of_row _ _ 0 _ _ _ k0
  have HNX : Hid (∀ k, Tb.leave t = lvS (fun m => lvF N (okL t) m [] 0) (N + 1 - 0) 0 ∧ (k : Nat) = k) := fun k => ⟨by unfold Tb.leave; rw [← HN.out], rfl⟩
  clear henv hbw k0 k1 k2 hz hb4 HB1 HB3 HC3 HT1 HCO HTB
  go_step3
  go_wp2
  go_loopw [8, 21] (fun u i wr => ∃ k : Nat, k ≤ N + 2 ∧ i = .int .i64 k ∧ u = .int .i64 ((k - 1 : Nat) : Int) ∧ lvS (fun m => lvF N (okL t) m [] 0) (N + 1 - 0) 0 = lvS (fun m => lvF N (okL t) m [] 0) (N + 1 - k) k ∧ LE w wr x t w.heap.size (w3.heap.size + 1) w3.heap.size (w3.heap.size + 1 + 1) (.slice la N lc) ∧ wr.heap[w3.heap.size + 1]? = some (.cells #[.slice none 0 0] 63 (0, 0))) (fun _ i _ => N + 2 - (intOf i).toNat)
  case atStart => exact ⟨0, Nat.zero_le _, rfl, rfl, rfl, HENV.out, HK1.out⟩
  case round =>
    clear HENV HBW HK1 d5
    obtain ⟨k, hk, rfl, rfl, hres, henv, hbd⟩ := hrel
    have HE := Lib.hid henv; have HBD := Lib.hid hbd; have HRES := Lib.hid hres
    have c5 : wr.cell? ⟨w3.heap.size + 1 + 1, 0, none⟩ = some (.func (.func 77) #[] #[.pointer (some ⟨w.heap.size, 0, none⟩), .pointer (some ⟨w3.heap.size + 1, 0, none⟩), .pointer (some ⟨w3.heap.size, 0, none⟩), .pointer (some ⟨w3.heap.size + 1 + 1, 0, none⟩)]) := cell_of_row _ _ 0 _ _ _ henv.bv
    have c4 : wr.cell? ⟨w3.heap.size + 1, 0, none⟩ = some (.slice none 0 0) := cell_of_row _ _ 0 _ _ _ hbd
    have c3 : wr.cell? ⟨w3.heap.size, 0, none⟩ = some (.slice la N lc) := cell_of_row _ _ 0 _ _ _ henv.bl
    clear hbd hres henv
    by_cases hlt : k < N + 1
    · have hst := HRES.out.trans (lvS_step hlt)
      have HST := Lib.hid hst; clear hst
      have hlx : LX w wr (.slice la N lc) (.slice none 0 0) := fun q hq => by cases hq
      have hcall := lv_any HG.out w x w.heap.size (w3.heap.size + 1) w3.heap.size (w3.heap.size + 1 + 1) (.slice la N lc) k 0 (.slice none 0 0) [] wr HE.out hlx (CL.nil _) (by simp; omega) (by omega)
      rw [← HN.out, show ((0 : Nat) : Int) = 0 from rfl, show (outL (outs t.ng [])).toArray = #[.bool false, .bool false, .bool false, .bool false, .bool false, .bool false, .bool false, .bool false, .bool false, .bool false, .bool false, .bool false, .bool false, .bool false, .bool false, .bool false] from rfl] at hcall
      have HCALL := Lib.hid hcall; have HLX := Lib.hid hlx; clear hcall hlx
      cases hr : lvF N (okL t) k [] 0 with
      | none =>
        have HR := Lib.hid hr; clear hr
        go_wp2_with (go_at_call 77; refine HCALL.out.mono ?_; rintro e W2 hp; obtain ⟨rfl, q1, q2, q3⟩ := LvP.none HR.out hp; have HQ2 := Lib.hid (q3.trans HBD.out); have HQ3 := Lib.hid (HE.out.fr HLX.out q2 ⟨_, q3.trans HBD.out⟩); clear q1 q2 q3 hp)
        go_roundw
        case rel => exact ⟨k + 1, by omega, by go_num, by go_num, by have := HST.out; simp only [HR.out] at this; exact this, HQ3.out, HQ2.out⟩
        case measure => simp [intOf]; omega
      | some l =>
        have HR := Lib.hid hr; clear hr
        go_wp2_with (go_at_call 77; refine HCALL.out.mono ?_; rintro e W2 hp; obtain ⟨rfl, q1, q2, fv, q3, q4⟩ := LvP.some HR.out hp; have HQ3 := Lib.hid (HE.out.fr HLX.out q2 ⟨_, q3⟩); have HQ2 := Lib.hid q4; obtain ⟨fa, fc, rfl⟩ := q4.slice; have c6 : W2.cell? ⟨w3.heap.size + 1, 0, none⟩ = some (.slice fa (cellsOf t.ng l).length fc) := cell_of_row _ _ 0 _ _ _ q3; have c7 : W2.cell? ⟨w3.heap.size, 0, none⟩ = some (.slice la N lc) := cell_of_row _ _ 0 _ _ _ HQ3.out.bl; clear q1 q2 q3 q4 hp)
        have HLV : Hid (t.leave = some l) := by
          have := HST.out; simp only [HR.out] at this; unfold Hid; rw [(HNX.out 0).1, this]
        rw [Exit.noGoto_ret]
        go_ret2
        exact ⟨⟨_, by rw [HLV.out]; rfl, by rw [HLV.out]; exact HQ2.out⟩, HQ3.out.bel⟩
    · by_cases hlt2 : k < N + 2
      · have hle : ¬ k ≤ N := by omega
        go_wp2_with fail
        go_roundw
        case rel => exact ⟨k + 1, by omega, by go_num, by go_num, by rw [HRES.out, show N + 1 - k = 0 from by omega, show N + 1 - (k + 1) = 0 from by omega]; rfl, HE.out, HBD.out⟩
        case measure => simp [intOf]; omega
      · obtain rfl : k = N + 2 := by omega
        have HLV : Hid (t.leave = none) := by
          unfold Hid; rw [(HNX.out 0).1, HRES.out, show N + 1 - (N + 2) = 0 from by omega]; rfl
        go_wp2_with fail
        rw [Exit.noGoto_ret]
        go_ret2
        exact ⟨⟨_, by rw [HLV.out]; rfl, by rw [HLV.out]; exact CL.nil _⟩, HE.out.bel⟩
end Go.Proofs.Ytjaoflfophcibaa

namespace Go.Proofs.Ytjaoflfophcibaa
open Go.RowKit Go.Shelf

set_option maxHeartbeats 1000000 in
theorem between_any (lo hi : Int) (w : World) : Calls Try.prog 41 #[.int .i64 lo, .int .i64 hi] w fun e w' => e = .returned (.agg #[.int .i64 lo, .int .i64 hi]) ∧ Below w.heap.size w w' := by
  go_enter Try.func41, Try.ntmps41
  go_wp2
  exact bodyPost_ret (v := .agg #[.int .i64 lo, .int .i64 hi]) (by simp [results, Try.results41, go_sem]) rfl ⟨rfl, below_alloc _ _⟩
def lstR (l : List R2) : Nat → R2 := fun j => l.getD j (0, 0)
/-- The chapter's table. -/
def countyT (lo hi : Int) : Tb where
  nc := 2
  rl := fun _ => 3
  ct := fun c => if c = 0 then lstR [(100, 100), (80, 90), (40, 50)] else lstR [(lo, hi), (90, 97), (100, 115)]
  nb := 1
  b := lstR [(110, 120), (0, 50)]
  nr := 4
  r := lstR [(150, 200), (20, 40), (50, 60), (300, 400)]
  nn := 3
  n := lstR [(0, 0), (-5, 5), (0, 0)]
theorem countyT_small (lo hi : Int) : (countyT lo hi).small := ⟨show 2 ≤ 100000 by decide, fun _ => show 3 ≤ 100000 by decide, show 1 ≤ 100000 by decide, show 4 ≤ 100000 by decide, show 3 ≤ 100000 by decide⟩
def litR (l : List R2) : Array Value := (l.flatMap fun r => [Value.int .i64 r.1, Value.int .i64 r.2]).toArray
theorem RsAt.lit {X : World} {b : Nat} {l : List R2} {T : TypeId} {fr : Nat × Nat} {R : Nat → R2} {cap n : Nat} (h : X.heap[b]? = some (.cells (litR l) T fr)) (hn : l.length = n) (hR : ∀ j, j < n → R j = lstR l j) : RsAt X (.slice (some ⟨b, 0, none⟩) n cap) n R := by
  refine .inr ⟨b, 0, cap, rfl, (Array.getElem?_eq_some_iff.1 h).1, fun j hj => ?_⟩
  have hf := flat_get l j (by omega)
  have e : R j = l[j]'(by omega) := by rw [hR j hj]; unfold lstR; rw [List.getD_eq_getElem?_getD, List.getElem?_eq_getElem (by omega)]; rfl
  rw [e, Nat.zero_add, cell_of_row _ _ _ _ _ _ h, cell_of_row _ _ _ _ _ _ h]
  unfold litR
  rw [List.getElem?_toArray, List.getElem?_toArray]
  exact hf
theorem set4' {X : World} {b : Nat} {p q r s : Value} {t : TypeId} (h : X.heap[b]? = some (.cells #[p, q, r, s] t (0, 0))) (p' q' r' s' : Value) :
    ((((X.setCell ⟨b, 0, none⟩ p').setCell ⟨b, 1, none⟩ q').setCell ⟨b, 2, none⟩ r').setCell ⟨b, 3, none⟩ s').heap[b]? = some (.cells #[p', q', r', s'] t (0, 0)) ∧ Fr (fun k => k = b) X ((((X.setCell ⟨b, 0, none⟩ p').setCell ⟨b, 1, none⟩ q').setCell ⟨b, 2, none⟩ r').setCell ⟨b, 3, none⟩ s') :=
  ⟨by simp [World.setCell, Array.getElem?_modify, h], (((Fr.set X b 0 p').trans (Fr.set _ b 1 q')).trans (Fr.set _ b 2 r')).trans (Fr.set _ b 3 s')⟩
set_option maxRecDepth 100000 in
set_option maxHeartbeats 4000000 in
theorem county_any (lo hi : Int) (w : World) : Calls Try.prog 55 #[.int .i64 lo, .int .i64 hi] w fun e w' => ∃ x, e = .returned (.agg #[x.cv (countyT lo hi), x.bv (countyT lo hi), x.rv (countyT lo hi), x.nv (countyT lo hi)]) ∧ WL w' x (countyT lo hi) ∧ Below w.heap.size w w' := by
  have HA0 := Lib.hid ((BF.base w).alloc #[.slice none 0 0, .slice none 0 0, .slice none 0 0, .slice none 0 0] 36)
  go_enter Try.func55, Try.ntmps55
  go_wp2_with fail
  refine (between_any _ _ _).mono ?_
  rintro _ y1 ⟨rfl, hb1⟩
  have HA1 := Lib.hid (HA0.out.below hb1)
  clear hb1
  go_wp2_with fail
  refine (between_any _ _ _).mono ?_
  rintro _ y2 ⟨rfl, hb2⟩
  have HA2 := Lib.hid (HA1.out.below hb2)
  clear hb2
  go_wp2_with fail
  refine (between_any _ _ _).mono ?_
  rintro _ y3 ⟨rfl, hb3⟩
  have HA3 := Lib.hid (HA2.out.below hb3)
  clear hb3
  have HB3_0 := Lib.hid (HA3.out.alloc #[.int .i64 100, .int .i64 100, .int .i64 80, .int .i64 90, .int .i64 40, .int .i64 50] 29)
  go_wp2_with fail
  refine (between_any _ _ _).mono ?_
  rintro _ y4 ⟨rfl, hb4⟩
  have HA4 := Lib.hid (HB3_0.out.below hb4)
  clear hb4
  go_wp2_with fail
  refine (between_any _ _ _).mono ?_
  rintro _ y5 ⟨rfl, hb5⟩
  have HA5 := Lib.hid (HA4.out.below hb5)
  clear hb5
  go_wp2_with fail
  refine (between_any _ _ _).mono ?_
  rintro _ y6 ⟨rfl, hb6⟩
  have HA6 := Lib.hid (HA5.out.below hb6)
  clear hb6
  have HB6_0 := Lib.hid (HA6.out.alloc #[.int .i64 lo, .int .i64 hi, .int .i64 90, .int .i64 97, .int .i64 100, .int .i64 115] 29)
  have HB6_1 := Lib.hid (HB6_0.out.alloc #[.slice (some ⟨y3.heap.size, 0, none⟩) 3 3, .slice (some ⟨y6.heap.size, 0, none⟩) 3 3] 34)
  rw [World.size_alloc] at HB6_1
  go_wp2_with fail
  refine (between_any _ _ _).mono ?_
  rintro _ y7 ⟨rfl, hb7⟩
  have HA7 := Lib.hid (HB6_1.out.below hb7)
  clear hb7
  have HB7_0 := Lib.hid (HA7.out.alloc #[.int .i64 110, .int .i64 120] 29)
  go_wp2_with fail
  refine (between_any _ _ _).mono ?_
  rintro _ y8 ⟨rfl, hb8⟩
  have HA8 := Lib.hid (HB7_0.out.below hb8)
  clear hb8
  go_wp2_with fail
  refine (between_any _ _ _).mono ?_
  rintro _ y9 ⟨rfl, hb9⟩
  have HA9 := Lib.hid (HA8.out.below hb9)
  clear hb9
  go_wp2_with fail
  refine (between_any _ _ _).mono ?_
  rintro _ y10 ⟨rfl, hb10⟩
  have HA10 := Lib.hid (HA9.out.below hb10)
  clear hb10
  go_wp2_with fail
  refine (between_any _ _ _).mono ?_
  rintro _ y11 ⟨rfl, hb11⟩
  have HA11 := Lib.hid (HA10.out.below hb11)
  clear hb11
  have HB11_0 := Lib.hid (HA11.out.alloc #[.int .i64 150, .int .i64 200, .int .i64 20, .int .i64 40, .int .i64 50, .int .i64 60, .int .i64 300, .int .i64 400] 29)
  go_wp2_with fail
  refine (between_any _ _ _).mono ?_
  rintro _ y12 ⟨rfl, hb12⟩
  have HA12 := Lib.hid (HB11_0.out.below hb12)
  clear hb12
  have HB12_0 := Lib.hid (HA12.out.alloc #[.int .i64 0, .int .i64 0, .int .i64 (-5), .int .i64 5, .int .i64 0, .int .i64 0] 29)
  have hO := (HB12_0.out.bk _ _ _ (.tail _ (.tail _ (.tail _ (.tail _ (.tail _ (.tail _ (.head _)))))))).2
  have o0 := cell_of_row _ _ 0 _ _ _ hO
  have o1 := cell_of_row _ _ 1 _ _ _ hO
  have o2 := cell_of_row _ _ 2 _ _ _ hO
  have o3 := cell_of_row _ _ 3 _ _ _ hO
  have f0 := frozen_of_row _ _ 0 _ _ hO
  have f1 := frozen_of_row _ _ 1 _ _ hO
  have f2 := frozen_of_row _ _ 2 _ _ hO
  have f3 := frozen_of_row _ _ 3 _ _ hO
  have HO := Lib.hid hO
  clear hO
  go_wp2_with fail
  obtain ⟨hk, hF⟩ := set4' HO.out (.slice (some ⟨y6.heap.size + 1, 0, none⟩) 2 2) (.slice (some ⟨y7.heap.size, 0, none⟩) 1 1) (.slice (some ⟨y11.heap.size, 0, none⟩) 4 4) (.slice (some ⟨y12.heap.size, 0, none⟩) 3 3)
  have c0 := cell_of_row _ _ 0 _ _ _ hk
  have c1 := cell_of_row _ _ 1 _ _ _ hk
  have c2 := cell_of_row _ _ 2 _ _ _ hk
  have c3 := cell_of_row _ _ 3 _ _ _ hk
  have hb : Below w.heap.size w ((y12.alloc (.cells #[.int .i64 0, .int .i64 0, .int .i64 (-5), .int .i64 5, .int .i64 0, .int .i64 0] 29)).setCell ⟨w.heap.size, 0, none⟩ (.slice (some ⟨y6.heap.size + 1, 0, none⟩) 2 2) |>.setCell ⟨w.heap.size, 1, none⟩ (.slice (some ⟨y7.heap.size, 0, none⟩) 1 1) |>.setCell ⟨w.heap.size, 2, none⟩ (.slice (some ⟨y11.heap.size, 0, none⟩) 4 4) |>.setCell ⟨w.heap.size, 3, none⟩ (.slice (some ⟨y12.heap.size, 0, none⟩) 3 3)) := HB12_0.out.fr.trans (hF.low HB12_0.out.fr.size (fun q hq e => by omega))
  have hh : ∀ (b : Nat) (cs : Array Value) (T : TypeId), (y12.alloc (.cells #[.int .i64 0, .int .i64 0, .int .i64 (-5), .int .i64 5, .int .i64 0, .int .i64 0] 29)).heap[b]? = some (.cells cs T (0, 0)) → T ≠ 36 → ((y12.alloc (.cells #[.int .i64 0, .int .i64 0, .int .i64 (-5), .int .i64 5, .int .i64 0, .int .i64 0] 29)).setCell ⟨w.heap.size, 0, none⟩ (.slice (some ⟨y6.heap.size + 1, 0, none⟩) 2 2) |>.setCell ⟨w.heap.size, 1, none⟩ (.slice (some ⟨y7.heap.size, 0, none⟩) 1 1) |>.setCell ⟨w.heap.size, 2, none⟩ (.slice (some ⟨y11.heap.size, 0, none⟩) 4 4) |>.setCell ⟨w.heap.size, 3, none⟩ (.slice (some ⟨y12.heap.size, 0, none⟩) 3 3)).heap[b]? = some (.cells cs T (0, 0)) := fun b cs T hb hT => (hF.block b (Array.getElem?_eq_some_iff.1 hb).1 (fun e => by subst e; rw [HO.out] at hb; cases hb; exact hT rfl)).trans hb
  have g1 := hh _ _ _ (HB12_0.out.bk _ _ _ (.tail _ (.tail _ (.tail _ (.tail _ (.tail _ (.head _))))))).2 (by decide)
  have g2 := hh _ _ _ (HB12_0.out.bk _ _ _ (.tail _ (.tail _ (.tail _ (.tail _ (.head _)))))).2 (by decide)
  have g3 := hh _ _ _ (HB12_0.out.bk _ _ _ (.tail _ (.tail _ (.tail _ (.head _))))).2 (by decide)
  have g4 := hh _ _ _ (HB12_0.out.bk _ _ _ (.tail _ (.tail _ (.head _)))).2 (by decide)
  have g5 := hh _ _ _ (HB12_0.out.bk _ _ _ (.tail _ (.head _))).2 (by decide)
  have g6 := hh _ _ _ (HB12_0.out.bk _ _ _ (.head _)).2 (by decide)
  refine bodyPost_ret (v := .agg #[.slice (some ⟨y6.heap.size + 1, 0, none⟩) 2 2, .slice (some ⟨y7.heap.size, 0, none⟩) 1 1, .slice (some ⟨y11.heap.size, 0, none⟩) 4 4, .slice (some ⟨y12.heap.size, 0, none⟩) 3 3]) (by simp [results, Try.results55, go_sem, c0, c1, c2, c3]) rfl ⟨⟨some ⟨y6.heap.size + 1, 0, none⟩, 2, some ⟨y7.heap.size, 0, none⟩, 1, some ⟨y11.heap.size, 0, none⟩, 4, some ⟨y12.heap.size, 0, none⟩, 3⟩, rfl, ⟨?_, ?_, ?_, ?_⟩, hb⟩
  · refine .inr ⟨_, 0, _, rfl, (Array.getElem?_eq_some_iff.1 g3).1, fun j hj => ?_⟩
    have hj' : j = 0 ∨ j = 1 := by have : j < 2 := hj; omega
    rcases hj' with rfl | rfl
    · exact ⟨_, cell_of_row _ _ 0 _ _ _ g3, RsAt.lit (l := [(100, 100), (80, 90), (40, 50)]) g1 rfl (fun _ _ => rfl)⟩
    · exact ⟨_, cell_of_row _ _ 1 _ _ _ g3, RsAt.lit (l := [(lo, hi), (90, 97), (100, 115)]) g2 rfl (fun _ _ => rfl)⟩
  · exact RsAt.lit (l := [(110, 120)]) g4 rfl (fun j hj => by
                                                          have hj' : j < 1 := hj
                                                          obtain rfl : j = 0 := (by omega)
                                                          rfl)
  · exact RsAt.lit (l := [(150, 200), (20, 40), (50, 60), (300, 400)]) g5 rfl (fun _ _ => rfl)
  · exact RsAt.lit (l := [(0, 0), (-5, 5), (0, 0)]) g6 rfl (fun _ _ => rfl)
end Go.Proofs.Ytjaoflfophcibaa

namespace Go.Proofs.Ytjaoflfophcibaa
open Go.RowKit Go.Shelf

theorem cty_fault : (countyT 60 120).fault = 0 := by decide +kernel
theorem cty_fault7 : (countyT 60 70).fault = 0 := by decide +kernel
theorem cty_agree : (countyT 60 120).agree off0 = true := by decide +kernel
theorem cty_up : ∀ c g, c < (countyT 60 120).nc → g < (countyT 60 120).ng → emptyR ((countyT 60 120).up off0 c g) = false := by
  have h : ∀ c : Fin 2, ∀ g : Fin 3, emptyR ((countyT 60 120).up off0 c.1 g.1) = false := by decide +kernel
  intro c g hc hg
  exact h ⟨c, hc⟩ ⟨g, hg⟩
theorem cty_bnd : bndR (countyT 60 120) off0 0 1 = (80, 90) ∧ bndR (countyT 60 120) off0 1 0 = (88, 102) ∧ bndR (countyT 60 120) off0 1 1 = (91, 97) := by decide +kernel
theorem cty_would : wouldE (countyT 60 120) 0 2 = 0 ∧ wouldR (countyT 60 120) 0 2 = (19, 68) := by decide +kernel
theorem cty_births : (countyT 60 120).b (countyT 60 120).nb = (0, 50) := by decide +kernel
theorem cty_proj : (countyT 60 120).before off0 2 0 = (0, 43) ∧ (countyT 60 120).before off0 2 1 = (79, 105) ∧ (countyT 60 120).before off0 2 2 = (145, 174) := by decide +kernel
theorem cty_leave : (countyT 60 70).leave = some [3] := by decide +kernel
end Go.Proofs.Ytjaoflfophcibaa

namespace Go.Proofs.Ytjaoflfophcibaa
open Go.RowKit Go.Shelf

theorem Try.infoCellR : (Try.prog.info? 48).map (fun i => (i.zero, i.size, i.bytes)) = some (some (.agg #[.int .i64 0, .int .i64 0]), 2, 16) := by kernel_rfl
def eqR (n m : Nat) (x y : Nat → R2) : Bool := (n == m) && allB (fun j => x j == y j) n

set_option maxRecDepth 100000 in
set_option maxHeartbeats 2000000 in
theorem cells_any_eq (va vb : Value) (n m : Nat) (x y : Nat → R2) (w : World) (ha : RsAt w va n x) (hb : RsAt w vb m y) (hn : n ≤ 100000) (hm : m ≤ 100000) :
    Calls Try.prog 37 #[va, vb] w fun e w' => e = .returned (.bool (eqR n m x y)) ∧ Below w.heap.size w w' := by
  obtain ⟨a, ca, rfl⟩ := ha.slice
  obtain ⟨b, cb, rfl⟩ := hb.slice
  have HA := Lib.hid ha; have HB := Lib.hid hb; clear ha hb
  obtain ⟨i0, hi0, hz0, hz1, hz2⟩ := info_parts Try.infoCell
  obtain ⟨i1, hi1, hy0, hy1, hy2⟩ := info_parts Try.infoCellR
  by_cases hnm : n = m
  · subst hnm
    have HEQ : Hid (eqR n n x y = allB (fun j => x j == y j) n) := by unfold Hid eqR; simp
    have hne : ((n : Int) != (n : Int)) = false := by simp
    go_enter Try.func37, Try.ntmps37
    go_wp2
    go_loopw [5] (fun i wr => ∃ k : Nat, k ≤ n ∧ i = .int .i64 k ∧ (∀ q, q < k → (x q == y q) = true) ∧ Below w.heap.size w wr) (fun i _ => n - (intOf i).toNat)
    case atStart => exact ⟨0, Nat.zero_le _, rfl, fun q h => absurd h (Nat.not_lt_zero _), Below.refl _ _⟩
    case round =>
      obtain ⟨k, hk, rfl, hall, hbl⟩ := hrel
      have HALL := Lib.hid hall; have HBL := Lib.hid hbl; clear hall hbl
      by_cases hlt : k < n
      · obtain ⟨ba, oa, rfl, hba, xa, xa'⟩ := HA.out.at hlt
        obtain ⟨bb, ob, rfl, hbb, xb, xb'⟩ := HB.out.at hlt
        have ya := kept HBL.out hba xa
        have ya' := kept HBL.out hba xa'
        have yb := kept HBL.out hbb xb
        have yb' := kept HBL.out hbb xb'
        clear xa xa' xb xb'
        have HX : Hid ((x k == y k) = ((x k).1 == (y k).1 && (x k).2 == (y k).2)) := rfl
        have HF : Hid (x k == y k → (x k == y k) = true) := fun h => h
        have ki : (0 : Int) ≤ (k : Int) := by omega
        have kj : (k : Int) < (n : Int) := by omega
        generalize hx1 : (x k).1 = x1 at *
        generalize hx2 : (x k).2 = x2 at *
        generalize hy1 : (y k).1 = y1 at *
        generalize hy2 : (y k).2 = y2 at *
        clear hx1 hx2 hy1 hy2 HF
        cases h1 : (x1 == y1)
        · have h1n : (x1 != y1) = true := by simp only [bne, h1]; rfl
          have HXF : Hid ((x k == y k) = false) := by unfold Hid; rw [HX.out, h1]; rfl
          clear h1
          go_wp2
          go_quiet (fail)
          go_wp2
          go_ret
          exact ⟨ret_bool (by rw [HEQ.out, allB_false hlt HXF.out]), HBL.out.trans (below_drewS _ _ _)⟩
        · have h1n : (x1 != y1) = false := by simp only [bne, h1]; rfl
          cases h2 : (x2 == y2)
          · have h2n : (x2 != y2) = true := by simp only [bne, h2]; rfl
            have HXF : Hid ((x k == y k) = false) := by unfold Hid; rw [HX.out, h1, h2]; rfl
            clear h1 h2
            go_wp2
            go_quiet (fail)
            go_wp2
            go_ret
            exact ⟨ret_bool (by rw [HEQ.out, allB_false hlt HXF.out]), HBL.out.trans (below_drewS _ _ _)⟩
          · have h2n : (x2 != y2) = false := by simp only [bne, h2]; rfl
            have HXT : Hid ((x k == y k) = true) := by unfold Hid; rw [HX.out, h1, h2]; rfl
            clear h1 h2
            go_wp2
            go_quiet (fail)
            go_wp2
            go_roundw
            case rel => exact ⟨k + 1, by omega, by go_num, (fun q hq => by rcases Nat.lt_succ_iff_lt_or_eq.1 hq with h | rfl; exact HALL.out q h; exact HXT.out), HBL.out.trans (below_drewS _ _ _)⟩
            case measure => simp [intOf]; omega
      · obtain rfl : k = n := by omega
        go_wp2
        go_ret
        exact ⟨ret_bool (by rw [HEQ.out, allB_true HALL.out]), HBL.out⟩
  · have HEQ : Hid (eqR n m x y = false) := by unfold Hid eqR; simp [hnm]
    have hne : ((n : Int) != (m : Int)) = true := by simp; omega
    clear hnm
    go_enter Try.func37, Try.ntmps37
    go_wp2
    go_ret
    exact ⟨ret_bool HEQ.out.symm, Below.refl _ _⟩
end Go.Proofs.Ytjaoflfophcibaa
