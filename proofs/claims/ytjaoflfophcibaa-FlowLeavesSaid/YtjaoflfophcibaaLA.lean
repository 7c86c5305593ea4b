/- The reference's Of. Printed by gen_la.py. -/
import Derived.Test.YtjaoflfophcibaaLB
namespace Go.Proofs.Ytjaoflfophcibaa
open Go.RowKit Go.Shelf

theorem bit_val (n k : Nat) : (((n : Int) / 2 ^ k).tmod 2 == 1) = n.testBit k := by
  rw [Nat.testBit_eq_decide_div_mod_eq]
  have e : ((n : Int) / 2 ^ k).tmod 2 = ((n / 2 ^ k % 2 : Nat) : Int) := by
    rw [Int.tmod_eq_emod_of_nonneg (Int.ediv_nonneg (by omega) (Int.le_of_lt (Int.pow_pos (by decide))))]
    simp
  rw [e]
  by_cases h : n / 2 ^ k % 2 = 1
  · rw [decide_eq_true h, h]; rfl
  · have h0 : n / 2 ^ k % 2 = 0 := by
      have := Nat.mod_lt (n / 2 ^ k) (show 0 < 2 by decide)
      omega
    rw [decide_eq_false h, h0]; rfl
set_option maxRecDepth 100000 in
set_option maxHeartbeats 8000000 in
theorem of_any (u : WV) (t : Tb) (n : Nat) (w : World) (hl : WLi w u t) (hs : t.small) (ht : Okt t) (hn : n < 65536) :
    Calls Try.prog 35 #[.agg #[u.cv t, u.bv t, u.rv t, u.nv t], .int .i64 (n : Int)] w fun e w' => ∃ a c, e = .returned (.slice a (bl (t.nc * t.ng) n).length c) ∧ RsAt w' (.slice a (bl (t.nc * t.ng) n).length c) (bl (t.nc * t.ng) n).length (cR t.ng (bl (t.nc * t.ng) n)) ∧ Below w.heap.size w w' := by
  have HCE : Hid (∀ X, Below w.heap.size w X → Calls Try.prog 34 #[.agg #[u.cv t, u.bv t, u.rv t, u.nv t]] X fun e w' => ∃ v, e = .returned v ∧ w'.ownsRow X.heap.size 48 2 v (t.nc * t.ng) (rC t.ng (List.range (t.nc * t.ng))) ∧ Below X.heap.size X w') := fun X hX => cells_all u t X (hl.below hX) hs ht
  have nc4 := ht.nc4; have ng4 := ht.ng4; have ng2 := ht.ng2
  obtain ⟨N, HN⟩ : ∃ N, Hid (t.nc * t.ng = N) := ⟨_, rfl⟩
  have hN : N ≤ 16 := by rw [← HN.out]; exact Nat.mul_le_mul nc4 ng4
  obtain ⟨ng, HG⟩ : ∃ ng, Hid (t.ng = ng) := ⟨_, rfl⟩
  have hng : 0 < ng := by rw [← HG.out]; omega
  rw [HN.out, HG.out] at HCE ⊢
  obtain ⟨i0, hi0, hz0, hz1, hz2⟩ := info_parts Try.infoCellR
  clear hl hs ht nc4 ng4 ng2 HN HG
  obtain ⟨uca, ucc, uba, ubc, ura, urc, una, unc⟩ := u
  simp only [WV.cv, WV.bv, WV.rv, WV.nv] at HCE ⊢
  have HA0 : Hid (BF w (w.alloc (.cells #[.slice uca t.nc ucc, .slice uba t.nb ubc, .slice ura t.nr urc, .slice una t.nn unc] 25)) [(w.heap.size, #[.slice uca t.nc ucc, .slice uba t.nb ubc, .slice ura t.nr urc, .slice una t.nn unc], 25)]) := (BF.base w).alloc _ _
  have k0 := HA0.out.cell (.head _) 0; have k1 := HA0.out.cell (.head _) 1; have k2 := HA0.out.cell (.head _) 2; have k3 := HA0.out.cell (.head _) 3
  go_enter Try.func35, Try.ntmps35
  go_wp2_with fail
  refine (HCE.out _ HA0.out.fr).mono ?_
  rintro _ w1 ⟨v1, rfl, ho1, hb1⟩
  have HB1 := Lib.hid (HA0.out.below hb1).fr
  have hb1w : w.heap.size ≤ w1.heap.size := HB1.out.size
  obtain ⟨la, lc, rfl⟩ := own_slice' ho1
  have ho2 := ho1
  rw [rC_flatR, List.length_range] at ho2
  have HLI := Lib.hid (RsAt.ownT ho2).toIn
  clear ho1 ho2 hb1 k0 k1 k2 k3 HA0 HCE
  go_wp2_with fail
  go_loopw [5, 7] (fun v i wr => ∃ k : Nat, k ≤ N ∧ i = .int .i64 k ∧ Below w1.heap.size w1 wr ∧ wr.ownsRow w1.heap.size 48 2 v (bl k n).length (rC ng (bl k n))) (fun _ i _ => N - (intOf i).toNat)
  case atStart => exact ⟨0, Nat.zero_le _, rfl, Below.refl _ _, World.ownsRow_nil _ _ _ _⟩
  case round =>
    obtain ⟨k, hk, rfl, hbx, how⟩ := hrel
    rename World => wx
    have HBX := Lib.hid hbx; have HOW := Lib.hid how
    obtain ⟨va, vc, rfl⟩ := own_slice' how
    have hlen := bl_len k n
    clear hbx how
    have ki : (0 : Int) ≤ (k : Int) := by omega
    by_cases hlt : k < N
    · as_aux_lemma =>
      have kj : (k : Int) < (N : Int) := by omega
      have kj2 : (k : Int) < 16 := by omega
      have hu : IntKind.u64.wrap (k : Int) = (k : Int) := IntWalk.u64_in _ (by omega)
      have hmin : min k 64 = k := by omega
      have nn0 : (0 : Int) ≤ (n : Int) := by omega
      have nn1 : (n : Int) < 65536 := by omega
      have HBV := Lib.hid (bit_val n k)
      have HSC := Lib.hid (bl_succ k n)
      cases hbt : n.testBit k
      · have hbv : (((n : Int) / 2 ^ k).tmod 2 == 1) = false := by rw [HBV.out, hbt]
        have hsc := HSC.out
        rw [hbt, if_neg (by decide)] at hsc
        have HSE := Lib.hid hsc
        clear hbt hsc HBV HSC
        go_wp2_with fail
        go_roundw
        case rel => exact ⟨k + 1, by omega, by go_num, HBX.out, by rw [HSE.out]; exact HOW.out⟩
        case measure => simp [intOf]; omega
      · have hbv : (((n : Int) / 2 ^ k).tmod 2 == 1) = true := by rw [HBV.out, hbt]
        have hsc := HSC.out
        rw [hbt, if_pos rfl] at hsc
        have HSE := Lib.hid hsc
        obtain ⟨lb, lo, rfl, hlb, x0, x1⟩ := HLI.out.at (k := k) hlt
        have HRE : Hid (rC ng (bl (k + 1) n) = rC ng (bl k n) ++ [.int .i64 ((k / ng : Nat) : Int), .int .i64 ((k % ng : Nat) : Int)]) := by rw [Hid, HSE.out, rC_snoc]
        have HLE : Hid ((bl (k + 1) n).length = (bl k n).length + 1) := by rw [Hid, HSE.out, List.length_append]; rfl
        have hgd : (List.range N).getD k 0 = k := by rw [List.getD_eq_getElem?_getD, List.getElem?_range hlt]; rfl
        unfold cR at x0 x1
        simp only [hgd] at x0 x1
        have y0 := kept HBX.out hlb x0
        have y1 := kept HBX.out hlb x1
        clear hbt hsc HBV HSC x0 x1 hlb hgd HSE
        generalize k / ng = c at *
        generalize k % ng = g at *
        obtain ⟨q, HQ⟩ : ∃ q, Hid ((bl k n).length = q) := ⟨_, rfl⟩
        obtain ⟨xs, HXS⟩ : ∃ xs, Hid (rC ng (bl k n) = xs) := ⟨_, rfl⟩
        rw [HQ.out, HXS.out] at HOW
        rw [HQ.out] at HLE hlen
        rw [HXS.out] at HRE
        rw [HQ.out]
        have HO2 := Lib.hid (own_below HOW.out (below_alloc wx (.cells #[.int .i64 (c : Int), .int .i64 (g : Int)] 48)))
        go_wp2_with (at_builtin; refine wpList_append_src _ rfl (.tmp 22) (.tmp 27) 49 rfl w1.heap.size 48 i0 (.agg #[.int .i64 0, .int .i64 0]) 2 16 Try.underlying49 hi0 hz0 hz1 hz2 rfl (by decide) (.slice va q vc) q xs rfl HO2.out (some ⟨wx.heap.size, 0, none⟩) 1 1 [.int .i64 (c : Int), .int .i64 (g : Int)] rfl ⟨rfl, fun j u hu => ⟨_, rfl, World.news_of_block (heap_alloc_new wx _) j u hu⟩⟩ (by simp [Value.oneCell']) ?a1 ?a2 ?a3 ?_)
        case a1 => unfold maxLen; omega
        case a2 => omega
        case a3 => have := HBX.out.size; simp; omega
        intro v2 w3 hown hgr hlt1
        obtain ⟨ea, ec, rfl⟩ := own_slice' hown
        have HB3 : Hid (Below w1.heap.size w1 w3) := (below_step HBX.out (below_alloc wx (.cells #[.int .i64 (c : Int), .int .i64 (g : Int)] 48))).trans ((Fr.grown hgr).low (by have := HBX.out.size; simp; omega) (fun q hq e => by have := own_low HO2.out e; omega))
        have HO3 := Lib.hid hown
        clear hown hgr hlt1 HO2 HOW HBX y0 y1
        go_wp2_with fail
        go_roundw
        case rel => exact ⟨k + 1, by omega, by go_num, HB3.out, by rw [HLE.out, HRE.out]; exact HO3.out⟩
        case measure => simp [intOf]; omega
    · obtain rfl : k = N := by omega
      go_wp2_with fail
      go_ret
      have how := HOW.out
      rw [rC_flatR] at how
      exact ⟨va, vc, rfl, RsAt.ownT how, below_step HB1.out HBX.out⟩
end Go.Proofs.Ytjaoflfophcibaa
