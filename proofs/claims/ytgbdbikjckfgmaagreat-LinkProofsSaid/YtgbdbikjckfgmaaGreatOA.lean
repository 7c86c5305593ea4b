/- Link: the reference's Most. Printed by gen_oa.py. -/
import Derived.Test.YtgbdbikjckfgmaaGreatNY
import Derived.Test.YtgbdbikjckfgmaaGreatL0
import Derived.Deep.DrawnRows
import Derived.Deep.MidRow
namespace Go.Proofs.YtgbdbikjckfgmaaGreat
open Go.RowKit Go.Shelf

/-- 256 sizes. -/
def t256 (F : Nat → Int) : Array Value := eA (fun j => .int .i64 (F j)) 256
theorem t256_size (F : Nat → Int) : (t256 F).size = 256 := by simp [t256, eA]
theorem t256_get (F : Nat → Int) {k : Nat} (h : k < 256) : (t256 F)[k]? = some (.int .i64 (F k)) := eA_get (fun j => .int .i64 (F j)) h
theorem t256_set (F : Nat → Int) {k : Nat} (v : Int) (h : k < 256) : (t256 F).setIfInBounds k (.int .i64 v) = t256 (putL F k v) := by
  unfold t256; rw [eA_set _ _ h]; congr 1; funext j; unfold putL; split <;> rfl
theorem t256_one (F : Nat → Int) : (t256 F).all (·.oneCell') = true := by
  rw [Array.all_eq_true]
  intro i hi
  have h1 : i < 256 := by rw [t256_size] at hi; exact hi
  have h2 := t256_get F h1
  rw [Array.getElem?_eq_getElem hi] at h2
  injection h2 with h2
  rw [h2]; rfl
theorem t256_congr {F F' : Nat → Int} (h : ∀ k, k < 256 → F k = F' k) : t256 F = t256 F' := by
  unfold t256 eA
  congr 1
  exact List.map_congr_left fun k hk => by rw [h k (List.mem_range.1 hk)]
theorem t256_info (F : Nat → Int) : (Tryz.prog.info? 128).map (fun i => i.size) = some (t256 F).size := by rw [t256_size]; kernel_rfl
set_option maxRecDepth 100000 in
theorem t256_zero : Tryz.zeroCells128 = t256 fun _ => 0 := by kernel_rfl
/-- -100 in the first places. -/
def lowF (k j : Nat) : Int := if j < k then -100 else 0
theorem lowF_succ (k : Nat) : t256 (putL (lowF k) k (-100)) = t256 (lowF (k + 1)) := t256_congr fun j _ => by
  unfold putL lowF
  by_cases h : j = k
  · rw [if_pos h, if_pos (by omega)]
  · rw [if_neg h]
    by_cases h2 : j < k
    · rw [if_pos h2, if_pos (by omega)]
    · rw [if_neg h2, if_neg (by omega)]
theorem lowF_end (G : Nat → Nat → Bool) : t256 (putL (lowF 256) 0 0) = t256 (szL G 0) := t256_congr fun j hj => by
  show putL (lowF 256) 0 0 j = putL (fun _ => -100) 0 0 j
  unfold putL lowF
  by_cases h : j = 0
  · rw [if_pos h, if_pos h]
  · rw [if_neg h, if_neg h, if_pos hj]
theorem szL_bd (G : Nat → Nat → Bool) : ∀ i x, -100 ≤ szL G i x ∧ szL G i x ≤ i
  | 0, x => by
    show -100 ≤ (if x = 0 then (0 : Int) else -100) ∧ (if x = 0 then (0 : Int) else -100) ≤ ((0 : Nat) : Int)
    split <;> omega
  | i + 1, x => by
    have ih := szL_bd G i
    have e : szL G (i + 1) x = stepB G i (szL G i) 256 x := rfl
    rw [e]
    rcases stepB_or (g := G) (i := i) (sz := szL G i) 256 x with h | ⟨b, k, _, _, _, _, _, h⟩
    · rw [h]; have := ih x; omega
    · rw [h]; have := ih b; omega
theorem stepB_bd (G : Nat → Nat → Bool) (i n x : Nat) : -100 ≤ stepB G i (szL G i) n x ∧ stepB G i (szL G i) n x ≤ (i : Int) + 1 := by
  have ih := szL_bd G i
  rcases stepB_or (g := G) (i := i) (sz := szL G i) n x with h | ⟨b, k, _, _, _, _, _, h⟩
  · rw [h]; have := ih x; omega
  · rw [h]; have := ih b; omega
theorem stepK_bd (G : Nat → Nat → Bool) (i b n x : Nat) : -100 ≤ stepK G i (szL G i) b n (stepB G i (szL G i) b) x ∧ stepK G i (szL G i) b n (stepB G i (szL G i) b) x ≤ (i : Int) + 1 := by
  rcases stepK_or (g := G) (i := i) (sz := szL G i) (b := b) (nx := stepB G i (szL G i) b) n x with h | ⟨k, _, _, _, _, h⟩
  · rw [h]; exact stepB_bd G i b x
  · rw [h]; have := szL_bd G i b; omega
theorem low_bit (p l : Nat) : (p &&& 2 ^ l = 0) ↔ p.testBit l = false := by
  constructor
  · intro h
    have e : (p &&& 2 ^ l).testBit l = false := by rw [h]; exact Nat.zero_testBit l
    rw [Nat.testBit_and, Nat.testBit_two_pow] at e
    simpa using e
  · intro h
    apply Nat.eq_of_testBit_eq
    intro i
    rw [Nat.testBit_and, Nat.testBit_two_pow, Nat.zero_testBit]
    by_cases e : l = i
    · subst e; simp [h]
    · simp [e]
theorem stepK_yes {G : Nat → Nat → Bool} {i b k : Nat} {sz nx : Nat → Int} (h1 : G i k = true) (h2 : b &&& 2 ^ k = 0) : stepK G i sz b (k + 1) nx = putL (stepK G i sz b k nx) (b ||| 2 ^ k) (max (stepK G i sz b k nx (b ||| 2 ^ k)) (sz b + 1)) := if_pos ⟨h1, (low_bit b k).1 h2⟩
theorem stepK_no {G : Nat → Nat → Bool} {i b k : Nat} {sz nx : Nat → Int} (h : G i k = false ∨ b &&& 2 ^ k ≠ 0) : stepK G i sz b (k + 1) nx = stepK G i sz b k nx := if_neg fun hc => by
  rcases h with h | h
  · rw [hc.1] at h; cases h
  · exact h ((low_bit b k).2 hc.2)
set_option maxRecDepth 100000 in
set_option maxHeartbeats 32000000 in
theorem most_any (G : Nat → Nat → Bool) (w : World) :
    Calls Tryz.prog 28 #[.agg (a8 (gI G))] w fun e w' => e = .returned (.int .i64 (bestL (szL G 8) 256)) ∧ Below w.heap.size w w' := by
  have HIS := Lib.hid (fun i k X hi hk => is_any G i k X hi hk)
  have HS1 := Lib.hid (graph_info' (gI G))
  have HLO := Lib.hid (lowF_end G)
  have HSB := Lib.hid (szL_bd G)
  have HKB := Lib.hid (stepK_bd G)
  have HYE := Lib.hid (fun i b k sz nx h1 h2 => stepK_yes (G := G) (i := i) (b := b) (k := k) (sz := sz) (nx := nx) h1 h2)
  have HNO := Lib.hid (fun i b k sz nx h => stepK_no (G := G) (i := i) (b := b) (k := k) (sz := sz) (nx := nx) h)
  obtain ⟨zz, hzz⟩ : ∃ zz : Array Value, zz = Tryz.zeroCells128 := ⟨_, rfl⟩
  have HZ : Hid (zz = t256 (lowF 0)) := by rw [hzz]; exact t256_zero.trans (t256_congr fun j _ => by unfold lowF; rw [if_neg (Nat.not_lt_zero j)])
  have HZS : Hid (∀ F, zz.size = (t256 F).size) := fun F => by rw [HZ.out, t256_size, t256_size]
  have HA0 : Hid (BF w ((w.alloc (.cells (a8 (gI G)) 40)).alloc (.cells zz 128)) [(w.heap.size, a8 (gI G), 40), (w.heap.size + 1, zz, 128)]) := BF.made2 w _ _ _ _
  generalize a8 (gI G) = cg at *
  go_enter Tryz.func28, Tryz.ntmps28
  go_upto_region 2 with fail
  rw [← hzz]
  generalize ((w.alloc (.cells cg 40)).alloc (.cells zz 128)) = w0 at *
  rw [HZ.out] at HA0
  have HGB : Hid (w.heap.size + 1 ≠ w.heap.size) := Lib.hid (by omega)
  obtain ⟨SB, hSB⟩ : ∃ SB, w.heap.size + 1 = SB := ⟨_, rfl⟩
  rw [hSB] at HA0 HGB ⊢
  clear hSB
  go_wp2_with fail
  go_loopw [4] (fun i wr => ∃ k : Nat, i = .int .i64 (k : Int) ∧ k ≤ 256 ∧ BF w wr [(SB, t256 (lowF k), 128), (w.heap.size, cg, 40)]) (fun i _ => 256 - (intOf i).toNat)
  case atStart => exact ⟨0, rfl, Nat.zero_le _, HA0.out.sub (List.forall_mem_cons.2 ⟨(.tail _ (.head _)), List.forall_mem_cons.2 ⟨(.head _), List.forall_mem_nil _⟩⟩)⟩
  case round =>
    clear HA0
    obtain ⟨k, rfl, hk, hbf⟩ := hrel
    have HA1 := Lib.hid hbf
    clear hbf
    have hgb := HGB.out
    by_cases hlt : k < 256
    · have e0 := (HA1.out.cell (.head _) k).trans (t256_get _ hlt)
      have f0 := HA1.out.thaw (.head _) k
      have ki : (0 : Int) ≤ (k : Int) := by omega
      have kj : (k : Int) < 256 := by omega
      have HA2 := Lib.hid (BF.set1 (i := k) (cs' := t256 (lowF (k + 1))) HA1.out (.head _) (.int .i64 (-100)) (by rw [t256_size]; exact hlt) (by rw [t256_set _ _ hlt, lowF_succ]) (L' := [(w.heap.size, cg, 40)]) (List.forall_mem_cons.2 ⟨⟨show w.heap.size ≠ SB by omega, (.tail _ (.head _))⟩, List.forall_mem_nil _⟩))
      go_wp2_with fail
      go_roundw
      case rel => exact ⟨k + 1, by go_num, by omega, HA2.out⟩
      case measure => simp [intOf]; omega
    · have hk8 : k = 256 := by omega
      rw [hk8] at HA1
      clear hlt hk
      have hki : (k : Int) = 256 := by omega
      rw [hki]
      clear hk8 hki
      have e0 := (HA1.out.cell (.head _) 0).trans (t256_get _ (by decide))
      have f0 := HA1.out.thaw (.head _) 0
      have HA2 := Lib.hid (BF.set1 (i := 0) (cs' := t256 (szL G 0)) HA1.out (.head _) (.int .i64 0) (by rw [t256_size]; decide) (by rw [t256_set _ _ (by decide), HLO.out]) (L' := [(w.heap.size, cg, 40)]) (List.forall_mem_cons.2 ⟨⟨show w.heap.size ≠ SB by omega, (.tail _ (.head _))⟩, List.forall_mem_nil _⟩))
      go_wp2_with fail
      clear e0 f0 HA1
      go_loopw [5] (fun v wr => ∃ i : Nat, v = .int .i64 (i : Int) ∧ i ≤ 8 ∧ BF w wr [(SB, t256 (szL G i), 128), (w.heap.size, cg, 40)]) (fun v _ => 8 - (intOf v).toNat)
      case atStart => exact ⟨0, rfl, Nat.zero_le _, HA2.out⟩
      case round =>
       clear HA2
       obtain ⟨i, rfl, hi, hbf⟩ := hrel
       rename World => wx
       have HA3 := Lib.hid hbf
       clear hbf
       by_cases hli : i < 8
       · have ki : (0 : Int) ≤ (i : Int) := by omega
         have kj : (i : Int) < 8 := by omega
         have HISI := Lib.hid (fun k X hk => HIS.out i k X hli hk)
         have HSBI := Lib.hid (HSB.out i)
         have HKBI := Lib.hid (HKB.out i)
         have HYEI := Lib.hid (HYE.out i)
         have HNOI := Lib.hid (HNO.out i)
         have HSX : Hid (szL G (i + 1) = stepB G i (szL G i) 256) := rfl
         have HB0 : Hid (szL G i = stepB G i (szL G i) 0) := rfl
         have HBS : Hid (∀ b, stepB G i (szL G i) (b + 1) = stepK G i (szL G i) b 8 (stepB G i (szL G i) b)) := fun b => rfl
         have HB1 : Hid (∀ b, stepB G i (szL G i) b = stepK G i (szL G i) b 0 (stepB G i (szL G i) b)) := fun b => rfl
         obtain ⟨sz, hsz⟩ : ∃ sz, szL G i = sz := ⟨_, rfl⟩
         rw [hsz] at HA3 HSBI HKBI HSX HB0 HBS HB1
         clear hsz
         have HG := Lib.hid (HA3.out.bk _ _ _ (.head _)).2
         have HS2 := Lib.hid (t256_info sz)
         have HS3 := Lib.hid (HA3.out.alloc zz 128)
         have HN := Lib.hid (HS3.out.bk _ _ _ (.head _)).2
         have HZ2 := Lib.hid (HZS.out sz)
         have hl0 := (HA3.out.lt (.head _)).2
         have hl1 := (HA3.out.lt (.tail _ (.head _))).2
         have HA4 : Hid (BF w ((wx.alloc (.cells zz 128)).setRow wx.heap.size (t256 sz)) [(wx.heap.size, t256 sz, 128), (SB, t256 sz, 128), (w.heap.size, cg, 40)]) := BF.setR HS3.out (.head _) (t256 sz) (L' := [(SB, t256 sz, 128), (w.heap.size, cg, 40)]) (List.forall_mem_cons.2 ⟨⟨show SB ≠ wx.heap.size by omega, (.tail _ (.head _))⟩, List.forall_mem_cons.2 ⟨⟨show w.heap.size ≠ wx.heap.size by omega, (.tail _ (.tail _ (.head _)))⟩, List.forall_mem_nil _⟩⟩)
         go_wp2_with (first | (refine wpList_load_row (o := ⟨some 23, .load 128 (.tmp 3), _, _, _, _⟩) rfl 128 (.tmp 3) rfl SB rfl 128 (t256 sz) (0, 0) _ HG.out Tryz.underlying128 rfl HS2.out ?_) | (rw [← hzz]; refine wpList_store_row (o := ⟨none, .store 128 (.tmp 6) (.tmp 23), _, _, _, _⟩) rfl 128 (.tmp 6) (.tmp 23) rfl wx.heap.size (t256 sz) rfl rfl 128 zz HN.out HS2.out HZ2.out (t256_one _) ?_))
         have HNS : Hid (wx.heap.size ≠ SB) := Lib.hid (by omega)
         have HNG : Hid (wx.heap.size ≠ w.heap.size) := Lib.hid (by omega)
         clear HG HS3 HN HZ2 HA3 hl0 hl1
         (try rw [← hzz])
         generalize ((wx.alloc (.cells zz 128)).setRow wx.heap.size (t256 sz)) = wn at *
         generalize wx.heap.size = NB at *
         go_loopw [7] (fun v wr => ∃ b : Nat, v = .int .i64 (b : Int) ∧ b ≤ 256 ∧ BF w wr [(NB, t256 (stepB G i sz b), 128), (SB, t256 sz, 128), (w.heap.size, cg, 40)]) (fun v _ => 256 - (intOf v).toNat)
         case atStart => exact ⟨0, rfl, Nat.zero_le _, by rw [← HB0.out]; exact HA4.out⟩
         case round =>
          clear HA4
          obtain ⟨b, rfl, hb, hbf⟩ := hrel
          rename World => wy
          have HA5 := Lib.hid hbf
          clear hbf
          by_cases hlb : b < 256
          · have bi : (0 : Int) ≤ (b : Int) := by omega
            have bj : (b : Int) < 256 := by omega
            have HB2 := Lib.hid (HB1.out b)
            have HB3 := Lib.hid (HBS.out b)
            have HKBB := Lib.hid (HKBI.out b)
            have HSBB := Lib.hid (HSBI.out b)
            have HYB := Lib.hid (fun k h1 h2 => HYEI.out b k sz (stepB G i sz b) h1 h2)
            have HNB := Lib.hid (fun k h => HNOI.out b k sz (stepB G i sz b) h)
            have HA6 := Lib.hid HA5.out
            rw [HB2.out] at HA6
            go_wp2_with fail
            go_loopw [8] (fun v wr => ∃ k : Nat, v = .int .i64 (k : Int) ∧ k ≤ 8 ∧ BF w wr [(NB, t256 (stepK G i sz b k (stepB G i sz b)), 128), (SB, t256 sz, 128), (w.heap.size, cg, 40)]) (fun v _ => 8 - (intOf v).toNat)
            case atStart => exact ⟨0, rfl, Nat.zero_le _, HA6.out⟩
            case round =>
             clear HA5 HA6
             obtain ⟨k, rfl, hk, hbf⟩ := hrel
             rename World => wz
             have HA7 := Lib.hid hbf
             clear hbf
             by_cases hlk : k < 8
             · have HSH := bit_shl ⟨k, hlk⟩
               have HPO := bit_pos ⟨k, hlk⟩
               simp only at HSH HPO
               have HAND := i64_and_nat b (2 ^ k) hlb HPO.2
               have HOR := i64_or_nat b (2 ^ k) hlb HPO.2
               have HCK := Lib.hid (fun X => HISI.out k X hlk)
               have HYK := Lib.hid (HYB.out k)
               have HNK := Lib.hid (HNB.out k)
               have hvv : b ||| 2 ^ k < 2 ^ 8 := Nat.or_lt_two_pow (by omega) (by omega)
               have HKV := Lib.hid (HKBB.out k (b ||| 2 ^ k))
               have ki2 : (0 : Int) ≤ (k : Int) := by omega
               have kj2 : (k : Int) < 8 := by omega
               obtain ⟨gk, hgk⟩ : ∃ gk, G i k = gk := ⟨_, rfl⟩
               obtain ⟨v, hv⟩ : ∃ v, b ||| 2 ^ k = v := ⟨_, rfl⟩
               obtain ⟨u, hu⟩ : ∃ u, b &&& 2 ^ k = u := ⟨_, rfl⟩
               obtain ⟨cur, hcur⟩ : ∃ cur, stepK G i sz b k (stepB G i sz b) = cur := ⟨_, rfl⟩
               obtain ⟨nxt, hnxt⟩ : ∃ nxt, stepK G i sz b (k + 1) (stepB G i sz b) = nxt := ⟨_, rfl⟩
               rw [hgk] at HCK HYK HNK
               rw [hv] at HOR hvv HKV HYK
               rw [hu] at HAND HYK HNK
               rw [hcur] at HA7 HKV HYK HNK
               rw [hnxt] at HYK HNK
               clear hgk hv hu hcur
               generalize (2 ^ k : Nat) = pw at *
               have HG := Lib.hid (HA7.out.bk _ _ _ (.tail _ (.tail _ (.head _)))).2
               go_wp2_with (refine wpList_load_row (o := ⟨some 35, .load 40 (.tmp 1), _, _, _, _⟩) rfl 40 (.tmp 1) rfl w.heap.size rfl 40 cg (0, 0) _ HG.out Tryz.underlying40 rfl HS1.out ?_)
               refine (HCK.out _).mono ?_
               rintro _ w9 ⟨rfl, hb9⟩
               have HA8 := Lib.hid (HA7.out.below hb9)
               clear hb9 HA7 HG
               cases gk
               · have HE := HNK.out (.inl rfl)
                 rw [← HE] at HA8
                 clear HE HYK HNK
                 go_wp2_with fail
                 go_roundw
                 case rel => exact ⟨k + 1, by go_num, by omega, by rw [hnxt]; exact HA8.out⟩
                 case measure => simp [intOf]; omega
               · by_cases hu0 : u = 0
                 · have HE := Lib.hid (HYK.out rfl hu0)
                   subst hu0
                   have hsb := HSBB.out
                   have hkv := HKV.out
                   have hv256 : v < 256 := hvv
                   obtain ⟨sb, HSV⟩ : ∃ sb, Hid (sz b = sb) := ⟨_, rfl⟩
                   obtain ⟨cv, HCV⟩ : ∃ cv, Hid (cur v = cv) := ⟨_, rfl⟩
                   rw [HSV.out] at hsb HE
                   rw [HCV.out] at hkv HE
                   obtain ⟨mx, HMX⟩ : ∃ mx, Hid (max cv (sb + 1) = mx) := ⟨_, rfl⟩
                   rw [HMX.out] at HE
                   have hmx : cv ≤ mx ∧ sb + 1 ≤ mx ∧ (mx = cv ∨ mx = sb + 1) := by rw [← HMX.out]; omega
                   have kw1 : IntKind.i64.wrap (sb + 1) = sb + 1 := IntWalk.i64_in _ (by omega)
                   have vi : (0 : Int) ≤ (v : Int) := by omega
                   have vj : (v : Int) < 256 := by omega
                   have hns := HNS.out
                   have hng := HNG.out
                   clear HYK HNK HSBB HKV HMX
                   go_upto_region 19 with fail
                   have HAX := Lib.hid (HA8.out.below (Below.refl w9.heap.size _).drew)
                   refine wp_region_Z (S := fun X => X.cell? ⟨NB, v, none⟩ = some (.int .i64 cv) ∧ X.cell? ⟨SB, b, none⟩ = some (.int .i64 sb)) (by kernel_rfl) (⟨(HAX.out.cell (.head _) v).trans ((t256_get _ hv256).trans (by rw [HCV.out])), (HAX.out.cell (.tail _ (.head _)) b).trans ((t256_get _ hlb).trans (by rw [HSV.out]))⟩) (fun hS => ?_)
                   generalize w9.drew = X at *
                   refine wpAnyZ_take (i := 0) (oi := ⟨some 45, _, _, _, _, _⟩) (v := ?_) rfl (by kernel_rfl) (by kernel_rfl) (by kernel_rfl) (fun _ _ _ h => h) (Or.inl ⟨by rfl, ?_⟩) hS ?_
                   rotate_left
                   · rintro W' ⟨z0, z1⟩; go_simp; try with_reducible rfl
                   try simp only [Act.put, putA, putZ, putS]
                   refine wpAnyZ_take (i := 1) (oi := ⟨some 46, _, _, _, _, _⟩) (v := ?_) rfl (by kernel_rfl) (by kernel_rfl) (by kernel_rfl) (fun _ _ _ h => h) (Or.inl ⟨by rfl, ?_⟩) hS ?_
                   rotate_left
                   · rintro W' ⟨z0, z1⟩; go_simp; try with_reducible rfl
                   try simp only [Act.put, putA, putZ, putS]
                   refine wpAnyZ_take (i := 2) (oi := ⟨some 47, _, _, _, _, _⟩) (v := ?_) rfl (by kernel_rfl) (by kernel_rfl) (by kernel_rfl) (fun _ _ _ h => h) (Or.inl ⟨by rfl, ?_⟩) hS ?_
                   rotate_left
                   · rintro W' ⟨z0, z1⟩; go_simp; try with_reducible rfl
                   try simp only [Act.put, putA, putZ, putS]
                   refine wpAnyZ_take (i := 3) (oi := ⟨some 48, _, _, _, _, _⟩) (v := ?_) rfl (by kernel_rfl) (by kernel_rfl) (by kernel_rfl) (fun _ _ _ h => h) (Or.inl ⟨by rfl, ?_⟩) hS ?_
                   rotate_left
                   · rintro W' ⟨z0, z1⟩; go_simp; try with_reducible rfl
                   try simp only [Act.put, putA, putZ, putS]
                   refine wpAnyZ_take (i := 4) (oi := ⟨some 49, _, _, _, _, _⟩) (v := ?_) rfl (by kernel_rfl) (by kernel_rfl) (by kernel_rfl) (fun _ _ _ h => h) (Or.inl ⟨by rfl, ?_⟩) hS ?_
                   rotate_left
                   · rintro W' ⟨z0, z1⟩; go_simp; try with_reducible rfl
                   try simp only [Act.put, putA, putZ, putS]
                   refine wpAnyZ_take (i := 5) (oi := ⟨some 50, _, _, _, _, _⟩) (v := ?_) rfl (by kernel_rfl) (by kernel_rfl) (by kernel_rfl) (fun _ _ _ h => h) (Or.inl ⟨by rfl, ?_⟩) hS ?_
                   rotate_left
                   · rintro W' ⟨z0, z1⟩; go_simp; try with_reducible rfl
                   try simp only [Act.put, putA, putZ, putS]
                   refine wpAnyZ_take (i := 6) (oi := ⟨some 51, _, _, _, _, _⟩) (v := ?_) rfl (by kernel_rfl) (by kernel_rfl) (by kernel_rfl) (fun _ _ _ h => h) (Or.inl ⟨by rfl, ?_⟩) hS ?_
                   rotate_left
                   · rintro W' ⟨z0, z1⟩; go_simp; try with_reducible rfl
                   try simp only [Act.put, putA, putZ, putS]
                   refine wpAnyZ_take (i := 7) (oi := ⟨some 52, _, _, _, _, _⟩) (v := ?_) rfl (by kernel_rfl) (by kernel_rfl) (by kernel_rfl) (fun _ _ _ h => h) (Or.inl ⟨by rfl, ?_⟩) hS ?_
                   rotate_left
                   · rintro W' ⟨z0, z1⟩; go_simp; try with_reducible rfl
                   try simp only [Act.put, putA, putZ, putS]
                   refine wpAnyZ_take (i := 8) (oi := ⟨some 53, _, _, _, _, _⟩) (v := ?_) rfl (by kernel_rfl) (by kernel_rfl) (by kernel_rfl) (fun _ _ _ h => h) (Or.inl ⟨by rfl, ?_⟩) hS ?_
                   rotate_left
                   · rintro W' ⟨z0, z1⟩; go_simp; try with_reducible rfl
                   try simp only [Act.put, putA, putZ, putS]
                   refine wpAnyZ_take (i := 9) (oi := ⟨some 54, _, _, _, _, _⟩) (v := ?_) rfl (by kernel_rfl) (by kernel_rfl) (by kernel_rfl) (fun _ _ _ h => h) (Or.inl ⟨by rfl, ?_⟩) hS ?_
                   rotate_left
                   · rintro W' ⟨z0, z1⟩; go_simp; try with_reducible rfl
                   try simp only [Act.put, putA, putZ, putS]
                   refine wpAnyZ_take (i := 10) (oi := ⟨some 55, _, _, _, _, _⟩) (v := ?_) rfl (by kernel_rfl) (by kernel_rfl) (by kernel_rfl) (fun _ _ _ h => h) (Or.inl ⟨by rfl, ?_⟩) hS ?_
                   rotate_left
                   · rintro W' ⟨z0, z1⟩; go_simp; try with_reducible rfl
                   try simp only [Act.put, putA, putZ, putS]
                   refine wpAnyZ_take (i := 11) (oi := ⟨some 56, _, _, _, _, _⟩) (v := ?_) rfl (by kernel_rfl) (by kernel_rfl) (by kernel_rfl) (fun _ _ _ h => h) (Or.inl ⟨by rfl, ?_⟩) hS ?_
                   rotate_left
                   · rintro W' ⟨z0, z1⟩; go_simp; try with_reducible rfl
                   try simp only [Act.put, putA, putZ, putS]
                   refine wpAnyZ_take (i := 12) (oi := ⟨some 57, _, _, _, _, _⟩) (v := .int .i64 mx) rfl (by kernel_rfl) (by kernel_rfl) (by kernel_rfl) (fun _ _ _ h => h) (Or.inl ⟨by rfl, ?_⟩) hS ?_
                   · rintro W' ⟨z0, z1⟩; go_simp; (first | (with_reducible rfl) | (split <;> (first | rfl | (congr 2; omega))) | (congr 2; omega))
                   try simp only [Act.put, putA, putZ, putS]
                   refine wpAnyZ_take (i := 13) (oi := ⟨some 58, _, _, _, _, _⟩) (v := ?_) rfl (by kernel_rfl) (by kernel_rfl) (by kernel_rfl) (fun _ _ _ h => h) (Or.inl ⟨by rfl, ?_⟩) hS ?_
                   rotate_left
                   · rintro W' ⟨z0, z1⟩; go_simp; try with_reducible rfl
                   try simp only [Act.put, putA, putZ, putS]
                   refine wpAnyZ_next (rs := [14]) (by kernel_rfl) (by simp) ?_
                   refine NextZ.last (o := ⟨none, _, _, _, _, _⟩) rfl (by kernel_rfl) (fun K hK => ?_)
                   have e0 : X.cell? ⟨NB, v, none⟩ = some (.int .i64 cv) := (HAX.out.cell (.head _) v).trans ((t256_get _ hv256).trans (by rw [HCV.out]))
                   have f0 := HAX.out.thaw (.head _) v
                   have HA19 := Lib.hid (BF.set1 (i := v) (cs' := t256 nxt) HAX.out (.head _) (.int .i64 mx) (by rw [t256_size]; exact hv256) (by rw [t256_set _ mx hv256, HE.out]) (L' := [(SB, t256 sz, 128), (w.heap.size, cg, 40)]) (List.forall_mem_cons.2 ⟨⟨show SB ≠ NB by omega, (.tail _ (.head _))⟩, List.forall_mem_cons.2 ⟨⟨show w.heap.size ≠ NB by omega, (.tail _ (.tail _ (.head _)))⟩, List.forall_mem_nil _⟩⟩))
                   go_simp
                   refine hK.out _ _ ?_
                   clear hK K
                   (try simp only [Act.put])
                   clear e0 f0
                   refine wpAnyZ_done (by kernel_rfl) ?_ _
                   have HX2 := Lib.hid (HA19.out)
                   go_wp2_with fail
                   go_roundw
                   case rel => exact ⟨k + 1, by go_num, by omega, by rw [hnxt]; exact HX2.out⟩
                   case measure => simp [intOf]; omega
                 · have HE := HNK.out (.inr hu0)
                   have hu1 : ((u : Int) == 0) = false := by simp; omega
                   rw [← HE] at HA8
                   clear HE HYK HNK
                   go_wp2_with fail
                   go_roundw
                   case rel => exact ⟨k + 1, by go_num, by omega, by rw [hnxt]; exact HA8.out⟩
                   case measure => simp [intOf]; omega
             · have hk8 : k = 8 := by omega
               have HA8 : Hid (BF w wz [(NB, t256 (stepB G i sz (b + 1)), 128), (SB, t256 sz, 128), (w.heap.size, cg, 40)]) := by rw [HB3.out, ← hk8]; exact HA7.out
               clear HA7 hk8
               go_wp2_with fail
               go_roundw
               case rel => exact ⟨b + 1, by go_num, by omega, HA8.out⟩
               case measure => simp [intOf]; omega
          · have hb8 : b = 256 := by omega
            rw [hb8] at HA5
            rw [← HSX.out] at HA5
            clear hb8
            have HG := Lib.hid (HA5.out.bk _ _ _ (.head _)).2
            have HT := Lib.hid (HA5.out.bk _ _ _ (.tail _ (.head _))).2
            have HS4 := Lib.hid (t256_info (szL G (i + 1)))
            have HZ4 : Hid ((t256 sz).size = (t256 (szL G (i + 1))).size) := by unfold Hid; rw [t256_size, t256_size]
            have hgb2 := HGB.out
            have HA6 := Lib.hid (BF.setR HA5.out (.tail _ (.head _)) (t256 (szL G (i + 1))) (L' := [(w.heap.size, cg, 40)]) (List.forall_mem_cons.2 ⟨⟨show w.heap.size ≠ SB by omega, (.tail _ (.tail _ (.head _)))⟩, List.forall_mem_nil _⟩))
            go_wp2_with (first | (refine wpList_load_row (o := ⟨some 59, .load 128 (.tmp 6), _, _, _, _⟩) rfl 128 (.tmp 6) rfl NB rfl 128 (t256 (szL G (i + 1))) (0, 0) _ HG.out Tryz.underlying128 rfl HS4.out ?_) | (refine wpList_store_row (o := ⟨none, .store 128 (.tmp 3) (.tmp 59), _, _, _, _⟩) rfl 128 (.tmp 3) (.tmp 59) rfl SB (t256 (szL G (i + 1))) rfl rfl 128 (t256 sz) HT.out HS4.out HZ4.out (t256_one _) ?_))
            go_roundw
            case rel => exact ⟨i + 1, by go_num, by omega, HA6.out⟩
            case measure => simp [intOf]; omega
       · have hi8 : i = 8 := by omega
         rw [hi8] at HA3
         have HBD := Lib.hid (HSB.out 8)
         have hii : (i : Int) = 8 := by omega
         rw [hii]
         clear hii hi8 hli hi HIS HLO HSB HKB HYE HNO HZ HZS
         obtain ⟨fin, hfin⟩ : ∃ fin, szL G 8 = fin := ⟨_, rfl⟩
         rw [hfin] at HA3 HBD
         have HFN : Hid (bestL fin 256 = bestL (szL G 8) 256) := by rw [hfin]; exact rfl
         clear hfin
         have HBE : Hid (∀ q, bestL fin (q + 1) = max (bestL fin q) (fin q)) := fun q => rfl
         have HBB : Hid (∀ q, 0 ≤ bestL fin q ∧ bestL fin q ≤ 8) := fun q => by
           induction q with
           | zero => show (0 : Int) ≤ 0 ∧ (0 : Int) ≤ 8; omega
           | succ q ih => rw [HBE.out]; have := HBD.out q; omega
         go_wp2_with fail
         go_loopw [10, 11] (fun s v wr => ∃ q : Nat, v = .int .i64 (q : Int) ∧ q ≤ 256 ∧ s = .int .i64 (bestL fin q) ∧ BF w wr [(SB, t256 fin, 128), (w.heap.size, cg, 40)]) (fun _ v _ => 256 - (intOf v).toNat)
         case atStart => exact ⟨0, rfl, Nat.zero_le _, rfl, HA3.out⟩
         case round =>
          clear HA3
          obtain ⟨q, rfl, hq, rfl, hbf⟩ := hrel
          rename World => wq
          have HA4 := Lib.hid hbf
          clear hbf
          by_cases hlq : q < 256
          · have e0 := (HA4.out.cell (.head _) q).trans (t256_get _ hlq)
            have qi : (0 : Int) ≤ (q : Int) := by omega
            have qj : (q : Int) < 256 := by omega
            have HE := Lib.hid (HBE.out q)
            obtain ⟨fv, HFV⟩ : ∃ fv, Hid (fin q = fv) := ⟨_, rfl⟩
            rw [HFV.out] at e0 HE
            clear HFV
            generalize bestL fin q = bv at *
            obtain ⟨mx, HMX⟩ : ∃ mx, Hid (max bv fv = mx) := ⟨_, rfl⟩
            rw [HMX.out] at HE
            have hmx : bv ≤ mx ∧ fv ≤ mx ∧ (mx = bv ∨ mx = fv) := by rw [← HMX.out]; omega
            clear HMX
            go_wp2_with fail
            go_roundw
            case rel => exact ⟨q + 1, by go_num, by omega, by rw [HE.out]; first | rfl | (congr 1; split <;> omega), HA4.out⟩
            case measure => simp [intOf]; omega
          · have hq8 : q = 256 := by omega
            go_wp2_with fail
            go_ret
            exact ⟨(congrArg (fun n => Ending.returned (.int .i64 (bestL fin n))) hq8).trans (congrArg (fun n => Ending.returned (.int .i64 n)) HFN.out), HA4.out.fr⟩
end Go.Proofs.YtgbdbikjckfgmaaGreat
