/- same (of the law's package). | Fail: the numbers of the tables whose counts do not agree. -/
import Derived.Test.YtjaoflfophcibaaPK
namespace Go.Proofs.Ytjaoflfophcibaa
open Go.RowKit Go.Shelf

def sameB (n m : Nat) (rl rl' : Nat → Nat) (ct ct' : Nat → Nat → Int) : Bool := decide (n = m) && allB (fun i => decide (rl i = rl' i) && allB (fun k => decide (ct i k = ct' i k)) (rl i)) n
theorem sameB_true {n m : Nat} {rl rl' : Nat → Nat} {ct ct' : Nat → Nat → Int} (h : sameB n m rl rl' ct ct' = true) : n = m ∧ ∀ i, i < n → rl i = rl' i ∧ ∀ k, k < rl i → ct i k = ct' i k := by
  unfold sameB at h
  simp only [Bool.and_eq_true, decide_eq_true_eq, allB, List.all_eq_true, List.mem_range] at h
  exact h
theorem sameB_of {n : Nat} {rl rl' : Nat → Nat} {ct ct' : Nat → Nat → Int} (h : ∀ i, i < n → rl i = rl' i ∧ ∀ k, k < rl i → ct i k = ct' i k) : sameB n n rl rl' ct ct' = true := by
  unfold sameB
  rw [decide_eq_true rfl, allB_true (fun i hi => by rw [decide_eq_true (h i hi).1, allB_true (fun k hk => decide_eq_true ((h i hi).2 k hk))]; rfl)]
  rfl
set_option maxRecDepth 100000 in
set_option maxHeartbeats 4000000 in
theorem same_any (a b : Value) (n m : Nat) (rl rl' : Nat → Nat) (ct ct' : Nat → Nat → Int) (w : World) (ha : IRows w a n rl ct) (hb : IRows w b m rl' ct') (hn : n ≤ 1000000) (hm : m ≤ 1000000) (hrl : ∀ i, i < n → rl i ≤ 1000000) (hrl' : ∀ i, i < m → rl' i ≤ 1000000) :
    Calls Try.prog 45 #[a, b] w fun e w' => e = .returned (.bool (sameB n m rl rl' ct ct')) ∧ Below w.heap.size w w' := by
  obtain ⟨aa, ac, rfl⟩ := ha.slice
  obtain ⟨ba, bc, rfl⟩ := hb.slice
  have HA := Lib.hid ha; have HB := Lib.hid hb
  have HL := Lib.hid hrl; have HL' := Lib.hid hrl'
  clear ha hb hrl hrl'
  have hAB : Hid (∀ s, sameB n m rl rl' ct ct' = s → sameB n m rl rl' ct ct' = s) := fun _ h => h
  go_enter Try.func45, Try.ntmps45
  by_cases hnm : n = m
  · subst hnm
    go_wp2_with fail
    go_loopw [5] (fun i wr => ∃ k : Nat, k ≤ n ∧ i = .int .i64 k ∧ Below w.heap.size w wr ∧ ∀ q, q < k → (decide (rl q = rl' q) && allB (fun j => decide (ct q j = ct' q j)) (rl q)) = true) (fun i _ => n - (intOf i).toNat)
    case atStart => exact ⟨0, Nat.zero_le _, rfl, Below.refl _ _, fun q h => absurd h (Nat.not_lt_zero _)⟩
    case round =>
      obtain ⟨k, hk, rfl, hbl, hall⟩ := hrel
      have HBL := Lib.hid hbl; have HALL := Lib.hid hall
      clear hbl hall
      have ki : (0 : Int) ≤ (k : Int) := by omega
      by_cases hlt : k < n
      · have kj : (k : Int) < (n : Int) := by omega
        obtain ⟨a1, o1, a2, c2, rfl, h1, x1, hr1⟩ := HA.out.at hlt
        obtain ⟨b1, p1, b2, d2, rfl, h2, x2, hr2⟩ := HB.out.at hlt
        have hl1 := HL.out k hlt
        have hl2 := HL'.out k hlt
        have HR1 := Lib.hid hr1; have HR2 := Lib.hid hr2
        have HC6 : Hid (∀ X, Below w.heap.size w X → X.cell? ⟨a1, o1 + k, none⟩ = some (.slice a2 (rl k) c2) ∧ X.cell? ⟨b1, p1 + k, none⟩ = some (.slice b2 (rl' k) d2)) := fun X hX => ⟨kept hX h1 x1, kept hX h2 x2⟩
        clear hr1 hr2
        go_wp2_with fail
        go_cut [28] (fun s28 wx => s28 = .bool ((rl k : Int) != (rl' k : Int)) ∧ Below w.heap.size w wx)
        case first =>
          have HAX : Hid (Below w.heap.size w wr.drew) := HBL.out.drew
          refine wp_region_held_drew (S := fun X => X.cell? ⟨a1, o1 + k, none⟩ = some (.slice a2 (rl k) c2) ∧ X.cell? ⟨b1, p1 + k, none⟩ = some (.slice b2 (rl' k) d2)) (by kernel_rfl) (HC6.out _ HAX.out) (fun hS => ?_)
          generalize wr.drew = X at *
          refine tk [0, 1, 2, 3, 4, 5, 6, 7, 8, 9, 10] ?_
          repeat (refine tkH (oi := ⟨_, _, _, _, _, _⟩) (v := ?_) rfl (by kernel_rfl) (by rfl) (fun _ _ _ h => h) hS ?_ ?_; rotate_left; (· rintro W' ⟨z0, z1⟩; go_simp; try with_reducible rfl); try simp only [Act.put, putA, putZ, putS])
          refine tk0 ?_
          refine wpAnyH_done (by kernel_rfl) ?_ _
          go_wp2_with fail
          go_meet
          exact ⟨rfl, HAX.out⟩
        case rest =>
          rename World => wx
          obtain ⟨rfl, hbx⟩ := hcut
          have HBX := Lib.hid hbx
          clear hbx HBL
          by_cases he : rl k = rl' k
          · have hf : ((rl k : Int) != (rl' k : Int)) = false := by rw [he]; simp
            rw [hf]
            clear hf
            go_wp2_with fail
            go_loopw [6] (fun i wy => ∃ g : Nat, g ≤ rl k ∧ i = .int .i64 g ∧ Below w.heap.size w wy ∧ ∀ j, j < g → decide (ct k j = ct' k j) = true) (fun i _ => rl k - (intOf i).toNat)
            case atStart => exact ⟨0, Nat.zero_le _, rfl, HBX.out, fun q h => absurd h (Nat.not_lt_zero _)⟩
            case round =>
              clear HBX
              obtain ⟨g, hg, rfl, hby, hall⟩ := hrel
              rename World => wy
              have HBY := Lib.hid hby; have HAL2 := Lib.hid hall
              clear hby hall
              have y1 := kept HBY.out h1 x1
              have gi : (0 : Int) ≤ (g : Int) := by omega
              by_cases hlg : g < rl k
              · have gj : (g : Int) < (rl k : Int) := by omega
                have gj' : (g : Int) < (rl' k : Int) := by omega
                obtain ⟨a3, o3, rfl, h3, x3⟩ := HR1.out.at hlg
                obtain ⟨b3, p3, rfl, h4, x4⟩ := HR2.out.at (k := g) (by omega)
                obtain ⟨p, HPV⟩ : ∃ p, Hid (ct k g = p) := ⟨_, rfl⟩
                obtain ⟨q, HQV⟩ : ∃ q, Hid (ct' k g = q) := ⟨_, rfl⟩
                rw [HPV.out] at x3
                rw [HQV.out] at x4
                have HC11 : Hid (∀ X, Below w.heap.size w X → X.cell? ⟨a1, o1 + k, none⟩ = some (.slice (some ⟨a3, o3, none⟩) (rl k) c2) ∧ X.cell? ⟨b1, p1 + k, none⟩ = some (.slice (some ⟨b3, p3, none⟩) (rl' k) d2) ∧ X.cell? ⟨a3, o3 + g, none⟩ = some (.int .i64 p) ∧ X.cell? ⟨b3, p3 + g, none⟩ = some (.int .i64 q)) := fun X hX => ⟨kept hX h1 x1, kept hX h2 x2, kept hX h3 x3, kept hX h4 x4⟩
                go_wp2_with fail
                go_cut [52] (fun s52 wx => s52 = .bool (p != q) ∧ Below w.heap.size w wx)
                case first =>
                  have HAX : Hid (Below w.heap.size w wy.drew) := HBY.out.drew
                  refine wp_region_held_drew (S := fun X => X.cell? ⟨a1, o1 + k, none⟩ = some (.slice (some ⟨a3, o3, none⟩) (rl k) c2) ∧ X.cell? ⟨b1, p1 + k, none⟩ = some (.slice (some ⟨b3, p3, none⟩) (rl' k) d2) ∧ X.cell? ⟨a3, o3 + g, none⟩ = some (.int .i64 p) ∧ X.cell? ⟨b3, p3 + g, none⟩ = some (.int .i64 q)) (by kernel_rfl) (HC11.out _ HAX.out) (fun hS => ?_)
                  generalize wy.drew = X at *
                  refine tk [0, 1, 2, 3, 4, 5, 6, 7, 8, 9, 10, 11, 12, 13, 14] ?_
                  repeat (refine tkH (oi := ⟨_, _, _, _, _, _⟩) (v := ?_) rfl (by kernel_rfl) (by rfl) (fun _ _ _ h => h) hS ?_ ?_; rotate_left; (· rintro W' ⟨z0, z1, z2, z3⟩; go_simp; try with_reducible rfl); try simp only [Act.put, putA, putZ, putS])
                  refine tk0 ?_
                  refine wpAnyH_done (by kernel_rfl) ?_ _
                  go_wp2_with fail
                  go_meet
                  exact ⟨rfl, HAX.out⟩
                case rest =>
                  rename World => wz
                  obtain ⟨rfl, hbz⟩ := hcut
                  have HBZ := Lib.hid hbz
                  clear hbz
                  by_cases hpq : p = q
                  · have hf : (p != q) = false := by rw [hpq]; simp
                    rw [hf]
                    go_wp2_with fail
                    go_roundw
                    case rel => exact ⟨g + 1, by omega, by go_num, HBZ.out, fun j hj => by
                      rcases Nat.lt_succ_iff_lt_or_eq.1 hj with h | rfl
                      · exact HAL2.out j h
                      · exact decide_eq_true (by rw [HPV.out, HQV.out]; exact hpq)⟩
                    case measure => simp [intOf]; omega
                  · have hf : (p != q) = true := by simpa using hpq
                    rw [hf]
                    go_wp2_with fail
                    go_ret
                    refine ⟨ret_bool ?_, HBZ.out⟩
                    symm
                    unfold sameB
                    rw [allB_false (k := k) hlt (by rw [allB_false (k := g) hlg (decide_eq_false (by rw [HPV.out, HQV.out]; exact hpq))]; simp)]
                    simp
              · obtain rfl : g = rl k := by omega
                go_wp2_with fail
                go_roundw
                case rel => exact ⟨k + 1, by omega, by go_num, HBY.out, fun q hq => by
                  rcases Nat.lt_succ_iff_lt_or_eq.1 hq with h | rfl
                  · exact HALL.out q h
                  · rw [decide_eq_true he, allB_true HAL2.out]; rfl⟩
                case measure => simp [intOf]; omega
          · have hf : ((rl k : Int) != (rl' k : Int)) = true := by
              have : ¬ (rl k : Int) = (rl' k : Int) := by omega
              simpa using this
            rw [hf]
            go_wp2_with fail
            go_ret
            refine ⟨ret_bool ?_, HBX.out⟩
            symm
            unfold sameB
            rw [allB_false (k := k) hlt (by rw [decide_eq_false he]; rfl)]
            simp
      · obtain rfl : k = n := by omega
        go_wp2_with fail
        go_ret
        refine ⟨ret_bool ?_, HBL.out⟩
        symm
        unfold sameB
        rw [decide_eq_true rfl, allB_true HALL.out]
        rfl
  · have hf : ((n : Int) != (m : Int)) = true := by
      have : ¬ (n : Int) = (m : Int) := by omega
      simpa using this
    go_wp2_with fail
    go_ret
    refine ⟨ret_bool ?_, Below.refl _ _⟩
    unfold sameB
    rw [decide_eq_false hnm]
    rfl
end Go.Proofs.Ytjaoflfophcibaa

namespace Go.Proofs.Ytjaoflfophcibaa
open Go.RowKit Go.Shelf

def failL (A : Nat → Bool) : Nat → List Int
  | 0 => []
  | k + 1 => if A k = true then failL A k else failL A k ++ [(k : Int)]
theorem failL_length (A : Nat → Bool) : ∀ k, (failL A k).length ≤ k
  | 0 => Nat.le_refl _
  | k + 1 => by have := failL_length A k; unfold failL; split <;> simp <;> omega
def intsV (l : List Int) : List Value := l.map (fun z => .int .i64 z)
theorem intsV_snoc (l : List Int) (z : Int) : intsV (l ++ [z]) = intsV l ++ [.int .i64 z] := by simp [intsV]
theorem intsV_iL (l : List Int) : intsV l = iL (fun j => l.getD j 0) l.length := by
  unfold intsV iL
  apply List.ext_getElem?
  intro j
  rw [List.getElem?_map, List.getElem?_map]
  by_cases hj : j < l.length
  · rw [List.getElem?_range hj, List.getElem?_eq_getElem hj]
    simp [hj]
  · rw [List.getElem?_eq_none (by omega), List.getElem?_eq_none (by simp; omega)]; rfl
set_option maxRecDepth 100000 in
set_option maxHeartbeats 4000000 in
theorem Fail_any (lb lo cap n : Nat) (U : Nat → WV) (T : Nat → Tb) (w : World) (hn : n ≤ 10) (hlb : lb < w.heap.size)
    (hc : ∀ j, j < n → w.cell? ⟨lb, lo + j * 4, none⟩ = some ((U j).cv (T j)) ∧ w.cell? ⟨lb, lo + j * 4 + 1, none⟩ = some ((U j).bv (T j)) ∧ w.cell? ⟨lb, lo + j * 4 + 2, none⟩ = some ((U j).rv (T j)) ∧ w.cell? ⟨lb, lo + j * 4 + 3, none⟩ = some ((U j).nv (T j)))
    (hT : ∀ j, j < n → WL w (U j) (T j) ∧ (T j).small ∧ (T j).fault = 0) :
    Calls Try.prog 43 #[.slice (some ⟨lb, lo, none⟩) n cap] w fun e w' => ∃ v, e = .returned (.tuple #[v, .int .i64 0]) ∧ w'.ownsRow w.heap.size 3 1 v (failL (fun j => (T j).agree off0) n).length (intsV (failL (fun j => (T j).agree off0) n)) ∧ Below w.heap.size w w' := by
  have HC := Lib.hid hc; have HT := Lib.hid hT
  obtain ⟨i1, hi1, hy0, hy1, hy2⟩ := info_parts Try.infoInt
  clear hc hT
  obtain ⟨A, HAE⟩ : ∃ A : Nat → Bool, Hid ((fun j => (T j).agree off0) = A) := ⟨_, rfl⟩
  rw [HAE.out]
  go_enter Try.func43, Try.ntmps43
  go_wp2_with fail
  go_loopw [15] (fun i wr => ∃ k : Nat, k ≤ n ∧ i = .int .i64 k ∧ Below w.heap.size w wr) (fun i _ => n - (intOf i).toNat)
  case atStart => exact ⟨0, Nat.zero_le _, rfl, Below.refl _ _⟩
  case round =>
    obtain ⟨k, hk, rfl, hbl⟩ := hrel
    have HB := Lib.hid hbl
    clear hbl
    have ki : (0 : Int) ≤ (k : Int) := by omega
    by_cases hlt : k < n
    · have kj : (k : Int) < (n : Int) := by omega
      obtain ⟨x0, x1, x2, x3⟩ := HC.out k hlt
      obtain ⟨hl, hs, hf⟩ := HT.out k hlt
      have HCT : Hid (∀ X, Below w.heap.size w X → Calls Try.prog 47 #[.agg #[(U k).cv (T k), (U k).bv (T k), (U k).rv (T k), (U k).nv (T k)]] X fun e w' => e = .returned (.int .i64 0) ∧ Below X.heap.size X w') := fun X hX => by rw [← hf]; exact check_any _ (T k) X (hl.below hX).tb hs
      clear hl hs hf
      generalize U k = u at *
      generalize T k = t at *
      simp only [WV.cv, WV.bv, WV.rv, WV.nv] at HCT x0 x1 x2 x3
      have y0 := kept HB.out hlb x0
      have y1 := kept HB.out hlb x1
      have y2 := kept HB.out hlb x2
      have y3 := kept HB.out hlb x3
      clear x0 x1 x2 x3
      go_wp2_with (go_at_call 47; refine (HCT.out _ (HB.out.trans ((below_alloc _ _).mono HB.out.size))).mono ?_; rintro _ w1 ⟨rfl, hb1⟩; have HB1 := Lib.hid (below_step (HB.out.trans ((below_alloc _ _).mono HB.out.size)) (hb1)); clear hb1)
      go_roundw
      case rel => exact ⟨k + 1, by omega, by go_num, HB1.out⟩
      case measure => simp [intOf]; omega
    · obtain rfl : k = n := by omega
      go_wp2_with fail
      go_loopw [7, 27] (fun v i wr => ∃ k' : Nat, k' ≤ k ∧ i = .int .i64 k' ∧ Below w.heap.size w wr ∧ wr.ownsRow w.heap.size 3 1 v (failL A k').length (intsV (failL A k'))) (fun _ i _ => k - (intOf i).toNat)
      case atStart => exact ⟨0, Nat.zero_le _, rfl, HB.out, World.ownsRow_nil _ _ _ _⟩
      case round =>
        clear HB
        obtain ⟨c, hc, rfl, hbl, how⟩ := hrel
        rename World => wq
        have HB := Lib.hid hbl; have HO := Lib.hid how
        obtain ⟨va, vc, rfl⟩ := own_slice' how
        clear hbl how
        have ci : (0 : Int) ≤ (c : Int) := by omega
        by_cases hlt : c < k
        · have cj : (c : Int) < (k : Int) := by omega
          obtain ⟨x0, x1, x2, x3⟩ := HC.out c hlt
          obtain ⟨hl, hs, hf⟩ := HT.out c hlt
          have HWK : Hid (∀ X, Below w.heap.size w X → Calls Try.prog 58 #[.agg #[(U c).cv (T c), (U c).bv (T c), (U c).rv (T c), (U c).nv (T c)], .agg (outL off0).toArray] X fun e w' => ∃ B bm, e = .returned (.pointer (some ⟨B, 0, none⟩)) ∧ St w' B bm 0 (U c) (T c) off0 ∧ X.heap.size ≤ B ∧ X.heap.size ≤ bm ∧ Below X.heap.size X w') := fun X hX => work_any (U c) (T c) off0 X (hl.below hX)
          have HAG : Hid (∀ X B bm, St X B bm 0 (U c) (T c) off0 → Calls Try.prog 59 #[.pointer (some ⟨B, 0, none⟩)] X fun e w' => e = .returned (.bool (A c)) ∧ Fr (fun q => q = bm) X w') := fun X B bm h => by
            rw [← HAE.out]; exact (agree_all (Gd.of_fault hs hf) B bm (U c) off0 0 (by omega) X h).mono (fun _ _ h => ⟨h.1, h.2.2⟩)
          rw [off0_L] at HWK
          clear hl hs hf
          generalize U c = u at *
          generalize T c = t at *
          simp only [WV.cv, WV.bv, WV.rv, WV.nv] at HWK x0 x1 x2 x3
          have y0 := kept HB.out hlb x0
          have y1 := kept HB.out hlb x1
          have y2 := kept HB.out hlb x2
          have y3 := kept HB.out hlb x3
          clear x0 x1 x2 x3
          have hfl := failL_length A c
          go_wp2_with (first | (go_at_call 58; refine (HWK.out _ (HB.out.trans ((below_alloc _ _).mono HB.out.size))).mono ?_; rintro _ w1 ⟨B, bm, rfl, hs1, hB1, hm1, hb1⟩; have HS1 := Lib.hid hs1; have HB1 := Lib.hid (below_step (below_alloc _ _) hb1); have HM1 : Hid (wq.heap.size ≤ bm) := Nat.le_trans (below_alloc _ _).size hm1; clear hb1 hs1 hB1 hm1))
          refine (HAG.out _ _ _ HS1.out).mono ?_
          cases hA : A c
          · rintro _ w2 ⟨rfl, hf2⟩
            have HB2 : Hid (Below wq.heap.size wq w2) := HB1.out.trans (hf2.low HB1.out.size (fun q hq e => by have := HM1.out; omega))
            have HO2 := Lib.hid (own_below HO.out HB2.out)
            have HBW := Lib.hid (below_step HB.out HB2.out)
            have hF : failL A (c + 1) = failL A c ++ [(c : Int)] := by show (if A c = true then _ else _) = _; rw [hA]; rfl
            have HF := Lib.hid hF
            clear hf2 HS1 HB1 HM1 HWK HAG hF y0 y1 y2 y3
            generalize failL A c = l at *
            go_wp2_with (at_builtin; refine wpList_append_src _ rfl (.tmp 37) (.tmp 39) 72 rfl w.heap.size 3 i1 (.int .i64 0) 1 8 Try.underlying72 hi1 hy0 hy1 hy2 rfl (by decide) (.slice va l.length vc) l.length (intsV l) rfl (HO2.out.alloc (.cells #[.int .i64 c] 3)) (some ⟨w2.heap.size, 0, none⟩) 1 1 [.int .i64 c] rfl ⟨rfl, fun j u hu => ⟨_, rfl, World.news_of_block (heap_alloc_new w2 _) j u hu⟩⟩ (by simp [Value.oneCell']) ?a1 ?a2 ?a3 ?_)
            case a1 => unfold maxLen; omega
            case a2 => omega
            case a3 => have := HBW.out.size; simp; omega
            intro v1 w9 hown hgr hlt1
            have HB9 : Hid (Below w.heap.size w w9) := (HBW.out.trans ((below_alloc w2 (.cells #[.int .i64 c] 3)).mono HBW.out.size)).trans ((Fr.grown hgr).low (by have := HBW.out.size; simp; omega) (fun q hq e => by have := (HO2.out.lt q e).1; omega))
            have HO9 : Hid (w9.ownsRow w.heap.size 3 1 v1 (l ++ [(c : Int)]).length (intsV (l ++ [(c : Int)]))) := by unfold Hid; rw [intsV_snoc, List.length_append]; exact hown
            clear hown hgr hlt1
            go_wp2_with fail
            go_roundw
            case rel => exact ⟨c + 1, by omega, by go_num, HB9.out, by rw [HF.out]; exact HO9.out⟩
            case measure => simp [intOf]; omega
          · rintro _ w2 ⟨rfl, hf2⟩
            have HB2 : Hid (Below wq.heap.size wq w2) := HB1.out.trans (hf2.low HB1.out.size (fun q hq e => by have := HM1.out; omega))
            have HO2 := Lib.hid (own_below HO.out HB2.out)
            have HBW := Lib.hid (below_step HB.out HB2.out)
            have HF : Hid (failL A (c + 1) = failL A c) := by show (if A c = true then _ else _) = _; rw [hA]; rfl
            clear hf2 HS1 HB1 HM1 HWK HAG y0 y1 y2 y3
            generalize failL A c = l at *
            go_wp2_with fail
            go_roundw
            case rel => exact ⟨c + 1, by omega, by go_num, HBW.out, by rw [HF.out]; exact HO2.out⟩
            case measure => simp [intOf]; omega
        · obtain rfl : c = k := by omega
          go_wp2_with fail
          go_ret2
          exact ⟨_, rfl, HO.out, HB.out⟩
end Go.Proofs.Ytjaoflfophcibaa
