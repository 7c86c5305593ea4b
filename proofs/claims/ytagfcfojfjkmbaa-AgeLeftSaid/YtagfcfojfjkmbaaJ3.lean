/- AgeLeft: the walk. -/
import Derived.Test.YtagfcfojfjkmbaaJ2
namespace Go.Proofs.Ytagfcfojfjkmbaa
open Go.RowKit Go.Shelf

/-- The indices below k whose bits are 1. -/
def bitB (bits : Int) (i : Nat) : Bool := decide (bits / 2 ^ i % 2 = 1)
def bitsTo (bits : Int) (k : Nat) : List Nat := (List.range k).filter (bitB bits)
theorem bitsTo_succ (bits : Int) (k : Nat) : bitsTo bits (k + 1) = if bitB bits k = true then bitsTo bits k ++ [k] else bitsTo bits k := by
  unfold bitsTo
  rw [List.range_succ, List.filter_append]
  cases h : bitB bits k <;> simp [h]
theorem bitsTo_length (bits : Int) (k : Nat) : (bitsTo bits k).length ≤ k := by
  unfold bitsTo
  have := List.length_filter_le (bitB bits) (List.range k)
  simpa using this
theorem bitsTo_asc (bits : Int) (k : Nat) : Asc k 0 (bitsTo bits k) := asc_filter k _

theorem IL.into {W : World} {v : Value} {l : List Int} (h : IL W v l) : IntsIn W v l.length (fun j => l.getD j 0) := by
  rcases h.ints with h | h
  · exact .inl h
  · exact .inr (.inr h)
theorem inL_list (l : List Int) : (fun j : Nat => inL (fun j => l.getD j 0) l.length (j : Int)) = fun j : Nat => l.contains (j : Int) := by
  funext j
  rw [Bool.eq_iff_iff]
  simp only [inL, List.any_eq_true, List.mem_range, beq_iff_eq, List.contains_iff_mem]
  constructor
  · rintro ⟨i, hi, h⟩
    rw [h]; simp [hi]
  · intro h
    obtain ⟨i, hi, e⟩ := List.getElem_of_mem h
    exact ⟨i, hi, by simp [hi, e]⟩
attribute [local go_sem ↓] Go.wp_at_zero Go.wp_at_succ
set_option maxRecDepth 100000 in
set_option maxHeartbeats 8000000 in
theorem ageLeft_walk (v : Value) (p : Pers) (bits : Int) (w : World) (h : PersIn w v p) (hb0 : 0 ≤ bits) :
    Calls Try.prog 7 #[v, .int .u8 bits] w fun e w' => e = .returned (.bool true) ∧ Below w.heap.size w w' := by
  have HP := Lib.hid h
  have HAW := Lib.hid awake_any
  obtain ⟨rv, cv, rfl, h1, h2⟩ := h
  obtain ⟨ra, rc, rfl⟩ := h1.slice
  obtain ⟨ca, cc, rfl⟩ := h2.slice
  clear h1 h2
  obtain ⟨i0, hi0, hz0, hz1, hz2⟩ := info_parts Try.infoInt
  have HB0 : Hid (Below w.heap.size w (w.alloc (.cells #[.int .i64 p.lo, .int .i64 p.hi, .slice ra p.nr rc, .slice ca p.nc cc] 36))) := below_alloc _ _
  have HK0 : Hid ((w.alloc (.cells #[.int .i64 p.lo, .int .i64 p.hi, .slice ra p.nr rc, .slice ca p.nc cc] 36)).heap[w.heap.size]? = some (.cells #[.int .i64 p.lo, .int .i64 p.hi, .slice ra p.nr rc, .slice ca p.nc cc] 36 (0, 0))) := heap_alloc_new _ _
  cases hp : (p.fault == 0)
  · go_enter Try.func7, Try.ntmps7
    go_wp2_with (first | (go_at_call 36; refine (ready_any _ p _ (HP.out.below HB0.out)).mono ?_; rintro _ w1 ⟨rfl, hb1⟩) | (go_at_call 20; refine (HAW.out _).mono ?_; rintro _ w3 ⟨rfl, hb3⟩))
    go_ret
    exact ⟨rfl, below_step (below_step HB0.out hb1) hb3⟩
  have hpf : p.fault = 0 := by simpa using hp
  obtain ⟨pn1, pn2, pn3, _⟩ := Pers.ok_facts hpf
  have HPF := Lib.hid hpf; clear hpf
  go_enter Try.func7, Try.ntmps7
  go_wp2_with fail
  refine (ready_any _ p _ (HP.out.below HB0.out)).mono ?_
  rintro _ w1 ⟨rfl, hb1⟩
  have HK1 : Hid (w1.heap[w.heap.size]? = some (.cells #[.int .i64 p.lo, .int .i64 p.hi, .slice ra p.nr rc, .slice ca p.nc cc] 36 (0, 0))) := (hb1.block _ (by simp)).trans HK0.out
  have hs1 : w.heap.size < w1.heap.size := (Array.getElem?_eq_some_iff.1 HK1.out).1
  have HB1 : Hid (Below w.heap.size w w1) := below_step HB0.out hb1
  obtain ⟨d0, d1, d2, d3⟩ := cells4 HK1.out
  clear hb1 HB0 HK0
  go_wp2_with fail
  refine (person_any _ p _ (HP.out.below HB1.out) (by omega) (by omega)).mono ?_
  rintro _ w2 ⟨u2, rfl, hu2, hb2⟩
  have HU2 := Lib.hid hu2
  go_wp2_with fail
  refine (leave_any _ p _ HU2.out (by omega) (by omega)).mono ?_
  rintro _ w3 ⟨v3, rfl, hi3, hb3⟩
  have HB3 : Hid (Below w.heap.size w w3) := below_step HB1.out (below_step hb2 hb3)
  have HK3 : Hid (w3.heap[w.heap.size]? = some (.cells #[.int .i64 p.lo, .int .i64 p.hi, .slice ra p.nr rc, .slice ca p.nc cc] 36 (0, 0))) := ((below_step hb2 hb3).block _ hs1).trans HK1.out
  have hs3 : w.heap.size < w3.heap.size := (Array.getElem?_eq_some_iff.1 HK3.out).1
  have HI3 := Lib.hid hi3
  obtain ⟨a3, c3, rfl⟩ := hi3.ints.len
  have hl3 := leave_le HPF.out
  have HP3 := Lib.hid (HP.out.below HB3.out)
  clear d0 d1 d2 d3 hb2 hb3 hu2 hi3 HK1 HU2 HP
  rw [HPF.out]
  go_wp2_with fail
  go_loopw [7, 8] (fun v i wr => ∃ k : Nat, k ≤ p.nc ∧ i = .int .i64 k ∧ wr.ownsRow w3.heap.size 3 1 v (castL (bitsTo bits k)).length (intsV (castL (bitsTo bits k))) ∧ Below w3.heap.size w3 wr) (fun _ i _ => p.nc - (intOf i).toNat)
  case atStart => exact ⟨0, Nat.zero_le _, rfl, World.ownsRow_nil _ _ _ _, Below.refl _ _⟩
  case round =>
    obtain ⟨k, hk, rfl, hown, hbl⟩ := hrel
    have HBL := Lib.hid hbl
    have HBW : Hid (Below w.heap.size w wr) := HB3.out.trans (hbl.mono HB3.out.size)
    have HKR : Hid (wr.heap[w.heap.size]? = some (.cells #[.int .i64 p.lo, .int .i64 p.hi, .slice ra p.nr rc, .slice ca p.nc cc] 36 (0, 0))) := (hbl.block _ hs3).trans HK3.out
    obtain ⟨d0, d1, d2, d3⟩ := cells4 HKR.out
    obtain ⟨av, ac, rfl⟩ := own_slice' hown
    have hlen := bitsTo_length bits k
    rw [← castL_length] at hlen
    have HS := Lib.hid (bitsTo_succ bits k)
    generalize hll : (castL (bitsTo bits k)).length = kk at *
    have HOWN := Lib.hid hown; have HLL := Lib.hid hll
    clear hown hbl hll
    by_cases hlt : k < p.nc
    · have ki : (0 : Int) ≤ (k : Int) := by omega
      have hq0 : 0 ≤ bits / 2 ^ k := Int.ediv_nonneg hb0 (Int.pow_nonneg (by omega))
      cases hbit : bitB bits k
      · have ht : ((bits / 2 ^ k).tmod 2 == 1) = false := by
          unfold bitB at hbit
          rw [Int.tmod_eq_emod_of_nonneg hq0]
          exact beq_eq_false_iff_ne.2 (of_decide_eq_false hbit)
        have HN : Hid (castL (bitsTo bits (k + 1)) = castL (bitsTo bits k)) := by unfold Hid; rw [HS.out, if_neg (by rw [hbit]; decide)]
        clear hbit hq0
        go_wp2
        go_roundw
        case rel => exact ⟨k + 1, by omega, by go_num, by rw [HN.out, HLL.out]; exact HOWN.out, HBL.out⟩
        case measure => simp [intOf]; omega
      · have ht : ((bits / 2 ^ k).tmod 2 == 1) = true := by
          unfold bitB at hbit
          rw [Int.tmod_eq_emod_of_nonneg hq0]
          exact beq_iff_eq.2 (of_decide_eq_true hbit)
        have HN : Hid (castL (bitsTo bits (k + 1)) = castL (bitsTo bits k) ++ [(k : Int)]) := by unfold Hid; rw [HS.out, if_pos hbit]; simp [castL]
        clear hbit hq0
        generalize castL (bitsTo bits k) = l at *
        go_wp2_with (at_builtin; refine wpList_append_lies _ rfl (.tmp 38) (.tmp 40) 22 rfl w3.heap.size 3 i0 (.int .i64 0) 1 8 Try.underlying22 hi0 hz0 hz1 hz2 rfl (by omega) (.slice av kk ac) kk (intsV l) rfl (World.ownsRow.alloc HOWN.out _) ⟨wr.heap.size, 0, none⟩ 1 1 [.int .i64 k] rfl rfl ?c1 ?c2 ?c3 ?c4 ?c5 ?c6 (wr.heap.size + 1) ?c7 ?_)
        case c1 => exact World.news_of_block (heap_alloc_new wr (.cells #[.int .i64 k] 3))
        case c2 => simp [Value.oneCell']
        case c3 => omega
        case c4 => unfold maxLen; omega
        case c5 => omega
        case c6 => have := HBL.out.size; simp; omega
        case c7 => simp
        intro g cap' X hown hgrow hat hlt1
        have HX : Hid (Below w3.heap.size w3 X) := HBL.out.trans (((below_alloc wr (.cells #[.int .i64 k] 3)).mono HBL.out.size).trans ((Fr.grown hgrow).low (by have := HBL.out.size; simp; omega) (fun q hq e => by have := own_low HOWN.out e; omega)))
        have HO : Hid (X.ownsRow w3.heap.size 3 1 (.slice (some ⟨g, 0, none⟩) (kk + 1) cap') (l ++ [(k : Int)]).length (intsV (l ++ [(k : Int)]))) := by unfold Hid; rw [intsV_snoc, List.length_append, HLL.out]; exact hown
        clear hown hgrow hat hlt1 d0 d1 d2 d3
        go_wp2
        go_roundw
        case rel => exact ⟨k + 1, by omega, by go_num, by rw [HN.out]; exact HO.out, HX.out⟩
        case measure => simp [intOf]; omega
    · obtain rfl : k = p.nc := by omega
      have HIT : Hid (IL wr (.slice av kk ac) (castL (bitsTo bits p.nc))) := by unfold Hid IL; rw [HLL.out]; exact own_mono HOWN.out (Nat.zero_le _)
      have HASC := Lib.hid (bitsTo_asc bits p.nc)
      generalize bitsTo bits p.nc = tr at *
      have HPW := Lib.hid (HP3.out.below HBL.out)
      have HIW := Lib.hid (HI3.out.below HBL.out)
      have hszw := (Array.getElem?_eq_some_iff.1 HKR.out).1
      clear HOWN HS hi0 hz0 hz1 hz2 HI3 HP3 HK3
      go_wp2_with fail
      refine (without_any _ _ p p.leave.length (fun j => p.leave.getD j 0) _ HPW.out pn2 HIW.out.into (by omega)).mono ?_
      rintro _ w4 ⟨u4, x4, rfl, hx4, ho4, hb4⟩
      rw [inL_list] at ho4
      have HXF4 : Hid (x4.fault = 0) := without_fault ho4.out HPF.out
      have HXB4 : Hid (x4.born ≠ []) := (without_born ho4.out HPF.out).2 (leave_ok HPF.out)
      obtain ⟨xn1, xn2, _⟩ := Pers.ok_facts HXF4.out
      have HX4 := Lib.hid hx4
      have HB4 := Lib.hid hb4
      clear hx4 ho4 hb4 d0 d1 d2 d3
      obtain ⟨d0, d1, d2, d3⟩ := cells4 ((HB4.out.block _ hszw).trans HKR.out)
      go_wp2_with fail
      refine (person_any _ x4 _ HX4.out.out (by omega) (by omega)).mono ?_
      rintro _ w5 ⟨u5, rfl, hu5, hb5⟩
      have HU5 := Lib.hid hu5
      go_wp2_with fail
      refine (Births_any _ x4 _ HU5.out (by omega) (by omega)).mono ?_
      rintro _ w6 ⟨v6, rfl, hr6, hb6⟩
      have HB6 : Hid (Below wr.heap.size wr w6) := below_step HB4.out (below_step hb5 hb6)
      rw [bErr_of HXF4.out, if_neg HXB4.out]
      clear hu5 hb5 hr6 hb6 d0 d1 d2 d3 xn1 xn2
      obtain ⟨d0, d1, d2, d3⟩ := cells4 ((HB6.out.block _ hszw).trans HKR.out)
      go_wp2_with fail
      refine (without_any _ _ p (castL tr).length (fun j => (castL tr).getD j 0) _ (HPW.out.below HB6.out) pn2 (HIT.out.below HB6.out).into (by rw [castL_length]; have := asc_len HASC.out; omega)).mono ?_
      rintro _ w7 ⟨u7, x7, rfl, hx7, ho7, hb7⟩
      rw [inL_list] at ho7
      have HXF7 : Hid (x7.fault = 0) := without_fault ho7.out HPF.out
      have HXB7 : Hid (x7.born ≠ [] → lessB (castL tr) p.leave = false) := fun h => leave_less HPF.out HASC.out ((without_born ho7.out HPF.out).1 h)
      obtain ⟨xn1, xn2, _⟩ := Pers.ok_facts HXF7.out
      have HX7 := Lib.hid hx7
      have HB7 : Hid (Below wr.heap.size wr w7) := below_step HB6.out hb7
      clear hx7 ho7 hb7 d0 d1 d2 d3
      obtain ⟨d0, d1, d2, d3⟩ := cells4 ((HB7.out.block _ hszw).trans HKR.out)
      go_wp2_with fail
      refine (person_any _ x7 _ HX7.out.out (by omega) (by omega)).mono ?_
      rintro _ w8 ⟨u8, rfl, hu8, hb8⟩
      have HU8 := Lib.hid hu8
      go_wp2_with fail
      refine (Births_any _ x7 _ HU8.out (by omega) (by omega)).mono ?_
      rintro _ w9 ⟨v9, rfl, hr9, hb9⟩
      have HB9 : Hid (Below wr.heap.size wr w9) := below_step HB7.out (below_step hb8 hb9)
      have HE7 : Hid (x7.bErr = if x7.born = [] then 9 else 0) := bErr_of HXF7.out
      clear hu8 hb8 hr9 hb9 d0 d1 d2 d3 xn1 xn2
      obtain ⟨d0, d1, d2, d3⟩ := cells4 ((HB9.out.block _ hszw).trans HKR.out)
      go_wp2_with fail
      refine (person_any _ p _ (HPW.out.below HB9.out) (by omega) (by omega)).mono ?_
      rintro _ w10 ⟨u10, rfl, hu10, hb10⟩
      have HU10 := Lib.hid hu10
      go_wp2_with fail
      refine (Births_any _ p _ HU10.out (by omega) (by omega)).mono ?_
      rintro _ w11 ⟨v11, rfl, hr11, hb11⟩
      have HB11 : Hid (Below wr.heap.size wr w11) := below_step HB9.out (below_step hb10 hb11)
      have HE1 : Hid (p.bErr = if p.born = [] then 9 else 0) := bErr_of HPF.out
      have HLN : Hid (p.leave = [] ↔ p.born ≠ []) := leave_nil HPF.out
      have HLESS := Lib.hid (fun W (hW : Below wr.heap.size wr W) => less_any _ _ (castL tr) p.leave W (HIT.out.below hW).ints (HIW.out.below hW).ints (by rw [castL_length]; have := asc_len HASC.out; omega))
      clear hu10 hb10 hr11 hb11 d0 d1 d2 d3 hp
      have hlz : Hid (((p.leave.length : Int) == 0) = (p.leave.length == 0)) := by unfold Hid; rw [Bool.eq_iff_iff]; simp
      by_cases b1 : p.born = [] <;> by_cases b2 : x7.born = []
      all_goals
        rw [HE1.out, HE7.out]
        first | rw [if_pos b1] | rw [if_neg b1]
        first | rw [if_pos b2] | rw [if_neg b2]
        first
          | (have hz : ((p.leave.length : Int) == 0) = true := by rw [hlz.out, HLN.out.2 b1]; rfl)
          | (have hz : ((p.leave.length : Int) == 0) = false := by
               (rw [hlz.out, beq_eq_false_iff_ne]; intro e; exact HLN.out.1 (List.eq_nil_of_length_eq_zero e) b1))
        first
          | (have HLS : Hid (lessB (castL tr) p.leave = false) := HXB7.out b2)
          | (have HLS : Hid True := trivial)
        clear b1 b2
        go_wp2_with (first | (go_at_call 40; refine (HLESS.out _ HB11.out).mono ?_; rintro _ w12 ⟨rfl, hb12⟩; rw [HLS.out]) | (go_at_call 20; refine (HAW.out _).mono ?_; rintro _ w13 ⟨rfl, hb13⟩))
        go_ret
        first
          | exact ⟨rfl, HBW.out.trans ((below_step (below_step HB11.out hb12) hb13).mono HBW.out.size)⟩
          | exact ⟨rfl, HBW.out.trans ((below_step HB11.out hb13).mono HBW.out.size)⟩
end Go.Proofs.Ytagfcfojfjkmbaa
