/- Walk, plain: the tours as lists of places. By hand. -/
import Derived.Test.YtpnkgjkoophckaaVR
import Derived.Test.YtpnkgjkoophckaaVE
namespace Go.Proofs.Ytpnkgjkoophckaa

theorem Pl.last {m : Mp} {a b : Nat} {K : Int} {l : List Nat} (p : Pl m a l b K) : b ∈ a :: l := by
  induction p with
  | nil a => exact .head _
  | cons _ _ ih => exact .tail _ ih
theorem tourF_pl {m : Mp} (ok : OkM m) (a s : Nat) (ha : a < m.nw) (hs : s < 2 ^ m.nw) (hf : rsT m a s < 1048576) : Pl m a (tourF m s a s) 0 (rsT m a s) ∧ (∀ i, s.testBit i = true → i ∈ a :: tourF m s a s) ∧ (tourF m s a s).length ≤ 7 * ((plc s).length + 1) := by
  have hn := ok.nw
  by_cases h0 : s = 0
  · subst h0
    rw [rsT_zero] at hf ⊢
    obtain ⟨l, e, p⟩ := wayL_pl ok (show 0 < m.nw by omega) _ a ha (Nat.lt_succ_self _) hf
    have h8 := wayL_8 ok ha (show 0 < m.nw by omega) hf
    have ht : tourF m 0 a 0 = l := by show (wayL m a 0).tail = l; rw [e]; rfl
    rw [ht]
    refine ⟨p, fun i hi => by simp at hi, ?_⟩
    rw [e] at h8
    simp only [List.length_cons] at h8
    omega
  · obtain ⟨j, j1, j2, j3, j4, j5, j6, j7⟩ := rest_next ok ha hs h0 hf
    obtain ⟨l, e, p⟩ := wayL_pl ok j4 _ a ha (Nat.lt_succ_self _) j5
    have h8 := wayL_8 ok ha j4 j5
    rw [e] at h8
    simp only [List.length_cons] at h8
    have hp := testBit_le j3
    have h2 := Nat.two_pow_pos j
    have s8 := two8 ok hs
    obtain ⟨q1, q2, q3⟩ := tourF_pl ok j (s - 2 ^ j) j4 (by omega) j6
    have hl := plc_off ⟨s, s8⟩ ⟨j, j2⟩ j3
    simp only at hl
    have ht : tourF m s a s = l ++ tourF m (s - 2 ^ j) j (s - 2 ^ j) := by rw [tourF_step ok hs h0 hf j1 j3 j4 j6, e]; rfl
    rw [ht, show rsT m a s = tmA m a j + rsT m j (s - 2 ^ j) from j7]
    refine ⟨p.append q1, fun i hi => ?_, by rw [List.length_append]; omega⟩
    have hj : j ∈ a :: l := p.last
    by_cases ei : i = j
    · subst ei
      rw [← List.cons_append]
      exact List.mem_append_left _ hj
    · have := q2 i (by rw [off_bit s8 j3, hi]; simp [ei])
      rcases List.mem_cons.1 this with h | h
      · exact absurd h ei
      · rw [← List.cons_append]; exact List.mem_append_right _ h
termination_by s
decreasing_by omega
def tourY (m : Mp) (s : Nat) : Wl := ⟨(tourL m s).length, zL (tourL m s), (plc s).length, zL (plc s)⟩
theorem work_congr {ct ct' tw : Nat → Int} : ∀ n, (∀ k, k < n → ct k = ct' k) → workZ ct tw n = workZ ct' tw n
  | 0, _ => rfl
  | n + 1, h => by
    simp only [workZ]
    rw [work_congr n (fun k hk => h k (by omega)), h n (by omega)]
theorem zL_app {L : List Nat} {p k : Nat} (h : k < L.length) : zL (L ++ [p]) k = zL L k := by
  rw [zL_get (by rw [List.length_append]; omega), zL_get h, List.getElem_append_left h]
theorem work_hiS (m : Mp) (L : List Nat) : workZ (zL L) (fun i => (m.wk i).2) L.length = hiS m L := by
  rcases List.eq_nil_or_concat L with rfl | ⟨L, n, rfl⟩
  · rfl
  · rw [List.concat_eq_append, hiS_snoc, ← work_hiS m L, List.length_append]
    simp only [List.length_cons, List.length_nil, workZ]
    rw [work_congr L.length (fun k hk => zL_app hk), zL_get (L := L ++ [n]) (j := L.length) (by simp)]
    simp
termination_by L.length
decreasing_by simp_all
theorem tour_walk {m : Mp} (ok : OkM m) {s : Nat} (hs : s < 2 ^ m.nw) (hf : rsT m 0 s < 1048576) : isWalkB m (tourY m s) = true ∧ timeZ m (tourY m s) (fun i => (m.wk i).2) (fun i => (m.rt i).2) = lgM m s := by
  have hn := ok.nw
  obtain ⟨p, q2, q3⟩ := tourF_pl ok 0 s (by omega) hs hf
  have hl : (tourL m s).length = (tourF m s 0 s).length + 1 := List.length_cons
  have h8 := plc_lt ⟨s, two8 ok hs⟩
  simp only at h8
  have hr : risesB (zL (plc s)) (plc s).length = true := rises_list (List.pairwise_lt_range.filter _)
  constructor
  · unfold isWalkB tourY
    simp only
    rw [hl, decide_eq_true (show (tourF m s 0 s).length + 1 ≤ 64 by omega), Bool.true_and, Bool.and_eq_true]
    refine ⟨p.isPath ok (show 0 < m.nw by omega), allB_true (fun j hj => ?_)⟩
    rw [Bool.and_eq_true]
    constructor
    · rw [hasB_iff, zL_get hj]
      have hm := q2 _ (plc_mem.1 (List.getElem_mem hj)).2
      obtain ⟨k, hk, ek⟩ := List.getElem_of_mem hm
      exact ⟨k, by simpa using hk, by rw [show tourL m s = 0 :: tourF m s 0 s from rfl, zL_get hk, ek]⟩
    · have := rises_iff.1 hr j hj
      simpa only [Bool.or_eq_true, decide_eq_true_eq] using this
  · unfold timeZ tourY
    simp only
    rw [hl, Nat.add_sub_cancel, show tourL m s = 0 :: tourF m s 0 s from rfl, (p.spec ok).2.2, work_hiS, lgM_rs]
theorem sorted_ext : ∀ A B : List Nat, A.Pairwise (· < ·) → B.Pairwise (· < ·) → (∀ i, i ∈ A ↔ i ∈ B) → A = B
  | [], B, _, _, h => by
    cases B with
    | nil => rfl
    | cons b B => exact absurd ((h b).2 (.head _)) (by simp)
  | a :: A, [], _, _, h => absurd ((h a).1 (.head _)) (by simp)
  | a :: A, b :: B, hA, hB, h => by
    rw [List.pairwise_cons] at hA hB
    have e : a = b := by
      rcases List.mem_cons.1 ((h a).1 (.head _)) with h1 | h1
      · exact h1
      · rcases List.mem_cons.1 ((h b).2 (.head _)) with h2 | h2
        · exact h2.symm
        · have := hB.1 a h1; have := hA.1 b h2; omega
    subst e
    rw [sorted_ext A B hA.2 hB.2 (fun i => ?_)]
    have hi := h i
    constructor
    · intro h1
      rcases List.mem_cons.1 (hi.1 (.tail _ h1)) with h2 | h2
      · have := hA.1 i h1; omega
      · exact h2
    · intro h1
      rcases List.mem_cons.1 (hi.2 (.tail _ h1)) with h2 | h2
      · have := hB.1 i h1; omega
      · exact h2
theorem rises_lt {z : Nat → Int} {n : Nat} (h : risesB z n = true) : ∀ d i, i + d + 1 < n → z i < z (i + d + 1)
  | 0, i, hi => by
    rcases rises_iff.1 h (i + 1) (by omega) with h1 | h1
    · omega
    · exact h1
  | d + 1, i, hi => by
    have h1 := rises_lt h d i (by omega)
    rcases rises_iff.1 h (i + (d + 1) + 1) (by omega) with h2 | h2
    · omega
    · have e : i + (d + 1) + 1 - 1 = i + d + 1 := by omega
      rw [e] at h2; omega
/-- The places of a list are the list. -/
theorem plc_list {m : Mp} (ok : OkM m) {z : Nat → Int} {n : Nat} (h : placesB m z n = true) : (plc (orL z n)).length = n ∧ ∀ j, j < n → zL (plc (orL z n)) j = z j := by
  have hn := ok.nw
  unfold placesB at h
  rw [Bool.and_eq_true] at h
  obtain ⟨h1, h2⟩ := h
  have hb : ∀ j, j < n → 0 ≤ z j ∧ z j < m.nw := fun j hj => by have := allB_iff.1 h2 j hj; simp only [inB, Bool.and_eq_true, decide_eq_true_eq] at this; omega
  have e : plc (orL z n) = (List.range n).map fun j => (z j).toNat := by
    refine sorted_ext _ _ (List.pairwise_lt_range.filter _) ?_ (fun i => ?_)
    · rw [List.pairwise_iff_getElem]
      intro i j hi hj hij
      simp only [List.length_map, List.length_range] at hi hj
      simp only [List.getElem_map, List.getElem_range]
      have := rises_lt h1 (j - i - 1) i (by omega)
      rw [show i + (j - i - 1) + 1 = j by omega] at this
      have := hb i hi
      omega
    · rw [plc_mem, orL_bit, List.mem_map]
      constructor
      · rintro ⟨_, j, hj, rfl⟩
        exact ⟨j, List.mem_range.2 hj, rfl⟩
      · rintro ⟨j, hj, rfl⟩
        have hj := List.mem_range.1 hj
        have := hb j hj
        exact ⟨by omega, j, hj, rfl⟩
  rw [e]
  refine ⟨by simp, fun j hj => ?_⟩
  rw [zL_get (by simpa using hj)]
  simp only [List.getElem_map, List.getElem_range]
  have := hb j hj
  omega
end Go.Proofs.Ytpnkgjkoophckaa
