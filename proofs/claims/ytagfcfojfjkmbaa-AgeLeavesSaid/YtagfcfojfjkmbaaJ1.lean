/- ref.Less. -/
import Derived.Test.YtagfcfojfjkmbaaN5
import Derived.Test.YtagfcfojfjkmbaaI5
namespace Go.Proofs.Ytagfcfojfjkmbaa
open Go.RowKit Go.Shelf

theorem lltI_drop {a b : List Int} {n : Nat} (hna : a.length = n) (hnb : b.length = n) {k : Nat} (hk : k < n) : lltI (a.drop k) (b.drop k) = if a.getD k 0 = b.getD k 0 then lltI (a.drop (k + 1)) (b.drop (k + 1)) else decide (a.getD k 0 < b.getD k 0) := by
  have ha : k < a.length := by omega
  have hb : k < b.length := by omega
  rw [List.drop_eq_getElem_cons ha, List.drop_eq_getElem_cons hb, lltI]
  simp [ha, hb]

set_option maxRecDepth 100000 in
set_option maxHeartbeats 2000000 in
theorem less_any (va vb : Value) (a b : List Int) (w : World) (ha : IntsAt w va a.length (fun j => a.getD j 0)) (hb : IntsAt w vb b.length (fun j => b.getD j 0)) (hn : a.length ≤ 100000) :
    Calls Try.prog 40 #[va, vb] w fun e w' => e = .returned (.bool (lessB a b)) ∧ Below w.heap.size w w' := by
  obtain ⟨aa, ca, rfl⟩ := ha.len
  obtain ⟨ab, cb, rfl⟩ := hb.len
  have HA := Lib.hid ha; have HB := Lib.hid hb; clear ha hb
  by_cases hl : a.length = b.length
  · have HLB : Hid (lessB a b = lltI (a.drop 0) (b.drop 0)) := by unfold Hid lessB; rw [if_pos hl]; rfl
    obtain ⟨n, hna⟩ : ∃ n, a.length = n := ⟨_, rfl⟩
    have hnb : b.length = n := by omega
    have HDR := Lib.hid (fun k (h : k < n) => lltI_drop hna hnb h)
    have HNI : Hid (lltI (a.drop n) (b.drop n) = false) := by unfold Hid; rw [List.drop_of_length_le (by omega)]; rfl
    rw [hna] at hn HA ⊢
    rw [hnb] at HB ⊢
    clear hl hna hnb
    have hnn : ((n : Int) == (n : Int)) = true := by simp
    go_enter Try.func40, Try.ntmps40
    go_wp2
    go_loopw [5] (fun i wr => ∃ k : Nat, k ≤ n ∧ i = .int .i64 k ∧ lessB a b = lltI (a.drop k) (b.drop k) ∧ Below w.heap.size w wr) (fun i _ => n - (intOf i).toNat)
    case atStart => exact ⟨0, Nat.zero_le _, rfl, HLB.out, Below.refl _ _⟩
    case round =>
      obtain ⟨k, hk, rfl, hsm, hbl⟩ := hrel
      have HSM := Lib.hid hsm; have HBL := Lib.hid hbl; clear hsm hbl
      by_cases hlt : k < n
      · obtain ⟨ba, oa, rfl, hba, xa⟩ : ∃ ba oa, aa = some ⟨ba, oa, none⟩ ∧ ba < w.heap.size ∧ w.cell? ⟨ba, oa + k, none⟩ = some (.int .i64 (a.getD k 0)) := by
          rcases HA.out with ⟨_, h⟩ | ⟨b', o', c', e, hb, hz⟩
          · omega
          · cases e; exact ⟨b', o', rfl, hb, hz k hlt⟩
        obtain ⟨bb, ob, rfl, hbb, xb⟩ : ∃ ba oa, ab = some ⟨ba, oa, none⟩ ∧ ba < w.heap.size ∧ w.cell? ⟨ba, oa + k, none⟩ = some (.int .i64 (b.getD k 0)) := by
          rcases HB.out with ⟨_, h⟩ | ⟨b', o', c', e, hb, hz⟩
          · omega
          · cases e; exact ⟨b', o', rfl, hb, hz k hlt⟩
        have ya := kept HBL.out hba xa
        have yb := kept HBL.out hbb xb
        have HD := Lib.hid (HDR.out k hlt)
        clear xa xb
        generalize a.getD k 0 = x at *
        generalize b.getD k 0 = y at *
        have ki : (0 : Int) ≤ (k : Int) := by omega
        have kj : (k : Int) < (n : Int) := by omega
        by_cases hxy : x = y
        · have h1 : (x != y) = false := by simp [hxy]
          have HN : Hid (lessB a b = lltI (a.drop (k + 1)) (b.drop (k + 1))) := by unfold Hid; rw [HSM.out, HD.out, if_pos hxy]
          clear hxy
          go_wp2
          go_quiet (fail)
          go_wp2
          go_roundw
          case rel => exact ⟨k + 1, by omega, by go_num, HN.out, HBL.out.trans (below_drewS _ _ _)⟩
          case measure => simp [intOf]; omega
        · have h1 : (x != y) = true := by simp [hxy]
          have HN : Hid (lessB a b = decide (x < y)) := by unfold Hid; rw [HSM.out, HD.out, if_neg hxy]
          clear hxy
          go_wp2
          go_quiet (fail)
          go_wp2
          go_quiet (fail)
          go_wp2
          go_ret
          exact ⟨ret_bool HN.out.symm, HBL.out.trans ((below_drewS _ _ _).trans (below_drewS _ _ _))⟩
      · obtain rfl : k = n := by omega
        go_wp2
        go_ret
        exact ⟨ret_bool (by rw [HSM.out, HNI.out]), HBL.out⟩
  · have HLB : Hid (lessB a b = decide ((a.length : Int) < (b.length : Int))) := by unfold Hid lessB; rw [if_neg hl]; simp
    have hne : ((a.length : Int) == (b.length : Int)) = false := beq_eq_false_iff_ne.2 (by omega)
    clear hl HA HB
    generalize a.length = n at *
    generalize b.length = m at *
    by_cases h0 : 0 < (n : Int)
    all_goals
      go_enter Try.func40, Try.ntmps40
      go_wp2_with fail
      go_loop [5] (fun i => i = .int .i64 0) (fun _ => 0)
      case atStart => rfl
      case round =>
        subst hrel
        go_wp2
        go_ret
        exact ⟨ret_bool (by rw [HLB.out]; simp), Below.refl _ _⟩
end Go.Proofs.Ytagfcfojfjkmbaa
