/- Contract: inside. -/
import Derived.Test.YtagfcfojfjkmbaaF1
namespace Go.Proofs.Ytagfcfojfjkmbaa
open Go.RowKit Go.Shelf

/-- The range r is in one of the first k ranges of b. -/
def anyK (lo hi : Int) (b : RL) (k : Nat) : Bool := (b.take k).any fun s => decide (s.1 ≤ lo) && decide (hi ≤ s.2)
theorem anyK_succ (lo hi : Int) (b : RL) (k : Nat) (hk : k < b.length) : anyK lo hi b (k + 1) = (anyK lo hi b k || (decide (b[k].1 ≤ lo) && decide (hi ≤ b[k].2))) := by
  unfold anyK; rw [List.take_succ_eq_append_getElem hk, List.any_append, List.any_cons, List.any_nil, Bool.or_false]
theorem insB_true {a b : RL} (h : ∀ q (hq : q < a.length), anyK a[q].1 a[q].2 b b.length = true) : insB a b = true := by
  unfold insB; rw [List.all_eq_true]
  intro r hr
  obtain ⟨q, hq, rfl⟩ := List.mem_iff_getElem.1 hr
  have := h q hq
  unfold anyK at this; rw [List.take_length] at this; exact this
theorem insB_false {a b : RL} {q : Nat} (hq : q < a.length) (h : anyK a[q].1 a[q].2 b b.length = false) : insB a b = false := by
  unfold insB; rw [List.all_eq_false]
  refine ⟨a[q], List.getElem_mem hq, ?_⟩
  unfold anyK at h; rw [List.take_length] at h; simp [h]
theorem RgAt.get {w : World} {a : Option Addr} {cap : Nat} {l : RL} (h : RgAt w (.slice a l.length cap) l) {k : Nat} (hk : k < l.length) : ∃ b off, a = some ⟨b, off, none⟩ ∧ w.cell? ⟨b, off + k * 2, none⟩ = some (.int .i64 l[k].1) ∧ w.cell? ⟨b, off + k * 2 + 1, none⟩ = some (.int .i64 l[k].2) := by
  rcases h with ⟨h, _⟩ | ⟨b', off', cap', h, _, _, hz⟩
  · rw [h] at hk; simp at hk
  · cases h; exact ⟨b', off', rfl, hz k hk⟩

set_option maxRecDepth 100000 in
set_option maxHeartbeats 4000000 in
theorem inside_any (va vb : Value) (la lb : RL) (w : World) (h1 : la.length ≤ 100000) (h2 : lb.length ≤ 100000) (ha : RgAt w va la) (hb : RgAt w vb lb) :
    Calls Try.prog 38 #[va, vb] w fun e w' => e = .returned (.bool (insB la lb)) ∧ Below w.heap.size w w' := by
  obtain ⟨aa, ca, rfl⟩ := ha.slice
  obtain ⟨ab, cb, rfl⟩ := hb.slice
  have HA := Lib.hid ha; have HB := Lib.hid hb; clear ha hb
  go_enter Try.func38, Try.ntmps38
  go_wp2
  go_loopw [5] (fun i wr => ∃ k : Nat, k ≤ la.length ∧ i = .int .i64 k ∧ (∀ q (hq : q < la.length), q < k → anyK la[q].1 la[q].2 lb lb.length = true) ∧ Below w.heap.size w wr) (fun i _ => la.length - (intOf i).toNat)
  case atStart => exact ⟨0, Nat.zero_le _, rfl, fun q _ h => absurd h (Nat.not_lt_zero _), Below.refl _ _⟩
  case round =>
    obtain ⟨k, hk, rfl, hall, hbl⟩ := hrel
    have HALL := Lib.hid hall; have HBL := Lib.hid hbl; clear hall hbl
    by_cases hlt : k < la.length
    · have HAK := Lib.hid (fun (W : World) (hW : Below w.heap.size w W) => (HA.out.kept hW).get hlt)
      generalize hlo : la[k].1 = lo at *
      generalize hhi : la[k].2 = hi at *
      have HLO := Lib.hid hlo; have HHI := Lib.hid hhi; clear hlo hhi
      obtain ⟨ba, oa, rfl, _⟩ := HAK.out w (Below.refl _ _)
      go_wp2
      obtain ⟨wo, rfl⟩ : ∃ wo : World, wo = wr := ⟨_, rfl⟩
      go_loopw [6, 7] (fun c i wr => ∃ j : Nat, j ≤ lb.length ∧ i = .int .i64 j ∧ c = .bool (anyK lo hi lb j) ∧ Below w.heap.size w wr) (fun _ i _ => lb.length - (intOf i).toNat)
      case atStart => exact ⟨0, Nat.zero_le _, rfl, rfl, HBL.out⟩
      case round =>
        obtain ⟨j, hj, rfl, rfl, hbl2⟩ := hrel
        have HBL2 := Lib.hid hbl2; clear hbl2
        by_cases hjl : j < lb.length
        · obtain ⟨ba', oa', e1, a0, a1⟩ := HAK.out wr HBL2.out
          cases e1
          obtain ⟨bb, ob, rfl, b0, b1⟩ := (HB.out.kept HBL2.out).get hjl
          have HS := Lib.hid (anyK_succ lo hi lb j hjl)
          generalize lb[j].1 = slo at *
          generalize lb[j].2 = shi at *
          have ki : (0 : Int) ≤ (k : Int) := by omega
          have kj : (k : Int) < (la.length : Int) := by omega
          have ji : (0 : Int) ≤ (j : Int) := by omega
          have jj : (j : Int) < (lb.length : Int) := by omega
          cases hc : anyK lo hi lb j
          · by_cases t1 : slo ≤ lo
            · by_cases t2 : hi ≤ shi
              · go_wp2
                go_quiet (fail)
                go_wp2
                go_roundw
                case rel => exact ⟨j + 1, by omega, by go_num, by rw [HS.out, hc]; simp [t1, t2], HBL2.out.trans (below_drewS _ _ _)⟩
                case measure => simp [intOf]; omega
              · have d2 : decide (hi ≤ shi) = false := by simpa using t2
                go_wp2
                go_quiet (fail)
                go_wp2
                go_roundw
                case rel => exact ⟨j + 1, by omega, by go_num, by rw [HS.out, hc, d2]; simp, HBL2.out.trans (below_drewS _ _ _)⟩
                case measure => simp [intOf]; omega
            · have d1 : decide (slo ≤ lo) = false := by simpa using t1
              go_wp2
              go_quiet (fail)
              go_wp2
              go_roundw
              case rel => exact ⟨j + 1, by omega, by go_num, by rw [HS.out, hc, d1]; simp, HBL2.out.trans (below_drewS _ _ _)⟩
              case measure => simp [intOf]; omega
          · go_wp2
            go_quiet (fail)
            go_wp2
            go_roundw
            case rel => exact ⟨j + 1, by omega, by go_num, by rw [HS.out, hc]; simp, HBL2.out.trans (below_drewS _ _ _)⟩
            case measure => simp [intOf]; omega
        · obtain rfl : j = lb.length := by omega
          cases hc : anyK lo hi lb lb.length
          · go_wp2
            go_ret
            exact ⟨ret_bool (by rw [insB_false hlt (by rw [HLO.out, HHI.out]; exact hc)]), HBL2.out⟩
          · go_wp2
            go_roundw
            case rel => exact ⟨k + 1, by omega, by go_num, (fun q hq hqk => by rcases Nat.lt_succ_iff_lt_or_eq.1 hqk with h | rfl; exact HALL.out q hq h; rw [HLO.out, HHI.out]; exact hc), HBL2.out⟩
            case measure => simp [intOf]; omega
    · obtain rfl : k = la.length := by omega
      go_wp2
      go_ret
      exact ⟨ret_bool (by rw [insB_true (fun q hq => HALL.out q hq hq)]), HBL.out⟩
end Go.Proofs.Ytagfcfojfjkmbaa
