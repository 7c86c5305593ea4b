/- Reference: Meet. -/
import Derived.Test.YtagfcfojfjkmbaaR5
import Derived.Test.YtagfcfojfjkmbaaN8
namespace Go.Proofs.Ytagfcfojfjkmbaa
open Go.RowKit Go.Shelf

def GivesQ (w : World) (l : RL) (e : Ending) (w' : World) : Prop := ∃ u, e = .returned u ∧ RgAt w' u l ∧ Below w.heap.size w w'
set_option maxRecDepth 100000 in
set_option maxHeartbeats 8000000 in
theorem refMeet_any (va vb : Value) (la lb : RL) (w : World) (ha : RgAt w va la) (hb : RgAt w vb lb) (hla : la.length ≤ 1000) (hlb : lb.length ≤ 1000) :
    Calls Try.prog 58 #[va, vb] w (GivesQ w (meetP la lb)) := by
  obtain ⟨aa, ca, rfl⟩ := ha.slice
  obtain ⟨ab, cb, rfl⟩ := hb.slice
  have HA := Lib.hid ha; have HB := Lib.hid hb; clear ha hb
  obtain ⟨i0, hi0, hz0, hz1, hz2⟩ := info_parts Try.infoRng
  have HTL := Lib.hid (fun i k => meetT_length (a := la) (b := lb) (i := i) (k := k) hla hlb)
  go_enter Try.func58, Try.ntmps58
  go_wp2
  go_loopw [5, 6] (fun v i wr => ∃ k : Nat, k ≤ la.length ∧ i = .int .i64 k ∧ wr.ownsRow w.heap.size 32 2 v (meetT la lb k 0).length (flat (meetT la lb k 0)) ∧ Below w.heap.size w wr) (fun _ i _ => la.length - (intOf i).toNat)
  case atStart => exact ⟨0, Nat.zero_le _, rfl, by rw [meetT_zero]; exact World.ownsRow_nil _ _ _ _, Below.refl _ _⟩
  case round =>
    obtain ⟨k, hk, rfl, hown, hbl⟩ := hrel
    obtain ⟨ov, oc, rfl⟩ := own_slice' hown
    have HOWN := Lib.hid hown; have HBL := Lib.hid hbl; clear hown hbl
    by_cases hlt : k < la.length
    · have HAX := Lib.hid (fun (W : World) (hW : Below w.heap.size w W) => (HA.out.kept hW).get hlt)
      have HROW := Lib.hid (meetT_row (b := lb) hlt)
      have HNX := Lib.hid (fun j (hj : j < lb.length) => meetT_next (a := la) (b := lb) hlt hj)
      have HZ := Lib.hid (meetT_zero la lb (k + 1))
      obtain ⟨ba, oa, rfl, _⟩ := HAX.out w (Below.refl _ _)
      go_wp2
      obtain ⟨wo, rfl⟩ : ∃ wo : World, wo = wr := ⟨_, rfl⟩
      go_loopw [5, 7] (fun v i wr => ∃ j : Nat, j ≤ lb.length ∧ i = .int .i64 j ∧ wr.ownsRow w.heap.size 32 2 v (meetT la lb k j).length (flat (meetT la lb k j)) ∧ Below w.heap.size w wr) (fun _ i _ => lb.length - (intOf i).toNat)
      case atStart => exact ⟨0, Nat.zero_le _, rfl, HOWN.out, HBL.out⟩
      case round =>
        clear HOWN HBL
        obtain ⟨j, hj, rfl, hown, hbl⟩ := hrel
        obtain ⟨ov, oc, rfl⟩ := own_slice' hown
        have HOWN := Lib.hid hown; have HBL := Lib.hid hbl; clear hown hbl
        by_cases hjl : j < lb.length
        · obtain ⟨_, _, e1, x0, x1⟩ := HAX.out wr HBL.out
          cases e1
          obtain ⟨bb, ob, rfl, y0, y1⟩ := (HB.out.kept HBL.out).get hjl
          have HN := Lib.hid (HNX.out j hjl)
          have HTJ := Lib.hid (HTL.out k j)
          generalize meetT la lb k j = t at *
          have HMO : Hid (meetO la[k] lb[j] = if max la[k].1 lb[j].1 ≤ min la[k].2 lb[j].2 then [(max la[k].1 lb[j].1, min la[k].2 lb[j].2)] else []) := rfl
          rw [HMO.out] at HN
          clear HMO
          generalize (la[k]).1 = xl at *
          generalize (la[k]).2 = xh at *
          generalize (lb[j]).1 = yl at *
          generalize (lb[j]).2 = yh at *
          have ki : (0 : Int) ≤ (k : Int) := by omega
          have kj : (k : Int) < (la.length : Int) := by omega
          have ji : (0 : Int) ≤ (j : Int) := by omega
          have jj : (j : Int) < (lb.length : Int) := by omega
          go_upto_region 8 with fail
          go_cut [8, 9] (fun s t wx => s = .int .i64 (max xl yl) ∧ t = .int .i64 (min xh yh) ∧ ∃ nq, wx = wr.drewN nq)
          case first =>
            go_quiet (fail)
            all_goals (try go_wp2_with fail)
            all_goals
              go_meet
              exact ⟨congrArg (Value.int .i64) (by omega), congrArg (Value.int .i64) (by omega), _, rfl⟩
          case rest =>
            obtain ⟨rfl, rfl, nq, rfl⟩ := hcut
            have HO2 : Hid ((wr.drewN nq).ownsRow w.heap.size 32 2 (.slice ov t.length oc) t.length (flat t)) := own_fr HOWN.out (Fr.below (below_drewS wr.heap.size wr nq) (fun _ => False)) (fun _ _ _ _ _ e => e)
            have HB2 : Hid (Below w.heap.size w (wr.drewN nq)) := HBL.out.trans (below_drewS _ _ _)
            have hs2 : w.heap.size ≤ (wr.drewN nq).heap.size := HB2.out.size
            have htl := HTJ.out
            generalize World.drewN wr nq = w2 at *
            generalize max xl yl = lo at *
            generalize min xh yh = hi at *
            clear x0 x1 y0 y1
            by_cases hlh : lo ≤ hi
            · have HN2 : Hid (meetT la lb k (j + 1) = t ++ [(lo, hi)]) := by unfold Hid; rw [HN.out, if_pos hlh]
              go_wp2_with (at_builtin; refine wpList_append_lies _ rfl (.tmp 47) (.tmp 51) 49 rfl w.heap.size 32 i0 (.agg #[.int .i64 0, .int .i64 0]) 2 16 Try.underlying49 hi0 hz0 hz1 hz2 rfl (by omega) (.slice ov t.length oc) t.length (flat t) rfl (World.ownsRow.alloc HO2.out _) ⟨w2.heap.size, 0, none⟩ 1 1 [.int .i64 lo, .int .i64 hi] rfl rfl ?c1 ?c2 ?c3 ?c4 ?c5 ?c6 (w2.heap.size + 1) ?c7 ?_)
              case c1 => exact World.news_of_block (heap_alloc_new w2 (.cells #[.int .i64 lo, .int .i64 hi] 32))
              case c2 => simp [Value.oneCell']
              case c3 => omega
              case c4 => unfold maxLen; omega
              case c5 => omega
              case c6 => simp; omega
              case c7 => simp
              intro g cap' X hown hgrow hat hlt1
              have HXB : Hid (Below w.heap.size w X) := HB2.out.trans (((below_alloc w2 (.cells #[.int .i64 lo, .int .i64 hi] 32)).mono hs2).trans ((Fr.grown hgrow).low (by simp; omega) (fun q hq e => by have := own_low HO2.out e; omega)))
              have HXO : Hid (X.ownsRow w.heap.size 32 2 (.slice (some ⟨g, 0, none⟩) (t.length + 1) cap') (t ++ [(lo, hi)]).length (flat (t ++ [(lo, hi)]))) := by unfold Hid; rw [flat_append, List.length_append]; exact hown
              clear hown hgrow hat hlt1
              go_wp2
              go_roundw
              case rel => exact ⟨j + 1, by omega, by go_num, by rw [HN2.out]; exact HXO.out, HXB.out⟩
              case measure => simp [intOf]; omega
            · have HN2 : Hid (meetT la lb k (j + 1) = t) := by unfold Hid; rw [HN.out, if_neg hlh, List.append_nil]
              go_wp2
              go_roundw
              case rel => exact ⟨j + 1, by omega, by go_num, by rw [HN2.out]; exact HO2.out, HB2.out⟩
              case measure => simp [intOf]; omega
        · obtain rfl : j = lb.length := by omega
          go_wp2
          go_roundw
          case rel => exact ⟨k + 1, by omega, by go_num, by rw [HZ.out, ← HROW.out]; exact HOWN.out, HBL.out⟩
          case measure => simp [intOf]; omega
    · obtain rfl : k = la.length := by omega
      have HE : Hid (meetT la lb la.length 0 = meetP la lb) := by unfold Hid; rw [meetT_zero, List.take_length]
      go_wp2
      go_ret
      exact ⟨_, rfl, by rw [← HE.out]; exact QS.rg HOWN.out, HBL.out⟩
end Go.Proofs.Ytagfcfojfjkmbaa
