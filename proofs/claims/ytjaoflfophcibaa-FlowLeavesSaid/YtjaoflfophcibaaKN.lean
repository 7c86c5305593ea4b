/- The reference's Agree. -/
import Derived.Test.YtjaoflfophcibaaKM
namespace Go.Proofs.Ytjaoflfophcibaa
open Go.RowKit Go.Shelf

theorem ends_ne {p : Nat → Bool} {r : R2} {lo hi : Int} (h : EndP p 3000 lo hi) (hp : IvS p r) (hr : emptyR r = true ∨ InB r) : decide (0 ≤ hi) = !emptyR r := by
  rcases hr with hr | hr
  · have h0 := hp.empty hr
    rw [hr]
    rcases h with ⟨_, rfl, _⟩ | ⟨a, b, _, _, h1, h2, h3, _, _⟩
    · rfl
    · rw [h0 a (by omega)] at h3; cases h3
  · have h1 := hr.lo; have h2 := hr.ne; have h3 := hr.hi
    have he : emptyR r = false := decide_eq_false (by omega)
    rw [he]
    obtain ⟨a, ha⟩ := Int.eq_ofNat_of_zero_le h1
    have hpa := (hp a (by omega)).2 ⟨by omega, by omega⟩
    rcases h with ⟨_, _, h⟩ | ⟨_, b, _, rfl, _⟩
    · rw [h a (by omega)] at hpa; cases hpa
    · exact decide_eq_true (by omega)
theorem Try.sizeOffA (out : Nat → Nat → Bool) : (Try.prog.info? 46).map (·.size) = some (outL out).toArray.size := by rw [List.size_toArray, outL_length]; exact Try.sizeOffR
set_option maxRecDepth 100000 in
set_option maxHeartbeats 4000000 in
theorem ragree_any (u : WV) (t : Tb) (out : Nat → Nat → Bool) (w : World) (hl : WLi w u t) (ht : OkR t) (hs : t.small) :
    Calls Try.prog 25 #[.agg #[u.cv t, u.bv t, u.rv t, u.nv t], .agg (outL out).toArray] w fun e w' => e = .returned (.bool (t.agree out)) ∧ Below w.heap.size w w' := by
  have HG : Hid (∀ X, Below w.heap.size w X → Calls Try.prog 23 #[.agg #[u.cv t, u.bv t, u.rv t, u.nv t]] X fun e w' => e = .returned (.int .i64 (t.ng : Nat)) ∧ Below X.heap.size X w') := fun X hX => rgroups_any _ t X (hl.below hX).tb hs
  have nc1 := ht.nc1; have nc4 := ht.nc4; have ng2 := ht.ng2; have ng4 := ht.ng4; have hbl := ht.nbl
  obtain ⟨m, hm⟩ : ∃ m : Nat, (t.nc : Int) - 1 = (m : Int) := ⟨t.nc - 1, by omega⟩
  have hme : m = t.nc - 1 := by omega
  have HUP : Hid (∀ X g, Below w.heap.size w X → g < t.ng → Calls Try.prog 44 #[.agg #[u.cv t, u.bv t, u.rv t, u.nv t], .int .i64 m, .int .i64 (g : Nat), .agg (outL out).toArray] X fun e w' => ∃ q, e = .returned (.agg (stA q)) ∧ IvS q (t.up out (t.nc - 1) g) ∧ Below X.heap.size X w') := fun X g hX hg => by
    rw [hme]
    exact rup_all out ht hs (c := t.nc - 1) (by omega) u g X (hl.below hX) hg
  have HIB : Hid (∀ g, g < t.ng → emptyR (t.up out (t.nc - 1) g) = true ∨ InB (t.up out (t.nc - 1) g)) := fun g hg => up_inB ht.w (ht.own out) (by omega) (by omega) (by omega) g hg
  clear hl ht hs hme
  obtain ⟨uca, ucc, uba, ubc, ura, urc, una, unc⟩ := u
  simp only [WV.cv, WV.bv, WV.rv, WV.nv] at HG HUP ⊢
  have HA0 : Hid (BF w ((w.alloc (.cells #[.slice uca t.nc ucc, .slice uba t.nb ubc, .slice ura t.nr urc, .slice una t.nn unc] 25)).alloc (.cells (outL out).toArray 46)) [(w.heap.size, #[.slice uca t.nc ucc, .slice uba t.nb ubc, .slice ura t.nr urc, .slice una t.nn unc], 25), (w.heap.size + 1, (outL out).toArray, 46)]) := BF.made2 w _ _ _ _
  have HSO := Lib.hid (Try.sizeOffA out)
  obtain ⟨OF, hOF⟩ : ∃ OF, (outL out).toArray = OF := ⟨_, rfl⟩
  rw [hOF] at HA0 HSO HUP ⊢
  clear hOF
  go_enter Try.func25, Try.ntmps25
  go_upto_region 1 with (refine wpList_box_row (o := ⟨some 3, .box 46 (.tmp 1), _, _, _, _⟩) rfl 46 (.tmp 1) rfl OF rfl ?_)
  generalize ((w.alloc (.cells #[.slice uca t.nc ucc, .slice uba t.nb ubc, .slice ura t.nr urc, .slice una t.nn unc] 25)).alloc (.cells OF 46)) = w1 at *
  go_wp2_with fail
  go_loopw [5] (fun i wr => ∃ g : Nat, g ≤ t.ng ∧ i = .int .i64 g ∧ (∀ q, q < g → emptyR (t.up out (t.nc - 1) q) = false) ∧ BF w wr [(w.heap.size, #[.slice uca t.nc ucc, .slice uba t.nb ubc, .slice ura t.nr urc, .slice una t.nn unc], 25), (w.heap.size + 1, OF, 46)]) (fun i _ => t.ng - (intOf i).toNat)
  case atStart => exact ⟨0, Nat.zero_le _, rfl, fun q h => absurd h (Nat.not_lt_zero _), HA0.out⟩
  case round =>
    clear HA0
    obtain ⟨g, hg, rfl, hall, hbf⟩ := hrel
    rename World => wx
    have HALL := Lib.hid hall; have HA := Lib.hid hbf
    clear hall hbf
    have gi : (0 : Int) ≤ (g : Int) := by omega
    have c0 := HA.out.cell (.head _) 0; have c1 := HA.out.cell (.head _) 1; have c2 := HA.out.cell (.head _) 2; have c3 := HA.out.cell (.head _) 3
    by_cases hlt : g < t.ng
    · have gj : (g : Int) < (t.ng : Int) := by omega
      go_upto_if 11 with (go_at_call 23; refine (HG.out _ HA.out.fr).mono ?_; rintro _ w2 ⟨rfl, hb2⟩; have HA2 := Lib.hid (HA.out.below hb2); clear hb2)
      clear c0 c1 c2 c3 HA
      have c0 := HA2.out.cell (.head _) 0; have c1 := HA2.out.cell (.head _) 1; have c2 := HA2.out.cell (.head _) 2; have c3 := HA2.out.cell (.head _) 3
      have HOB : Hid (w2.heap[w.heap.size + 1]? = some (.cells OF 46 (0, 0))) := (HA2.out.bk _ _ _ (.tail _ (.head _))).2
      go_wp2_with (refine wpList_load_row (o := ⟨some 21, .load 46 (.tmp 3), _, _, _, _⟩) rfl 46 (.tmp 3) rfl (w.heap.size + 1) rfl 46 OF (0, 0) _ HOB.out Try.underlying46 rfl HSO.out ?_)
      refine (HUP.out _ g HA2.out.fr hlt).mono ?_
      rintro _ w3 ⟨q, rfl, hq, hb3⟩
      have HQ := Lib.hid hq
      go_wp2_with fail
      refine (ends_any q _).mono ?_
      rintro _ w4 ⟨lo, hi, rfl, hep, hb4⟩
      have HEN := Lib.hid (ends_ne hep HQ.out (HIB.out g hlt))
      have HA4 := Lib.hid ((HA2.out.below (below_step hb3 hb4)).below (below_alloc w4 (.cells #[.int .i64 lo, .int .i64 hi] 43)))
      clear hb3 hb4 hep hq HQ HA2 HOB c0 c1 c2 c3
      cases he : emptyR (t.up out (t.nc - 1) g)
      · have hi0 : 0 ≤ hi := by have h := HEN.out; rw [he] at h; exact of_decide_eq_true h
        have HE := Lib.hid he
        clear he
        go_wp2_with fail
        go_roundw
        case rel => exact ⟨g + 1, by omega, by go_num, fun q hq => by
          rcases Nat.lt_succ_iff_lt_or_eq.1 hq with h | rfl
          · exact HALL.out q h
          · exact HE.out, HA4.out⟩
        case measure => simp [intOf]; omega
      · have hib : decide (0 ≤ hi) = false := by have h := HEN.out; rw [he] at h; exact h
        have hi0 : hi < 0 := by have h := of_decide_eq_false hib; omega
        have HE := Lib.hid he
        clear he
        go_wp2_with fail
        go_ret
        exact ⟨ret_bool (by unfold Tb.agree; rw [allB_false (p := fun g => !emptyR (t.up out (t.nc - 1) g)) (k := g) hlt (by rw [HE.out]; rfl)]), HA4.out.fr⟩
    · obtain rfl : g = t.ng := by omega
      go_wp2_with (go_at_call 23; refine (HG.out _ HA.out.fr).mono ?_; rintro _ w2 ⟨rfl, hb2⟩; have HA2 := Lib.hid (HA.out.below hb2); clear hb2)
      go_ret
      exact ⟨ret_bool (by unfold Tb.agree; rw [allB_true (fun g hg => by rw [HALL.out g hg]; rfl)]), HA2.out.fr⟩
end Go.Proofs.Ytjaoflfophcibaa
