/- LinkMore: for every input the law returns true, and each argument reads afterwards as it read before. No condition. -/
import Derived.Test.YtgbdbikjckfgmaaGreatOW
namespace Go.Proofs.YtgbdbikjckfgmaaGreat
open Go.ChangeShapes Go.WideShapes Go.ChangeAt Go.RowKit

theorem linkMore_walk (x : FV) (f : Fl) (ee : En) (erv ecv env : Value) (ga gb : Int) (b : Bool) (w : World) (h : FlLaw w x f) (he : QR w erv ecv env ee) (hr : f.no * 104 ≤ reachBytes ∧ f.nw * 104 ≤ reachBytes ∧ f.nm * 16 ≤ reachBytes) :
    Calls Tryz.prog 11 #[.agg #[.slice x.oa f.no x.oc, .slice x.na f.nw x.nc, .slice x.ma f.nm x.mc], .agg #[.int .i64 ee.p.lo, .int .i64 ee.p.hi, erv, ecv, .int .i64 ee.sex, env, .int .i64 ee.pl], .agg #[.int .i64 ga, .int .i64 gb], .bool b] w fun e w' => e = .returned (.bool true) ∧ Below w.heap.size w w' := by
  cases b
  · exact linkMore_new x f ee erv ecv env ga gb w h.l he hr.1 hr.2.1 hr.2.2
  · exact linkMore_old x f ee erv ecv env ga gb w h.l he hr.1 hr.2.1 hr.2.2
set_option maxRecDepth 100000 in
theorem linkMore_lifted (os : Os) (started : os.Started) (H : Type) (enc : TypeId × Value → H) :
    ReturnsInHanded {} Tryz.checked os 11 .any (Rows.linkMoreSpec.pre6 enc Tryz.prog Tryz.f11 Rows.linkMoreRow.domain false) (Rows.linkMoreSpec.post enc Tryz.prog Tryz.f11 false true false false) := by
  refine returnsInHanded_of_change_sized (C := Tryz.checked) Tryz.own started (by kernel_rfl) Tryz.func11
    (ChangeSpec.witness6 (enc := enc) (C := Tryz.checked) false ⟨#[], #[.agg #[.slice none 0 0, .slice none 0 0, .slice none 0 0], .agg #[.int .i64 0, .int .i64 0, .slice none 0 0, .slice none 0 0, .int .i64 0, .slice none 0 0, .int .i64 0], .agg #[.int .i64 0, .int .i64 0], .bool false], []⟩ 8 (by kernel_rfl) (by kernel_rfl) (by kernel_rfl) (by kernel_rfl)) ?_
  intro W base args ds gs before hval0 hW _ hsz0 _
  have hsz : (DataW.weightsEach Tryz.prog (Tryz.f11.params.toList ++ Rows.linkMoreSpec.plain.varTypes Tryz.prog) (ds ++ gs)).all (· ≤ reachBytes) = true := hsz0
  have hval : ∀ (j : Nat) t v, Tryz.f11.params[j]? = some t → args[j]? = some v → Value.okWide Tryz.prog W .any base t v := hval0
  have hW' := hW
  obtain ⟨p, q, hA0, hV, hpq, hfz, hnd⟩ := hW
  have hA : DataW.TrodAll enc Tryz.prog W 0 (fun _ => true) true Tryz.f11.params.toList args.toList ds p := hA0
  rw [Tryz.params11] at hA hval hsz
  obtain ⟨v0, v1, v2, v3, d0, d1, d2, d3, p0, p1, p2, p3, rfl, rfl, rfl, h0, h1, h2, h3⟩ := trodAll_four hA
  obtain ⟨u0, f0, rfl, hm0⟩ := open_file (hval 0 25 v0 rfl rfl) h0
  obtain ⟨e1, rv1, cv1, nv1, rfl, he1⟩ := open_entryV (hval 1 77 v1 rfl rfl) h1
  obtain ⟨r2, rfl⟩ := open_moveV (hval 2 63 v2 rfl rfl) h2
  obtain ⟨b3, rfl⟩ := Go.WideShapes.okWide_bool Tryz.underlying4 (hval 3 4 v3 rfl rfl)
  have hr := file_reach h0 fun x hx => by
    have := List.all_eq_true.1 hsz x (DataW.weights_mem_each (j := 0) (t := 25) (d := d0) rfl rfl x hx)
    simpa using this
  refine (linkMore_walk u0 f0 e1 rv1 cv1 nv1 r2.1 r2.2 b3 W hm0 he1 hr).mono fun e W' ⟨he, hb⟩ => ?_
  subst he
  exact ⟨_, rfl, law_post rfl rfl (by rw [Tryz.params11]; simp only [List.mem_cons, List.not_mem_nil, or_false]; rintro t (rfl | rfl | rfl | rfl) <;> exact ⟨by kernel_rfl, of_decide_eq_true (by kernel_rfl)⟩) (fun _ => rfl) hW' hb⟩

theorem linkMore_holds : Rows.LinkMoreSaid :=
  OpenClaim.holds_of_wide 11 Tryz.f11 rfl rfl rfl rfl rfl rfl rfl ⟨rfl, rfl, rfl, rfl, rfl⟩ rfl rfl rfl rfl rfl (by kernel_rfl) Tryz.func11 (by kernel_rfl)
    (of_decide_eq_true (by kernel_rfl)) (by unfold Func.isWrapper; first | (rw [if_pos (by decide +kernel)]; kernel_rfl) | (rw [if_neg (by decide +kernel)]; exact ⟨rfl, rfl⟩))
    (fun os started H enc _ => linkMore_lifted os started H enc)
#print axioms linkMore_holds
end Go.Proofs.YtgbdbikjckfgmaaGreat
