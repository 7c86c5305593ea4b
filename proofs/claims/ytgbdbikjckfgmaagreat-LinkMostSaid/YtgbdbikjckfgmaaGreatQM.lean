/- LinkMost: for every input the law returns true, and each argument reads afterwards as it read before. No condition. -/
import Derived.Test.YtgbdbikjckfgmaaGreatQL
namespace Go.Proofs.YtgbdbikjckfgmaaGreat
open Go.ChangeShapes Go.WideShapes Go.ChangeAt Go.RowKit

set_option maxRecDepth 100000 in
theorem linkMost_lifted (os : Os) (started : os.Started) (H : Type) (enc : TypeId × Value → H) :
    ReturnsInHanded {} Tryz.checked os 17 .any (Rows.linkMostSpec.pre6 enc Tryz.prog Tryz.f17 Rows.linkMostRow.domain false) (Rows.linkMostSpec.post enc Tryz.prog Tryz.f17 false true false false) := by
  refine returnsInHanded_of_change (C := Tryz.checked) Tryz.own started (by kernel_rfl) Tryz.func17
    (ChangeSpec.witness6 (enc := enc) (C := Tryz.checked) false ⟨#[], #[.agg #[.slice none 0 0, .slice none 0 0, .slice none 0 0], .slice none 0 0, .slice none 0 0, .slice none 0 0], []⟩ 8 (by kernel_rfl) (by kernel_rfl) (by kernel_rfl) (by kernel_rfl)) ?_
  intro W base args ds gs before hval0 hW hcnd _
  have hval : ∀ (j : Nat) t v, Tryz.f17.params[j]? = some t → args[j]? = some v → Value.okWide Tryz.prog W .any base t v := hval0
  have hW' := hW
  obtain ⟨p, q, hA0, hV, hpq, hfz, hnd⟩ := hW
  have hA : DataW.TrodAll enc Tryz.prog W 0 (fun _ => true) true Tryz.f17.params.toList args.toList ds p := hA0
  rw [Tryz.params17] at hA hval
  obtain ⟨v0, v1, v2, v3, d0, d1, d2, d3, p0, p1, p2, p3, rfl, rfl, rfl, h0, h1, h2, h3⟩ := trodAll_four hA
  obtain ⟨u0, f0, rfl, hm0⟩ := open_file (hval 0 25 v0 rfl rfl) h0
  obtain ⟨a1, n1, c1, z1, rfl, hz1, hn1, hr1⟩ := open_ints64 (hval 1 47 v1 rfl rfl) h1
  obtain ⟨a2, n2, c2, z2, rfl, hz2, hn2, hr2⟩ := open_ints64 (hval 2 47 v2 rfl rfl) h2
  obtain ⟨a3, n3, c3, z3, rfl, hz3, hn3, hr3⟩ := open_ints64 (hval 3 47 v3 rfl rfl) h3
  refine (linkMost_walk u0 f0 a1 a2 a3 n1 c1 n2 c2 n3 c3 z1 z2 z3 W hm0 hz1 hz2 hz3 hr1).mono fun e W' ⟨he, hb⟩ => ?_
  subst he
  exact ⟨_, rfl, law_post rfl rfl (by rw [Tryz.params17]; simp only [List.mem_cons, List.not_mem_nil, or_false]; rintro t (rfl | rfl | rfl | rfl) <;> exact ⟨by kernel_rfl, of_decide_eq_true (by kernel_rfl)⟩) (fun _ => rfl) hW' hb⟩

theorem linkMost_holds : Rows.LinkMostSaid :=
  OpenClaim.holds_of_wide 17 Tryz.f17 rfl rfl rfl rfl rfl rfl rfl ⟨rfl, rfl, rfl, rfl, rfl⟩ rfl rfl rfl rfl rfl (by kernel_rfl) Tryz.func17 (by kernel_rfl)
    (of_decide_eq_true (by kernel_rfl)) (by unfold Func.isWrapper; first | (rw [if_pos (by decide +kernel)]; kernel_rfl) | (rw [if_neg (by decide +kernel)]; exact ⟨rfl, rfl⟩))
    (fun os started H enc _ => linkMost_lifted os started H enc)
#print axioms linkMost_holds
end Go.Proofs.YtgbdbikjckfgmaaGreat
