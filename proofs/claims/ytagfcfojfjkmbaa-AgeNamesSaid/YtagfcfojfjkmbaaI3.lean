/- AgeMore: for every input the law returns true, and each argument reads afterwards as it read before. No condition. -/
import Derived.Test.YtagfcfojfjkmbaaI2
import Derived.SizedLaws
namespace Go.Proofs.Ytagfcfojfjkmbaa
open Go.ChangeShapes Go.WideShapes Go.ChangeAt Go.RowKit

theorem Try.bytesRec : Try.prog.bytesOf 59 = 24 := by kernel_rfl
set_option maxRecDepth 100000 in
theorem rcs_reach {H : Type} {enc : TypeId × Value → H} {W : World} {fuel n cap : Nat} {a : Option Addr} {x : DataW H × List MemPlace} (h : DataW.trod enc Try.prog W 0 (fun _ => true) true fuel 34 [.slice a n cap] = some x)
    (hs : ∀ q ∈ x.1.weights Try.prog 34, q ≤ reachBytes) : n * 24 ≤ reachBytes := by
  rcases Go.Deep.open_slice Try.underlying34 h with ⟨hcs, _⟩ | ⟨a', len, cap', m, n', D, Pl, hcs, _, hl, hm, hmm, hx, _⟩
  · simp at hcs
    obtain ⟨_, rfl, _⟩ := hcs
    omega
  · simp at hcs
    obtain ⟨_, rfl, rfl⟩ := hcs
    subst hx
    have := hs ((((List.range n).map D).length + ((List.range (m - n)).map fun j => D (n + j)).length) * Try.prog.bytesOf 59) (by simp only [DataW.weights, Try.underlying34, List.mem_cons, true_or])
    rw [Try.bytesRec] at this
    simp only [List.length_map, List.length_range] at this
    omega
set_option maxRecDepth 100000 in
theorem person_reach {H : Type} {enc : TypeId × Value → H} {W : World} {n cap : Nat} {a : Option Addr} {v0 v1 v2 : Value} {d : DataW H} {p : List MemPlace} (h : DataW.Trod enc Try.prog W 0 (fun _ => true) true 36 (.agg #[v0, v1, v2, .slice a n cap]) d p)
    (hs : ∀ q ∈ d.weights Try.prog 36, q ≤ reachBytes) : n * 24 ≤ reachBytes := by
  obtain ⟨fuel, hf⟩ := h
  obtain ⟨y0, y1, y2, m, e, _, h0, h1, h2⟩ := Go.Deep.trod_struct3 Try.underlying36 hf
  have k34 : Try.prog.cellsOf 34 = 1 := by kernel_rfl
  simp only [Value.cells, k34, List.drop, List.take] at h2
  have ed : d = .agg [y0.1, y1.1, y2.1] := congrArg Prod.fst e
  subst ed
  refine rcs_reach h2 fun q hq => hs q ?_
  simp only [DataW.weights, Try.underlying36]
  show q ∈ DataW.weightsEach Try.prog [32, 33, 34] [y0.1, y1.1, y2.1]
  simp only [DataW.weightsEach, List.mem_append]
  exact .inr (.inr (.inl hq))

set_option maxRecDepth 100000 in
theorem open_rec {H : Type} {enc : TypeId × Value → H} {W : World} {base : Nat} {v : Value} {d : DataW H} {p : List MemPlace} (hv : Value.okWide Try.prog W .any base 59 v) (h : DataW.Trod enc Try.prog W 0 (fun _ => true) true 59 v d p) :
    ∃ r : Rc, v = .agg #[.int .i64 r.day, .int .i64 r.rule, .int .i64 r.num] := by
  obtain ⟨cs, rfl, hsz⟩ := okWide_struct Try.underlying59 hv
  obtain ⟨fuel, hf⟩ := h
  obtain ⟨r, hr⟩ := open_rc hf
  refine ⟨r, congrArg Value.agg ?_⟩
  exact Array.toList_inj.1 hr

set_option maxRecDepth 100000 in
theorem ageMore_lifted (os : Os) (started : os.Started) (H : Type) (enc : TypeId × Value → H) :
    ReturnsInHanded {} Try.checked os 6 .any (Rows.ageMoreSpec.pre6 enc Try.prog Try.f6 Rows.ageMoreRow.domain false) (Rows.ageMoreSpec.post enc Try.prog Try.f6 false true false false) := by
  refine returnsInHanded_of_change_sized (C := Try.checked) Try.own started (by kernel_rfl) Try.func6
    (ChangeSpec.witness6 (enc := enc) (C := Try.checked) false ⟨#[], #[.agg #[.int .i64 0, .int .i64 0, .slice none 0 0, .slice none 0 0], .agg #[.int .i64 0, .int .i64 0, .int .i64 0]], []⟩ 8 (by kernel_rfl) (by kernel_rfl) (by kernel_rfl) (by kernel_rfl)) ?_
  intro W base args ds gs before hval0 hW _ hsz0 _
  have hsz : (DataW.weightsEach Try.prog (Try.f6.params.toList ++ Rows.ageMoreSpec.plain.varTypes Try.prog) (ds ++ gs)).all (· ≤ reachBytes) = true := hsz0
  have hval : ∀ (j : Nat) t v, Try.f6.params[j]? = some t → args[j]? = some v → Value.okWide Try.prog W .any base t v := hval0
  have hW' := hW
  obtain ⟨p, q, hA0, hV, hpq, hfz, hnd⟩ := hW
  have hA : DataW.TrodAll enc Try.prog W 0 (fun _ => true) true Try.f6.params.toList args.toList ds p := hA0
  rw [Try.params6] at hA hval hsz
  obtain ⟨v0, v1, d0, d1, p0, p1, rfl, rfl, rfl, h0, h1⟩ := trodAll_two hA
  obtain ⟨P, hP, _, _⟩ := open_person (hval 0 36 v0 rfl rfl) h0
  obtain ⟨r, rfl⟩ := open_rec (hval 1 59 v1 rfl rfl) h1
  have hP' := hP
  obtain ⟨rv, cv, rfl, _, hc⟩ := hP'
  obtain ⟨ca, cc, rfl⟩ := hc.slice
  have hr : P.nc * 24 ≤ reachBytes := person_reach h0 fun x hx => by
    have := List.all_eq_true.1 hsz x (DataW.weights_mem_each (j := 0) (t := 36) (d := d0) rfl rfl x hx)
    simpa using this
  refine (ageMore_walk _ P r W hP hr).mono fun e W' ⟨he, hb⟩ => ?_
  subst he
  exact ⟨_, rfl, law_post rfl rfl (by rw [Try.params6]; simp only [List.mem_cons, List.not_mem_nil, or_false]; rintro t (rfl | rfl) <;> exact ⟨by kernel_rfl, of_decide_eq_true (by kernel_rfl)⟩) (fun _ => rfl) hW' hb⟩

theorem ageMore_holds : Rows.AgeMoreSaid :=
  OpenClaim.holds_of_wide 6 Try.f6 rfl rfl rfl rfl rfl rfl rfl ⟨rfl, rfl, rfl, rfl, rfl⟩ rfl rfl rfl rfl rfl (by kernel_rfl) Try.func6 (by kernel_rfl)
    (of_decide_eq_true (by kernel_rfl)) (by unfold Func.isWrapper; first | (rw [if_pos (by decide +kernel)]; kernel_rfl) | (rw [if_neg (by decide +kernel)]; exact ⟨rfl, rfl⟩))
    (fun os started H enc _ => ageMore_lifted os started H enc)
#print axioms ageMore_holds
end Go.Proofs.Ytagfcfojfjkmbaa
