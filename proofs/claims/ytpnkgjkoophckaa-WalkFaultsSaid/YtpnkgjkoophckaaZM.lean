/- WalkFaults: for every input the law returns true, and each argument reads afterwards as it read before. No condition. -/
import Derived.Test.YtpnkgjkoophckaaZL
namespace Go.Proofs.Ytpnkgjkoophckaa
open Go.ChangeShapes Go.WideShapes Go.ChangeAt Go.RowKit

set_option maxRecDepth 100000 in
theorem open_plan {H : Type} {enc : TypeId × Value → H} {W : World} {base : Nat} {v : Value} {d : DataW H} {p : List MemPlace} (hv : Value.okWide Try.prog W .any base 88 v) (h : DataW.Trod enc Try.prog W 0 (fun _ => true) true 88 v d p) :
    ∃ a n cap U Y, v = .slice a n cap ∧ PlIn W (.slice a n cap) n U Y ∧ n ≤ maxLen := by
  obtain ⟨a0, len0, cap0, rfl⟩ := Go.WideShapes.okWide_slice Try.underlying88 hv
  obtain ⟨fuel, hf⟩ := h
  rcases Go.Deep.open_slice Try.underlying88 hf with ⟨hcs, _⟩ | ⟨a, len, cap, m, n, D, Pl, hcs, _, hl, hm, hmm, _, hx⟩
  · simp [Value.cells] at hcs
    obtain ⟨rfl, rfl, rfl⟩ := hcs
    exact ⟨none, 0, 0, fun _ => ⟨none, 0, none, 0⟩, fun _ => ⟨0, fun _ => 0, 0, fun _ => 0⟩, rfl, ⟨.inl ⟨_, _, rfl, rfl⟩, fun k hk => by omega⟩, Nat.zero_le _⟩
  · simp [Value.cells] at hcs
    obtain ⟨rfl, rfl, rfl⟩ := hcs
    simp only [if_true] at hmm
    subst hmm
    have k : Try.prog.cellsOf 49 = 2 := by kernel_rfl
    rw [k] at hx
    have _ : Inhabited (LV × Wl) := ⟨(⟨none, 0, none, 0⟩, ⟨0, fun _ => 0, 0, fun _ => 0⟩)⟩
    obtain ⟨R, hR⟩ := Go.Deep.choose_lt (α := LV × Wl) (n := len0) (p := fun i (r : LV × Wl) => W.cells? 0 (a.add (i * 2)) 2 = some [.slice r.1.ra r.2.nl r.1.rc, .slice r.1.ca r.2.nc r.1.cc] ∧ WlIn W r.1 r.2) (fun i hi => by
      obtain ⟨cs', h1, h2⟩ := hx i (by omega)
      obtain ⟨u, y, rfl, h3, _, _⟩ := open_walkc h2 (World.cells?_some h1).2.1
      exact ⟨(u, y), h1, h3⟩)
    rcases Nat.eq_zero_or_pos len0 with rfl | hpos
    · exact ⟨some a, 0, _, fun _ => ⟨none, 0, none, 0⟩, fun _ => ⟨0, fun _ => 0, 0, fun _ => 0⟩, rfl, ⟨.inl ⟨_, _, rfl, rfl⟩, fun k hk => by omega⟩, Nat.zero_le _⟩
    · have hc0 := (World.cells?_some (hR 0 hpos).1).2.2 0 (by omega)
      obtain ⟨b, off, spot⟩ := a
      obtain rfl : spot = none := by simpa [Addr.add] using World.cell?_spot hc0
      have hc : ∀ j, j < len0 → ∀ i, i < 2 → W.cell? ⟨b, off + j * 2 + i, none⟩ = [Value.slice (R j).1.ra (R j).2.nl (R j).1.rc, .slice (R j).1.ca (R j).2.nc (R j).1.cc][i]? := fun j hj i hi => by
        have := (World.cells?_some (hR j hj).1).2.2 i hi
        rwa [Go.WideShapes.add_plain, Go.WideShapes.add_plain] at this
      have hbs : b < W.heap.size := World.block_lt_of_cell? W ⟨b, off + 0 * 2 + 0, none⟩ (hc 0 hpos 0 (by omega))
      exact ⟨some ⟨b, off, none⟩, len0, _, fun j => (R j).1, fun j => (R j).2, rfl, ⟨.inr ⟨b, off, _, rfl, hbs, fun j hj => ⟨hc j hj 0 (by omega), hc j hj 1 (by omega)⟩⟩, fun j hj => (hR j hj).2⟩, by omega⟩
set_option maxRecDepth 100000 in
theorem walkFaults_lifted (os : Os) (started : os.Started) (H : Type) (enc : TypeId × Value → H) :
    ReturnsInHanded {} Try.checked os 14 .any (Rows.walkFaultsSpec.pre6 enc Try.prog Try.f14 Rows.walkFaultsRow.domain false) (Rows.walkFaultsSpec.post enc Try.prog Try.f14 false true false false) := by
  refine returnsInHanded_of_change (C := Try.checked) Try.own started (by kernel_rfl) Try.func14
    (ChangeSpec.witness6 (enc := enc) (C := Try.checked) false ⟨#[], #[.agg #[.slice none 0 0, .slice none 0 0], .slice none 0 0, .int .i64 0, .int .i64 0], []⟩ 8 (by kernel_rfl) (by kernel_rfl) (by kernel_rfl) (by kernel_rfl)) ?_
  intro W base args ds gs before hval0 hW hcnd _
  have hval : ∀ (j : Nat) t v, Try.f14.params[j]? = some t → args[j]? = some v → Value.okWide Try.prog W .any base t v := hval0
  have hW' := hW
  obtain ⟨p, q, hA0, hV, hpq, hfz, hnd⟩ := hW
  have hA : DataW.TrodAll enc Try.prog W 0 (fun _ => true) true Try.f14.params.toList args.toList ds p := hA0
  rw [Try.params14] at hA hval
  obtain ⟨v0, v1, v2, v3, d0, d1, d2, d3, p0, p1, p2, p3, rfl, rfl, rfl, h0, h1, h2, h3⟩ := trodAll_four hA
  obtain ⟨u0, m0, rfl, hm0⟩ := open_map (hval 0 25 v0 rfl rfl) h0
  obtain ⟨a1, n1, c1, U1, Y1, rfl, hp1, hn1⟩ := open_plan (hval 1 88 v1 rfl rfl) h1
  obtain ⟨x2, rfl, rfl, rfl, hx2⟩ := open_int Try.underlying3 (hval 2 3 v2 rfl rfl) h2
  have b2 := bounds_i64 hx2
  obtain ⟨x3, rfl, rfl, rfl, hx3⟩ := open_int Try.underlying3 (hval 3 3 v3 rfl rfl) h3
  have b3 := bounds_i64 hx3
  refine (walkFaults_walk u0 m0 a1 n1 c1 U1 Y1 x2 x3 W hm0 hp1).mono fun e W' ⟨he, hb⟩ => ?_
  subst he
  exact ⟨_, rfl, law_post rfl rfl (by rw [Try.params14]; simp only [List.mem_cons, List.not_mem_nil, or_false]; rintro t (rfl | rfl | rfl | rfl) <;> exact ⟨by kernel_rfl, of_decide_eq_true (by kernel_rfl)⟩) (fun _ => rfl) hW' hb⟩

theorem walkFaults_holds : Rows.WalkFaultsSaid :=
  OpenClaim.holds_of_wide 14 Try.f14 rfl rfl rfl rfl rfl rfl rfl ⟨rfl, rfl, rfl, rfl, rfl⟩ rfl rfl rfl rfl rfl (by kernel_rfl) Try.func14 (by kernel_rfl)
    (of_decide_eq_true (by kernel_rfl)) (by unfold Func.isWrapper; first | (rw [if_pos (by decide +kernel)]; kernel_rfl) | (rw [if_neg (by decide +kernel)]; exact ⟨rfl, rfl⟩))
    (fun os started H enc _ => walkFaults_lifted os started H enc)
#print axioms walkFaults_holds
end Go.Proofs.Ytpnkgjkoophckaa
