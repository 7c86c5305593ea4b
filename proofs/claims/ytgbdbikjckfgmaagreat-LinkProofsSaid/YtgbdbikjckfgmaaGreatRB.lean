/- Link: lists of numbers as arguments, with their bounds; plain: what each largest matching has. -/
import Derived.Test.YtgbdbikjckfgmaaGreatOJ
import Derived.Test.YtgbdbikjckfgmaaGreatQA
namespace Go.Proofs.YtgbdbikjckfgmaaGreat
open Go.RowKit Go.Shelf

set_option maxRecDepth 100000 in
theorem open_intl64 {H : Type} {enc : TypeId × Value → H} {W : World} {fuel : Nat} {v : Value} {x : DataW H × List MemPlace} (h : DataW.trod enc Tryz.prog W 0 (fun _ => true) true fuel 47 [v] = some x) :
    ∃ a n cap z, v = .slice a n cap ∧ IntsIn W (.slice a n cap) n z ∧ n ≤ cap ∧ n ≤ maxLen ∧ ∀ j, j < n → rng64 (z j) := by
  rcases Go.Deep.open_slice Tryz.underlying47 h with ⟨hcs, _⟩ | ⟨a, len, cap, m, n, D, Pl, hcs, _, hl, hm, hmm, _, hx⟩
  · simp at hcs; subst hcs
    exact ⟨none, 0, 0, fun _ => 0, rfl, .inl ⟨_, _, rfl, rfl⟩, Nat.zero_le _, Nat.zero_le _, fun j hj => absurd hj (Nat.not_lt_zero j)⟩
  · simp at hcs; subst hcs
    simp only [if_true] at hmm
    subst hmm
    have k : Tryz.prog.cellsOf 3 = 1 := by kernel_rfl
    rw [k] at hx
    obtain ⟨R, hR⟩ := Go.Deep.choose_lt (α := Int) (n := len) (p := fun i (r : Int) => W.cells? 0 (a.add (i * 1)) 1 = some [.int .i64 r] ∧ rng64 r) (fun i hi => by
      obtain ⟨cs', h1, h2⟩ := hx i (by omega)
      obtain ⟨f, e0, _, e2⟩ := DataW.trod_int Tryz.underlying3 h2
      subst e0
      exact ⟨f, h1, e2⟩)
    rcases Nat.eq_zero_or_pos len with rfl | hpos
    · exact ⟨some a, 0, m, fun _ => 0, rfl, .inl ⟨_, _, rfl, rfl⟩, Nat.zero_le _, Nat.zero_le _, fun j hj => absurd hj (Nat.not_lt_zero j)⟩
    · have hc0 := (World.cells?_some (hR 0 hpos).1).2.2 0 (by omega)
      obtain ⟨b, off, spot⟩ := a
      obtain rfl : spot = none := by simpa [Addr.add] using World.cell?_spot hc0
      have hc : ∀ j, j < len → W.cell? ⟨b, off + j * 1 + 0, none⟩ = some (.int .i64 (R j)) := fun j hj => by
        have := (World.cells?_some (hR j hj).1).2.2 0 (by omega)
        rwa [Go.WideShapes.add_plain, Go.WideShapes.add_plain] at this
      have hbs : b < W.heap.size := World.block_lt_of_cell? W ⟨b, off + 0 * 1 + 0, none⟩ (hc 0 hpos)
      refine ⟨some ⟨b, off, none⟩, len, m, R, rfl, .inr ⟨b, off, _, rfl, hbs, fun j hj => ?_⟩, by omega, by omega, fun j hj => (hR j hj).2⟩
      have h := hc j hj; rw [Nat.mul_one, Nat.add_zero] at h; exact h
set_option maxRecDepth 100000 in
theorem open_ints64 {H : Type} {enc : TypeId × Value → H} {W : World} {base : Nat} {v : Value} {d : DataW H} {p : List MemPlace} (hv : Value.okWide Tryz.prog W .any base 47 v) (h : DataW.Trod enc Tryz.prog W 0 (fun _ => true) true 47 v d p) :
    ∃ a n cap z, v = .slice a n cap ∧ IntsIn W (.slice a n cap) n z ∧ n ≤ maxLen ∧ ∀ j, j < n → rng64 (z j) := by
  obtain ⟨a0, len, cap, rfl⟩ := Go.WideShapes.okWide_slice Tryz.underlying47 hv
  obtain ⟨fuel, hf⟩ := h
  obtain ⟨a, n, c, z, h1, h2, _, h4, h5⟩ := open_intl64 (by simpa [Value.cells] using hf)
  exact ⟨a, n, c, z, h1, h2, h4, h5⟩
theorem rng64_small {x : Int} (h1 : -1000000 ≤ x) (h2 : x ≤ 1000000) : rng64 x := by
  unfold rng64
  simp [Lit.wf, IntKind.min, IntKind.max, IntKind.signed, IntKind.bits]
  omega
theorem IntsIn.ofRow {W : World} {base : Nat} {T : TypeId} {v : Value} {n : Nat} {z : Nat → Int} (h : W.ownsRow base T 1 v n (iL z n)) : IntsIn W v n z := by
  obtain ⟨a, c, rfl⟩ := own_slice' h
  rcases Nat.eq_zero_or_pos n with rfl | hn
  · exact .inl ⟨a, c, rfl, rfl⟩
  · obtain ⟨g, rfl⟩ := own_somep h hn
    refine .inr ⟨g, 0, c, rfl, own_lt h rfl, fun j hj => ?_⟩
    have e1 := h.cells (g := g) rfl _ _ (iL_get z hj)
    rw [addr_add] at e1
    exact e1
/-- A copy of a list. -/
theorem listW (a : Option Addr) (n c : Nat) (z : Nat → Int) (w : World) (hn : n ≤ 100000) (h : IntsIn w (.slice a n c) n z) : ∀ X, Below w.heap.size w X → Calls Tryz.prog 49 #[.slice a n c] X fun e w' => ∃ b d, e = .returned (.slice b n d) ∧ IntsIn w' (.slice b n d) n z ∧ Below X.heap.size X w' := fun X hX =>
  (listC_any a n c z X hn (h.below hX)).mono fun _ _ ⟨b, d, e1, how, hb⟩ => ⟨b, d, e1, IntsIn.ofRow how, hb⟩
theorem OkF.each {f : Fl} (h : OkF f) {n : Nat} {z : Nat → Int} (hm : f.isM n z = true) (hc : (f.most : Int) ≤ (cntM z n : Int)) : n = f.no ∧ (∀ k : Nat, k < n → 0 ≤ z k → f.qP k (z k).toNat = true ∧ (z k).toNat < f.nw) ∧ ∀ i k : Nat, f.qS i k = true → z i = (k : Int) := by
  have hle := h.isM_le hm
  obtain ⟨e, l, ml, hl, hi⟩ := h.turned hm
  have hlm : cntL 8 l = f.most := by omega
  refine ⟨e, fun k hk h0 => ?_, fun i k hs => ?_⟩
  · obtain ⟨kk, hkk⟩ : ∃ kk : Nat, z k = kk := ⟨(z k).toNat, by omega⟩
    have h1 := (hi k kk).1 ⟨hk, hkk⟩
    have hg := (ml.ok kk (by rw [h1]; omega)).2
    rw [h1, Int.toNat_natCast] at hg
    rw [hkk, Int.toNat_natCast]
    refine ⟨?_, (Fl.g_in hg).2⟩
    unfold Fl.qP
    rw [hg, (h.poss_iff hg).2 ⟨l, ml, hlm, h1⟩]; rfl
  · unfold Fl.qS at hs
    rw [Bool.and_eq_true] at hs
    exact ((hi i k).2 (h.sure_iff.1 hs.2 l ml hlm)).2
end Go.Proofs.YtgbdbikjckfgmaaGreat
