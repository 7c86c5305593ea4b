/- Link: parts of lists of entries; the law's cut. -/
import Derived.Test.YtgbdbikjckfgmaaGreatOO
namespace Go.Proofs.YtgbdbikjckfgmaaGreat
open Go.RowKit Go.Shelf

theorem EsQ.take {Q : QT} {w : World} {a : Option Addr} {n c : Nat} {E : Nat → En} (h : EsQ Q w (.slice a n c) n E) {k : Nat} (hk : k ≤ n) (c' : Nat) : EsQ Q w (.slice a k c') k E := by
  rcases h with ⟨_, _, _, rfl⟩ | ⟨b, off, c2, e, hb, hz⟩
  · obtain rfl : k = 0 := by omega
    exact .inl ⟨_, _, rfl, rfl⟩
  · cases e
    exact .inr ⟨b, off, c', rfl, hb, fun j hj => hz j (by omega)⟩
theorem EsQ.drop {Q : QT} {w : World} {b off n c : Nat} {E : Nat → En} (h : EsQ Q w (.slice (some ⟨b, off, none⟩) n c) n E) {k : Nat} (hk : k ≤ n) (c' : Nat) : EsQ Q w (.slice (some ⟨b, off + k * 7, none⟩) (n - k) c') (n - k) fun j => E (k + j) := by
  rcases h with ⟨_, _, _, rfl⟩ | ⟨b, off, c2, e, hb, hz⟩
  · obtain rfl : k = 0 := by omega
    exact .inl ⟨_, _, rfl, rfl⟩
  · cases e
    refine .inr ⟨b, off + k * 7, c', rfl, hb, fun j hj => ?_⟩
    obtain ⟨rv, cv, nv, h1, h2⟩ := hz (k + j) (by omega)
    refine ⟨rv, cv, nv, ?_, h2⟩
    rw [show off + k * 7 + j * 7 = off + (k + j) * 7 by omega]; exact h1
theorem EsQ.cat {W : World} {base : Nat} {T : TypeId} {v : Value} {n m : Nat} {E E' : Nat → En} {V V' : V3} (how : W.ownsRow base T 7 v (n + m) (eF E V n ++ eF E' V' m)) (h1 : ∀ j, j < n → QR W (V j).1 (V j).2.1 (V j).2.2 (E j)) (h2 : ∀ j, j < m → QR W (V' j).1 (V' j).2.1 (V' j).2.2 (E' j)) : EsQ QR W v (n + m) (catE E E' n) := by
  rw [eF_append] at how
  refine EsQ.own (V := catE V V' n) how fun j hj => ?_
  by_cases c : j < n
  · rw [show catE V V' n j = V j from if_pos c, show catE E E' n j = E j from if_pos c]; exact h1 j c
  · rw [show catE V V' n j = V' (j - n) from if_neg c, show catE E E' n j = E' (j - n) from if_neg c]; exact h2 _ (by omega)
/-- A list of entries without one of them. -/
def cutE (E : Nat → En) (q j : Nat) : En := if j < q then E j else E (j + 1)
set_option maxRecDepth 100000 in
set_option maxHeartbeats 4000000 in
theorem cut_own (a : Option Addr) (n c : Nat) (E : Nat → En) (q : Nat) (w0 w : World) (hw : Below w0.heap.size w0 w) (h : EsQ QR w0 (.slice a n c) n E) (hq : q < n) (hn : n ≤ 100) (hc : n ≤ c) :
    Calls Tryz.prog 40 #[.slice a n c, .int .i64 (q : Int)] w fun e w' => ∃ b d V, e = .returned (.slice b (n - 1) d) ∧ w'.ownsRow w.heap.size 77 7 (.slice b (n - 1) d) (n - 1) (eF (cutE E q) V (n - 1)) ∧ (∀ j, j < n - 1 → QR w0 (V j).1 (V j).2.1 (V j).2.2 (cutE E q j)) ∧ Below w.heap.size w w' := by
  obtain ⟨i0, hi0, hz0, hz1, hz2⟩ := info_parts Tryz.infoREntry
  obtain ⟨b, off, _, _, _, rfl, _⟩ := h.at hq
  obtain ⟨V1, h1, s1⟩ := (h.take (k := q) (by omega) c).pick
  obtain ⟨V2, h2, s2⟩ := (h.drop (k := q + 1) (by omega) (c - (q + 1))).pick
  have HS1 := Lib.hid (fun X (hb : Below w.heap.size w X) => s1.below (fun p v hv => below_cell hb p v (below_cell hw p v hv)))
  have s3 : Src w0 (if c = q + 1 then some ⟨b, off, none⟩ else some ⟨b, off + (q + 1) * 7, none⟩) 7 (n - (q + 1)) (eF (fun j => E (q + 1 + j)) V2 (n - (q + 1))) := by
    by_cases hcq : c = q + 1
    · rw [if_pos hcq, show n - (q + 1) = 0 by omega]
      exact ⟨rfl, fun j u hu => by simp [eF] at hu⟩
    · rw [if_neg hcq]; exact s2
  have HS2 := Lib.hid (fun X (hb : Below w.heap.size w X) => s3.below (fun p v hv => below_cell hb p v (below_cell hw p v hv)))
  have HU1 := Lib.hid (eF_oneR h1)
  have HU2 := Lib.hid (eF_oneR h2)
  have HFI : Hid (∀ W v, Below w.heap.size w W → World.ownsRow W w.heap.size 77 7 v (q + (n - (q + 1))) (eF E V1 q ++ eF (fun j => E (q + 1 + j)) V2 (n - (q + 1))) → ∃ b d V, Ending.returned v = .returned (.slice b (n - 1) d) ∧ W.ownsRow w.heap.size 77 7 (.slice b (n - 1) d) (n - 1) (eF (cutE E q) V (n - 1)) ∧ (∀ j, j < n - 1 → QR w0 (V j).1 (V j).2.1 (V j).2.2 (cutE E q j)) ∧ Below w.heap.size w W) := fun W v hb how => by
    rw [eF_append, show q + (n - (q + 1)) = n - 1 by omega] at how
    have hcut : ∀ j, j < n - 1 → catE E (fun j => E (q + 1 + j)) q j = cutE E q j := fun j hj => by
      unfold catE cutE
      by_cases hj2 : j < q
      · rw [if_pos hj2, if_pos hj2]
      · rw [if_neg hj2, if_neg hj2]; show E (q + 1 + (j - q)) = _; rw [show q + 1 + (j - q) = j + 1 by omega]
    rw [eF_congr (E' := cutE E q) (V' := catE V1 V2 q) fun j hj => ⟨hcut j hj, rfl⟩] at how
    obtain ⟨a, c, rfl⟩ := own_slice' how
    refine ⟨a, c, catE V1 V2 q, rfl, how, fun j hj => ?_, hb⟩
    rw [← hcut j hj]
    by_cases c : j < q
    · rw [show catE V1 V2 q j = V1 j from if_pos c, show catE E (fun j => E (q + 1 + j)) q j = E j from if_pos c]; exact h1 j c
    · rw [show catE V1 V2 q j = V2 (j - q) from if_neg c, show catE E (fun j => E (q + 1 + j)) q j = E (q + 1 + (j - q)) from if_neg c]; exact h2 _ (by omega)
  clear h h1 h2 s1 s2 s3 hw
  generalize eF E V1 q = xo at *
  generalize eF (fun j => E (q + 1 + j)) V2 (n - (q + 1)) = xn at *
  have ki : (0 : Int) ≤ (q : Int) := by omega
  have kj : (q : Int) ≤ (c : Int) := by omega
  have kk : (q : Int) + 1 ≤ (n : Int) := by omega
  have kl : (0 : Int) ≤ (q : Int) + 1 := by omega
  have km : (n : Int) ≤ (c : Int) := by omega
  have kw : IntKind.i64.wrap ((q : Int) + 1) = (q : Int) + 1 := IntWalk.i64_in _ (by omega)
  go_enter Tryz.func40, Tryz.ntmps40
  go_upto_region 1 with fail
  have HX0 : Hid (Below w.heap.size w w.drew) := (Below.refl _ _).drew
  refine wp_region_Z (S := fun _ => True) (by kernel_rfl) trivial (fun hS => ?_)
  generalize w.drew = X at *
  refine tk [1, 2, 3, 5, 6, 7, 8] ?_
  repeat (refine tkZ (oi := ⟨_, _, _, _, _, _⟩) (v := ?_) rfl (by kernel_rfl) (by rfl) (fun _ _ _ h => h) hS ?_ ?_; rotate_left; (· intro W' hw'; go_simp; try with_reducible rfl); try simp only [Act.put, putA, putZ, putS])
  refine tk0 ?_
  refine wpAnyZ_next (rs := [0]) (by kernel_rfl) (by simp) ?_
  refine NextZ.cons (o := ⟨some 5, _, _, _, _, _⟩) rfl (fun K hK => ?_) NextZ.nil
  go_simp
  have hXs : w.heap.size ≤ X.heap.size := HX0.out.size
  have HE1 := Lib.hid (own_empty X 77 7 w.heap.size hXs)
  have HX1 := Lib.hid (HX0.out.trans ((below_alloc X (.cells #[] 77)).mono hXs))
  refine hK.out _ _ trivial (fun hS => ?_)
  clear hK K
  try simp only [Act.put, putA, putZ, putS]
  have hXs1 : (X.alloc (.cells #[] 77)).heap.size = X.heap.size + 1 := World.size_alloc _ _
  clear HX0
  generalize X.heap.size = BE at *
  generalize X.alloc (.cells #[] 77) = X1 at *
  refine wpAnyZ_next (rs := [4]) (by kernel_rfl) (by simp) ?_
  refine NextZ.cons (o := ⟨some 9, _, _, _, _, _⟩) rfl (fun K hK => ?_) NextZ.nil
  refine step_append_src X1 (by rfl) (.tmp 5) (.tmp 8) 22 (by rfl) w.heap.size 77 i0 (.agg #[.int .i64 0, .int .i64 0, .slice none 0 0, .slice none 0 0, .int .i64 0, .slice none 0 0, .int .i64 0]) 7 104 Tryz.underlying22 hi0 hz0 hz1 hz2 rfl (by decide) (.slice (some ⟨BE, 0, none⟩) 0 0) 0 [] (by rfl) HE1.out (some ⟨b, off, none⟩) q _ xo (by rfl) (HS1.out X1 HX1.out) HU1.out ?c1 ?c2 ?c3 ?_
  case c1 => unfold maxLen; omega
  case c2 => omega
  case c3 => omega
  intro v1 X2 hown hgr hat
  have HO2 := Lib.hid (own_cast hown (Nat.zero_add _) (List.nil_append _))
  have HX2 := Lib.hid (HX1.out.trans ((Fr.grown hgr).low HX1.out.size (fun q hq e => by have := own_low HE1.out e; omega)))
  clear hown hgr hat HE1 HX1
  refine hK.out _ _ trivial (fun hS => ?_)
  clear hK K
  try simp only [Act.put, putA, putZ, putS]
  obtain ⟨va, vc, rfl⟩ := own_slice' HO2.out
  refine wpAnyZ_next (rs := [9]) (by kernel_rfl) (by simp) ?_
  refine NextZ.cons (o := ⟨some 14, _, _, _, _, _⟩) rfl (fun K hK => ?_) NextZ.nil
  refine step_append_src X2 (by rfl) (.tmp 9) (.tmp 13) 22 (by rfl) w.heap.size 77 i0 (.agg #[.int .i64 0, .int .i64 0, .slice none 0 0, .slice none 0 0, .int .i64 0, .slice none 0 0, .int .i64 0]) 7 104 Tryz.underlying22 hi0 hz0 hz1 hz2 rfl (by decide) (.slice va q vc) q xo (by rfl) HO2.out (if c = q + 1 then some ⟨b, off, none⟩ else some ⟨b, off + (q + 1) * 7, none⟩) (n - (q + 1)) _ xn (by rfl) (HS2.out X2 HX2.out) HU2.out ?d1 ?d2 ?d3 ?_
  case d1 => unfold maxLen; omega
  case d2 => omega
  case d3 => exact HX2.out.size
  intro v2 X3 hown hgr hat
  have HO3 := Lib.hid hown
  have HX3 := Lib.hid (HX2.out.trans ((Fr.grown hgr).low HX2.out.size (fun q hq e => by have := own_low HO2.out e; omega)))
  clear hown hgr hat
  refine hK.out _ _ trivial (fun hS => ?_)
  clear hK K
  try simp only [Act.put, putA, putZ, putS]
  refine tk [10] ?_
  repeat (refine tkZ (oi := ⟨_, _, _, _, _, _⟩) (v := ?_) rfl (by kernel_rfl) (by rfl) (fun _ _ _ h => h) hS ?_ ?_; rotate_left; (· intro W' hw'; go_simp; try with_reducible rfl); try simp only [Act.put, putA, putZ, putS])
  refine tk0 ?_
  refine wpAnyZ_done (by kernel_rfl) ?_ _
  generalize (if c = q + 1 then some (⟨b, off, none⟩ : Addr) else some ⟨b, off + (q + 1) * 7, none⟩) = ad at *
  go_wp2_with fail
  go_ret
  exact HFI.out _ _ HX3.out HO3.out
end Go.Proofs.YtgbdbikjckfgmaaGreat
