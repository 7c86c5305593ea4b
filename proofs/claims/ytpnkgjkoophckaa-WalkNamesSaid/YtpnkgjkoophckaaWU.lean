/- Walk: way. -/
import Derived.Test.YtpnkgjkoophckaaWT
namespace Go.Proofs.Ytpnkgjkoophckaa
open Go.RowKit Go.Shelf Go.Maps

/-- The places of a quickest way to b. -/
def wayF (m : Mp) (b : Nat) : Nat → Nat → List Nat
  | 0, a => [a]
  | k + 1, a => if a = b then [a] else a :: wayF m b k (fsA m a b).toNat
def wayL (m : Mp) (a b : Nat) : List Nat := wayF m b (tmA m a b).toNat a
theorem way_first {m : Mp} (ok : OkM m) {a b : Nat} (ha : a < m.nw) (hb : b < m.nw) (hne : a ≠ b) (h : tmA m a b < 1048576) : ∃ f : Nat, ∃ hh, fsA m a b = f ∧ f < m.nw ∧ Ed m a f hh ∧ tmA m a b = hh + tmA m f b ∧ 1 ≤ hh := by
  obtain ⟨f, hh, h1, h2, h3⟩ := (dst_atlas ok hb).first a ha hne h
  have h4 := h2.bd ok
  exact ⟨f, hh, h1, h4.2.1, h2, h3, h4.2.2.2.1⟩
theorem wayF_eq {m : Mp} (ok : OkM m) {b : Nat} (hb : b < m.nw) : ∀ (k a : Nat), a < m.nw → tmA m a b < 1048576 → (tmA m a b).toNat ≤ k → wayF m b k a = wayL m a b
  | 0, a, _, _, hk => by
    unfold wayL
    rw [show (tmA m a b).toNat = 0 from by omega]
  | k + 1, a, ha, hf, hk => by
    have hbd := tmA_bd ok ha hb
    unfold wayL
    by_cases e : a = b
    · subst e; rw [tmA_self ok ha]; simp [wayF]
    · obtain ⟨f, hh, h1, h2, h3, h4, h5⟩ := way_first ok ha hb e hf
      have hfb := tmA_bd ok h2 hb
      obtain ⟨j, hj⟩ : ∃ j, (tmA m a b).toNat = j + 1 := ⟨(tmA m a b).toNat - 1, by omega⟩
      rw [hj]
      simp only [wayF, if_neg e]
      rw [h1, Int.toNat_natCast, wayF_eq ok hb k f h2 (by omega) (by omega), wayF_eq ok hb j f h2 (by omega) (by omega)]
termination_by k => k
decreasing_by all_goals omega
theorem wayL_self {m : Mp} (ok : OkM m) {a : Nat} (ha : a < m.nw) : wayL m a a = [a] := by
  unfold wayL; rw [tmA_self ok ha]; rfl
theorem wayL_step {m : Mp} (ok : OkM m) {a b : Nat} (ha : a < m.nw) (hb : b < m.nw) (hne : a ≠ b) (h : tmA m a b < 1048576) : ∃ f : Nat, ∃ hh, fsA m a b = f ∧ f < m.nw ∧ Ed m a f hh ∧ tmA m a b = hh + tmA m f b ∧ 1 ≤ hh ∧ wayL m a b = a :: wayL m f b := by
  obtain ⟨f, hh, h1, h2, h3, h4, h5⟩ := way_first ok ha hb hne h
  refine ⟨f, hh, h1, h2, h3, h4, h5, ?_⟩
  have hfb := tmA_bd ok h2 hb
  have hbd := tmA_bd ok ha hb
  have e : wayL m a b = wayF m b (tmA m a b).toNat a := rfl
  rw [e]
  obtain ⟨j, hj⟩ : ∃ j, (tmA m a b).toNat = j + 1 := ⟨(tmA m a b).toNat - 1, by omega⟩
  rw [hj]
  simp only [wayF, if_neg hne]
  rw [h1, Int.toNat_natCast, wayF_eq ok hb j f h2 (by omega) (by omega)]
theorem nL_snoc (P : List Nat) (c : Nat) : nL (P ++ [c]) = nL P ++ [.int .i64 (c : Int)] := by simp [nL]
set_option maxRecDepth 100000 in
set_option maxHeartbeats 8000000 in
theorem way_any {m : Mp} (ok : OkM m) (x : MV) (A bm a b n : Nat) (ha : a < m.nw) (hb : b < m.nw) (hf : tmA m a b < 1048576) (w : World) (hw : At w A bm n x m) :
    Calls Try.prog 79 #[.pointer (some ⟨A, 0, none⟩), .int .i64 (a : Int), .int .i64 (b : Int)] w fun e w' => ∃ g c, e = .returned (.slice (some ⟨g, 0, none⟩) (wayL m a b).length c) ∧ w'.ownsRow w.heap.size 3 1 (.slice (some ⟨g, 0, none⟩) (wayL m a b).length c) (wayL m a b).length (nL (wayL m a b)) ∧ Below w.heap.size w w' := by
  obtain ⟨i0, hi0, hz0, hz1, hz2⟩ := info_parts Try.infoInt
  have hnw := ok.nw
  have HST := Lib.hid (fun X (hX : Below w.heap.size w X) c (hc : c < m.nw) => (hw.below hX).fs hc hb hnw.2)
  have HWS := Lib.hid (fun c (hc : c < m.nw) (hne : c ≠ b) (h : tmA m c b < 1048576) => wayL_step ok hc hb hne h)
  have HSE := Lib.hid (wayL_self ok hb)
  have HBD := Lib.hid (fun c (hc : c < m.nw) => tmA_bd ok hc hb)
  have bi : (0 : Int) ≤ (b : Int) := by omega
  have b8 : (b : Int) < 8 := by omega
  obtain ⟨L, HL⟩ : ∃ L, Hid (wayL m a b = L) := ⟨_, rfl⟩
  rw [HL.out]
  clear hw ok
  have HO0 : Hid ((w.alloc (.cells #[.int .i64 (a : Int)] 3)).ownsRow w.heap.size 3 1 (.slice (some ⟨w.heap.size, 0, none⟩) 1 1) 1 (nL ([] ++ [a]))) := own_new w 3 1 1 w.heap.size #[.int .i64 (a : Int)] (Nat.le_refl _) rfl (by unfold maxLen; omega)
  have HB0 := Lib.hid (below_alloc w (.cells #[.int .i64 (a : Int)] 3))
  go_enter Try.func79, Try.ntmps79
  go_wp2_with fail
  generalize w.alloc (.cells #[.int .i64 (a : Int)] 3) = w0 at *
  go_loopw [1, 7] (fun i v wr => ∃ c P g cc, i = .int .i64 (c : Nat) ∧ v = .slice (some ⟨g, 0, none⟩) (P.length + 1) cc ∧ c < m.nw ∧ tmA m c b ≤ tmA m a b ∧ P ++ wayL m c b = L ∧ (P.length : Int) + tmA m c b ≤ tmA m a b ∧ Below w.heap.size w wr ∧ wr.ownsRow w.heap.size 3 1 (.slice (some ⟨g, 0, none⟩) (P.length + 1) cc) (P.length + 1) (nL (P ++ [c]))) (fun i _ _ => (tmA m (intOf i).toNat b).toNat)
  case atStart => exact ⟨a, [], _, _, rfl, rfl, ha, Int.le_refl _, HL.out, by simp, HB0.out, HO0.out⟩
  case round =>
    clear HO0 HB0
    obtain ⟨c, P, g, cc, rfl, rfl, hc, hle, hPL, hlen, hbl, how⟩ := hrel
    rename World => wx
    have HB1 := Lib.hid hbl; have HO1 := Lib.hid how; have HPL := Lib.hid hPL
    clear hbl how hPL
    have hbd := HBD.out c hc
    by_cases hcb : c = b
    · subst hcb
      rw [HSE.out] at HPL
      have kb : ((c : Int) != (c : Int)) = false := by simp
      have hPn : P.length + 1 = L.length := by rw [← HPL.out]; simp
      have HO2 : Hid (wx.ownsRow w.heap.size 3 1 (.slice (some ⟨g, 0, none⟩) L.length cc) L.length (nL L)) := by rw [← hPn]; have h := HO1.out; rw [HPL.out] at h; exact h
      rw [hPn]
      clear hPn
      go_wp2_with fail
      go_ret
      exact ⟨g, cc, rfl, HO2.out, HB1.out⟩
    · obtain ⟨f, hh, h1, h2, h3, h4, h5, h6⟩ := HWS.out c hc hcb (by omega)
      have kb : ((c : Int) != (b : Int)) = true := by simp; omega
      have x0 := HST.out wx HB1.out c hc
      rw [h1] at x0
      have ci : (0 : Int) ≤ (c : Int) := by omega
      have c8 : (c : Int) < 8 := by omega
      have HP2 : Hid ((P ++ [c]) ++ wayL m f b = L) := by unfold Hid; rw [List.append_assoc, ← HPL.out, h6]; rfl
      have hfd := HBD.out f h2
      have HO2 := Lib.hid (own_below HO1.out (below_alloc wx (.cells #[.int .i64 (f : Int)] 3)))
      have hPb : P.length + 1 ≤ 1048577 := by omega
      obtain ⟨k, hk⟩ : ∃ k, P.length + 1 = k := ⟨_, rfl⟩
      have HK := Lib.hid hk
      obtain ⟨xs, HXS⟩ : ∃ xs, Hid (nL (P ++ [c]) = xs) := ⟨_, rfl⟩
      rw [hk] at HO2 hPb ⊢
      rw [HXS.out] at HO2
      have HMS : Hid ((tmA m f b).toNat < (tmA m c b).toNat) := Lib.hid (by omega)
      have HLE : Hid (tmA m f b ≤ tmA m a b ∧ ((P ++ [c]).length : Int) + tmA m f b ≤ tmA m a b) := Lib.hid ⟨by omega, by rw [List.length_append]; simp only [List.length_cons, List.length_nil]; omega⟩
      clear hk h1 h3 h4 h6 hfd hbd hle hlen HO1 HPL
      go_wp2_with (at_builtin; refine wpList_append_src _ rfl (.tmp 21) (.tmp 23) 26 rfl w.heap.size 3 i0 (.int .i64 0) 1 8 Try.underlying26 hi0 hz0 hz1 hz2 rfl (by decide) (.slice (some ⟨g, 0, none⟩) k cc) k xs rfl HO2.out (some ⟨wx.heap.size, 0, none⟩) 1 1 [.int .i64 (f : Int)] rfl ⟨rfl, fun j u hu => ⟨_, rfl, World.news_of_block (heap_alloc_new wx _) j u hu⟩⟩ (by simp [Value.oneCell']) ?a1 ?a2 ?a3 ?_)
      case a1 => unfold maxLen; omega
      case a2 => omega
      case a3 => have := HB1.out.size; simp; omega
      intro v2 w3 hown hgr hlt1
      obtain ⟨ea, ec, rfl⟩ := own_slice' hown
      obtain ⟨g2, rfl⟩ : ∃ g2, ea = some ⟨g2, 0, none⟩ := by obtain ⟨g2, h⟩ := own_somep hown (by omega); exact ⟨g2, h⟩
      have HB3 : Hid (Below w.heap.size w w3) := (below_step HB1.out (below_alloc wx (.cells #[.int .i64 (f : Int)] 3))).trans ((Fr.grown hgr).low (by have := HB1.out.size; simp; omega) (fun q hq e => by have := own_low HO2.out e; omega))
      rw [← HXS.out, ← nL_snoc, ← HK.out] at hown
      have HO3 : Hid (w3.ownsRow w.heap.size 3 1 (.slice (some ⟨g2, 0, none⟩) ((P ++ [c]).length + 1) ec) ((P ++ [c]).length + 1) (nL ((P ++ [c]) ++ [f]))) := by
        have e : (P ++ [c]).length = P.length + 1 := by simp
        rw [e]; exact hown
      clear hown hgr hlt1 HO2
      go_wp2_with fail
      go_roundw
      case rel => exact ⟨f, P ++ [c], g2, ec, rfl, by rw [← HK.out]; simp, h2, HLE.out.1, HP2.out, HLE.out.2, HB3.out, HO3.out⟩
      case measure => have := HMS.out; simp [intOf]; omega
end Go.Proofs.Ytpnkgjkoophckaa
