/- Link: the search for a larger matching (the closure of match). Printed by gen_mf.py. -/
import Derived.Test.YtgbdbikjckfgmaaGreatM4
namespace Go.Proofs.YtgbdbikjckfgmaaGreat
open Go.RowKit Go.Shelf

/-- Cells given by a function. -/
def eA (E : Nat → Value) (N : Nat) : Array Value := ((List.range N).map E).toArray
theorem eA_get (E : Nat → Value) {N k : Nat} (h : k < N) : (eA E N)[k]? = some (E k) := by
  simp [eA, h]
theorem eA_size (E : Nat → Value) (N : Nat) : (eA E N).size = N := by simp [eA]
theorem eA_set (E : Nat → Value) {N k : Nat} (v : Value) (_ : k < N) : (eA E N).setIfInBounds k v = eA (fun j => if j = k then v else E j) N := by
  unfold eA
  rw [List.setIfInBounds_toArray]
  congr 1
  refine List.ext_getElem (by simp) (fun j h1 h2 => ?_)
  simp only [List.length_set, List.length_map, List.length_range] at h1
  rw [List.getElem_set]
  simp only [List.getElem_map, List.getElem_range]
  by_cases e : k = j
  · rw [if_pos e, if_pos e.symm]
  · rw [if_neg e, if_neg (fun h => e h.symm)]
def a8 (t : Nat → Int) : Array Value := eA (fun j => .int .i64 (t j)) 8
def b8 (t : Nat → Bool) : Array Value := eA (fun j => .bool (t j)) 8
theorem a8_set (t : Nat → Int) {k : Nat} (v : Int) (h : k < 8) : (a8 t).setIfInBounds k (.int .i64 v) = a8 (putL t k v) := by
  unfold a8; rw [eA_set _ _ h]; congr 1; funext j; unfold putL; split <;> rfl
theorem b8_set (t : Nat → Bool) {k : Nat} (v : Bool) (h : k < 8) : (b8 t).setIfInBounds k (.bool v) = b8 (putL t k v) := by
  unfold b8; rw [eA_set _ _ h]; congr 1; funext j; unfold putL; split <;> rfl
theorem a8_get (t : Nat → Int) {k : Nat} (h : k < 8) : (a8 t)[k]? = some (.int .i64 (t k)) := eA_get (fun j => .int .i64 (t j)) h
theorem b8_get (t : Nat → Bool) {k : Nat} (h : k < 8) : (b8 t)[k]? = some (.bool (t k)) := eA_get (fun j => .bool (t j)) h
theorem a8_size (t : Nat → Int) : (a8 t).size = 8 := eA_size _ _
theorem b8_size (t : Nat → Bool) : (b8 t).size = 8 := eA_size _ _
/-- The search's surroundings. -/
def FL (B Bw Bo Bl Bs Bf : Nat) (sv : Value) (l : Nat → Int) (s : Nat → Bool) : List (Nat × Array Value × TypeId) :=
  [(Bs, b8 s, 149), (Bl, a8 l, 134), (Bw, #[.pointer (some ⟨B, 0, none⟩)], 114), (Bo, #[sv], 168),
   (Bf, #[.func (.func 110) #[] #[.pointer (some ⟨Bw, 0, none⟩), .pointer (some ⟨Bs, 0, none⟩), .pointer (some ⟨Bo, 0, none⟩), .pointer (some ⟨Bl, 0, none⟩), .pointer (some ⟨Bf, 0, none⟩)]], 146)]
def GivesFr (w W : World) (B Bw Bo Bl Bs Bf : Nat) (sv : Value) (r : Bool × St2) (e : Ending) (W' : World) : Prop :=
  e = .returned (.bool r.1) ∧ BF w W' (FL B Bw Bo Bl Bs Bf sv r.2.1 r.2.2) ∧ Fr (fun q => q = Bs ∨ q = Bl) W W'
theorem BF.two {w X Y : World} {L L' : List (Nat × Array Value × TypeId)} {ex : Nat → Prop} (hY : BF w Y L') (hX : BF w X L) (hf : Fr ex X Y) {b : Nat} {cs : Array Value} {T : TypeId} (hb : (b, cs, T) ∈ L) (he : ¬ ex b) : BF w Y ((b, cs, T) :: L') :=
  ⟨hY.fr, fun q c t h => by
    rcases List.mem_cons.1 h with h | h
    · cases h; exact ⟨(hX.bk _ _ _ hb).1, (hf.block _ (hX.lt hb).2 he).trans (hX.bk _ _ _ hb).2⟩
    · exact hY.bk _ _ _ h⟩
set_option maxRecDepth 100000 in
set_option maxHeartbeats 16000000 in
theorem free_step {g : Nat → Nat → Bool} {P : Nat → List Nat} {no nw : Nat} (B Bw Bo Bl Bs Bf : Nat) (xv : WkV) (sa : Option Addr) (sc : Nat) (L : List (Int × Int)) (w : World) (hL : L.length ≤ 100000)
    (hP : ∀ i k, k ∈ P i → k < 8) (hPl : ∀ i, (P i).length ≤ 8) (hg : ∀ i k, k ∈ P i → g i k = !SK L i k) (hwk : WkAt w B xv no nw P) (hsk : SkIn w (.slice sa L.length sc) L)
    (h1 : Bw < Bo) (h2 : Bo < Bl) (h3 : Bl < Bs) (h4 : Bs < Bf) (f : Nat)
    (ih : ∀ (x : Nat) (l : Nat → Int) (s : Nat → Bool) (W : World), x < no → Rg no l → unseen 8 s < f → BF w W (FL B Bw Bo Bl Bs Bf (.slice sa L.length sc) l s) →
      Calls Tryz.prog 110 #[.int .i64 (x : Int), .pointer (some ⟨Bw, 0, none⟩), .pointer (some ⟨Bs, 0, none⟩), .pointer (some ⟨Bo, 0, none⟩), .pointer (some ⟨Bl, 0, none⟩), .pointer (some ⟨Bf, 0, none⟩)] W (GivesFr w W B Bw Bo Bl Bs Bf (.slice sa L.length sc) (freeL g P f l s x)))
    (x : Nat) (l : Nat → Int) (s : Nat → Bool) (W : World) (hx : x < no) (hl : Rg no l) (hu : unseen 8 s < f + 1) (hbf : BF w W (FL B Bw Bo Bl Bs Bf (.slice sa L.length sc) l s)) :
      Calls Tryz.prog 110 #[.int .i64 (x : Int), .pointer (some ⟨Bw, 0, none⟩), .pointer (some ⟨Bs, 0, none⟩), .pointer (some ⟨Bo, 0, none⟩), .pointer (some ⟨Bl, 0, none⟩), .pointer (some ⟨Bf, 0, none⟩)] W (GivesFr w W B Bw Bo Bl Bs Bf (.slice sa L.length sc) (freeL g P (f + 1) l s x)) := by
  obtain ⟨r0, hr0⟩ : ∃ r0, freeL g P (f + 1) l s x = r0 := ⟨_, rfl⟩
  have HR0 : Hid (tryL g (freeL g P f) x (P x) l s = r0) := hr0
  rw [hr0]
  clear hr0
  have HIH := Lib.hid ih
  have HPX := Lib.hid (hP x); have HGX := Lib.hid (hg x); have HWK := Lib.hid hwk; have HSK := Lib.hid hsk; have HFX := Lib.hid (fun (r : Bool × St2) (W2 : World) (h : BF w W2 (FL B Bw Bo Bl Bs Bf (.slice sa L.length sc) r.2.1 r.2.2)) => h)
  have HLX := Lib.hid hl; have HU := Lib.hid hu
  have hpl := hPl x
  clear ih hP hPl hg hl hu hsk HFX
  obtain ⟨FV, hFV⟩ : ∃ FV : Value, (.func (.func 110) #[] #[.pointer (some ⟨Bw, 0, none⟩), .pointer (some ⟨Bs, 0, none⟩), .pointer (some ⟨Bo, 0, none⟩), .pointer (some ⟨Bl, 0, none⟩), .pointer (some ⟨Bf, 0, none⟩)] : Value) = FV := ⟨_, rfl⟩
  have HFV := Lib.hid hFV; clear hFV
  have HFL : Hid (∀ l s, FL B Bw Bo Bl Bs Bf (.slice sa L.length sc) l s = [(Bs, b8 s, 149), (Bl, a8 l, 134), (Bw, #[.pointer (some ⟨B, 0, none⟩)], 114), (Bo, #[.slice sa L.length sc], 168), (Bf, #[FV], 146)]) := fun l s => by rw [← HFV.out]; rfl
  have HA := Lib.hid (hbf.alloc #[.int .i64 (x : Int)] 3)
  rw [HFL.out] at HA
  have hxb := hbf.fr.size
  have HFR0 : Hid (Fr (fun q => q = Bs ∨ q = Bl) W (W.alloc (.cells #[.int .i64 (x : Int)] 3))) := Fr.below (below_alloc _ _) _
  have hlf := (hbf.lt (show (Bf, _, _) ∈ _ from (.tail _ (.tail _ (.tail _ (.tail _ (.head _))))))).2
  clear hbf
  have hB := hwk.lt
  have c1 := HA.out.cell (.tail _ (.tail _ (.tail _ (.head _)))) 0
  have c0 := HA.out.cell (.head _) 0
  have c4 := kept HA.out.fr hB hwk.c4
  obtain ⟨rb, ro, ra, rc, hra, hrb, hrc, hri⟩ := hwk.rows.at hx
  have c5 := kept HA.out.fr hrb hrc
  have HRI := Lib.hid hri
  rw [hra] at c4
  have xi : (0 : Int) ≤ (x : Int) := by omega
  have xj : (x : Int) < (no : Int) := by omega
  clear hri hwk hra hrc
  obtain ⟨n, hn⟩ : ∃ n, (P x).length = n := ⟨_, rfl⟩
  have HN := Lib.hid hn
  rw [hn] at c5 HRI hpl
  clear hn
  obtain ⟨XB, hXB⟩ : ∃ XB, W.heap.size = XB := ⟨_, rfl⟩
  go_enter Tryz.func110, Tryz.ntmps110
  go_wp2_with fail
  rw [hXB] at HA c0 hxb hlf
  have HXB := Lib.hid hXB
  generalize W.alloc (.cells #[.int .i64 (x : Int)] 3) = W0 at *
  clear hXB
  go_quiet (fail)
  all_goals (try go_wp2_with fail)
  have HAq := Lib.hid (HA.out.below (below_drewS W0.heap.size W0 nq))
  have HFRq : Hid (Fr (fun q => q = Bs ∨ q = Bl) W (World.drewN W0 nq)) := HFR0.out.trans (Fr.below (below_drewS _ _ _) _)
  clear HA HFR0 c0 c1 c4 c5
  go_loopw [18] (fun i wr => ∃ (j : Nat) (l2 : Nat → Int) (s2 : Nat → Bool), i = .int .i64 j ∧ j ≤ n ∧ tryL g (freeL g P f) x ((P x).drop j) l2 s2 = r0 ∧ Ok1 no l s l2 s2 ∧ BF w wr ((XB, #[.int .i64 (x : Int)], 3) :: FL B Bw Bo Bl Bs Bf (.slice sa L.length sc) l2 s2) ∧ Fr (fun q => q = Bs ∨ q = Bl) W wr) (fun i _ => n - (intOf i).toNat)
  case atStart => exact ⟨0, l, s, rfl, Nat.zero_le _, HR0.out, ⟨HLX.out, fun _ h => h⟩, by rw [HFL.out]; exact HAq.out, HFRq.out⟩
  case round =>
    clear HAq HFRq HR0
    obtain ⟨j, l2, s2, rfl, hj, htr, hok, hbf, hfr⟩ := hrel
    rename World => wx
    have HA0 : Hid (BF w wx ((XB, #[.int .i64 (x : Int)], 3) :: [(Bs, b8 s2, 149), (Bl, a8 l2, 134), (Bw, #[.pointer (some ⟨B, 0, none⟩)], 114), (Bo, #[.slice sa L.length sc], 168), (Bf, #[FV], 146)])) := by rw [← HFL.out]; exact hbf
    have HFR := Lib.hid hfr; have HTR := Lib.hid htr; have HOK := Lib.hid hok
    clear hbf hfr htr hok
    by_cases hlt : j < n
    · have hkm := List.getElem_mem (l := P x) (n := j) (by rw [HN.out]; exact hlt)
      have hdr : (P x).drop j = (P x)[j]'(by rw [HN.out]; exact hlt) :: (P x).drop (j + 1) := List.drop_eq_getElem_cons (by rw [HN.out]; exact hlt)
      have hnz : nz (P x) j = (((P x)[j]'(by rw [HN.out]; exact hlt) : Nat) : Int) := by unfold nz; simp [HN.out, hlt]
      have hk8 := HPX.out _ hkm
      have HG := Lib.hid (HGX.out _ hkm)
      have HTJ := Lib.hid (HTR.out)
      rw [hdr] at HTJ
      obtain ⟨b, off, rfl, hb, x0⟩ := (HRI.out.below HA0.out.fr).at hlt
      rw [hnz] at x0
      generalize (P x)[j]'(by rw [HN.out]; exact hlt) = k at *
      clear hkm hdr hnz HTR
      have ji : (0 : Int) ≤ (j : Int) := by omega
      have jj : (j : Int) < (n : Int) := by omega
      have ki : (0 : Int) ≤ (k : Int) := by omega
      have kj : (k : Int) < 8 := by omega
      have HA1 := Lib.hid (HA0.out.alloc #[.int .i64 (k : Int)] 3)
      have hszX := HA0.out.fr.size
      have hlX := (HA0.out.lt (.head _)).2
      have hlS := (HA0.out.lt (.tail _ (.head _))).2
      have hlL := (HA0.out.lt (.tail _ (.tail _ (.head _)))).2
      have hlF := (HA0.out.lt (.tail _ (.tail _ (.tail _ (.tail _ (.tail _ (.head _))))))).2
      have d0 := (HA1.out.cell (.tail _ (.tail _ (.head _))) k).trans (b8_get s2 hk8)
      have d1 := HA1.out.cell (.tail _ (.head _)) 0
      have d2 := HA1.out.cell (.tail _ (.tail _ (.tail _ (.tail _ (.tail _ (.head _)))))) 0
      have d3 := HA1.out.cell (.head _) 0
      have HF1 : Hid (Fr (fun q => q = Bs ∨ q = Bl) W (wx.alloc (.cells #[.int .i64 (k : Int)] 3))) := HFR.out.trans (Fr.below (below_alloc _ _) _)
      cases hs : s2 k
      · rw [hs] at d0
        go_wp2_with fail
        generalize wx.heap.size = KB at *
        generalize wx.alloc (.cells #[.int .i64 (k : Int)] 3) = W1 at *
        refine (containsFunc_skip XB KB sa sc L x k _ hL d1 d3 (HSK.out.below HA1.out.fr)).mono ?_
        rintro _ w2 ⟨rfl, hb2⟩
        have HA2 := Lib.hid (HA1.out.below hb2)
        have HF2 : Hid (Fr (fun q => q = Bs ∨ q = Bl) W w2) := HF1.out.trans (Fr.below hb2 _)
        clear hb2 HA1 HF1 d0 d1 d2 d3
        cases hq : SK L x k
        · have hgt : g x k = true := by rw [HG.out, hq]; rfl
          have d1 := HA2.out.cell (.tail _ (.head _)) 0
          have d3 := HA2.out.cell (.head _) 0
          have d4 := HA2.out.cell (.tail _ (.tail _ (.tail _ (.tail _ (.tail _ (.tail _ (.head _))))))) 0
          have e0 := (HA2.out.cell (.tail _ (.tail _ (.head _))) k).trans (b8_get s2 hk8)
          have f0 := HA2.out.thaw (.tail _ (.tail _ (.head _))) k
          have HA3 := Lib.hid (BF.set1 (i := k) (cs' := b8 (putL s2 k true)) HA2.out (.tail _ (.tail _ (.head _))) (.bool true) (by rw [b8_size]; exact hk8) (b8_set s2 true hk8) (L' := [(KB, #[.int .i64 (k : Int)], 3), (XB, #[.int .i64 (x : Int)], 3), (Bl, a8 l2, 134), (Bw, #[.pointer (some ⟨B, 0, none⟩)], 114), (Bo, #[.slice sa L.length sc], 168), (Bf, #[FV], 146)]) (List.forall_mem_cons.2 ⟨⟨show KB ≠ Bs by omega, (.head _)⟩, List.forall_mem_cons.2 ⟨⟨show XB ≠ Bs by omega, (.tail _ (.head _))⟩, List.forall_mem_cons.2 ⟨⟨show Bl ≠ Bs by omega, (.tail _ (.tail _ (.tail _ (.head _))))⟩, List.forall_mem_cons.2 ⟨⟨show Bw ≠ Bs by omega, (.tail _ (.tail _ (.tail _ (.tail _ (.head _)))))⟩, List.forall_mem_cons.2 ⟨⟨show Bo ≠ Bs by omega, (.tail _ (.tail _ (.tail _ (.tail _ (.tail _ (.head _))))))⟩, List.forall_mem_cons.2 ⟨⟨show Bf ≠ Bs by omega, (.tail _ (.tail _ (.tail _ (.tail _ (.tail _ (.tail _ (.head _)))))))⟩, List.forall_mem_nil _⟩⟩⟩⟩⟩⟩))
          have HF3 : Hid (Fr (fun q => q = Bs ∨ q = Bl) W (w2.setCell ⟨Bs, k, none⟩ (.bool true))) := HF2.out.trans ((Fr.set w2 Bs k (.bool true)).mono (fun _ _ h => .inl h))
          have g0 := (HA3.out.cell (.tail _ (.tail _ (.tail _ (.head _)))) k).trans (a8_get l2 hk8)
          have g1 := HA3.out.cell (.tail _ (.tail _ (.head _))) 0
          have g3 := HA3.out.cell (.tail _ (.head _)) 0
          have g4 := HA3.out.cell (.tail _ (.tail _ (.tail _ (.tail _ (.tail _ (.tail _ (.head _))))))) 0
          by_cases hk1 : l2 k = -1
          · have HE : Hid (r0 = (true, putL l2 k (x : Int), putL s2 k true)) := (HTJ.out.symm).trans (try_free hs hgt hk1)
            rw [hk1] at g0
            have hb1 : ((-1 : Int) == -1) = true := rfl
            go_wp2_with fail
            obtain ⟨W3, hW3⟩ : ∃ W3, w2.setCell ⟨Bs, k, none⟩ (.bool true) = W3 := ⟨_, rfl⟩
            rw [hW3] at HA3 HF3 g0 g1 g3 g4 ⊢
            clear hW3 d1 d3 d4 e0 f0 HA2 HF2
            go_quiet (fail)
            have HA4 := Lib.hid (HA3.out.below (below_drewS W3.heap.size W3 nq))
            have HF4 : Hid (Fr (fun q => q = Bs ∨ q = Bl) W (World.drewN W3 nq)) := HF3.out.trans (Fr.below (below_drewS _ _ _) _)
            clear HA3 HF3 g0 g1 g3 g4
            generalize World.drewN W3 nq = W4 at *
            have g1 := HA4.out.cell (.tail _ (.tail _ (.head _))) 0
            have g3 := HA4.out.cell (.tail _ (.head _)) 0
            have g0 := (HA4.out.cell (.tail _ (.tail _ (.tail _ (.head _)))) k).trans (a8_get l2 hk8)
            have f0 := HA4.out.thaw (.tail _ (.tail _ (.tail _ (.head _)))) k
            have HA5 := Lib.hid (BF.set1 (i := k) (cs' := a8 (putL l2 k (x : Int))) HA4.out (.tail _ (.tail _ (.tail _ (.head _)))) (.int .i64 (x : Int)) (by rw [a8_size]; exact hk8) (a8_set l2 (x : Int) hk8) (L' := [(Bs, b8 (putL s2 k true), 149), (Bw, #[.pointer (some ⟨B, 0, none⟩)], 114), (Bo, #[.slice sa L.length sc], 168), (Bf, #[FV], 146)]) (List.forall_mem_cons.2 ⟨⟨show Bs ≠ Bl by omega, (.head _)⟩, List.forall_mem_cons.2 ⟨⟨show Bw ≠ Bl by omega, (.tail _ (.tail _ (.tail _ (.tail _ (.head _)))))⟩, List.forall_mem_cons.2 ⟨⟨show Bo ≠ Bl by omega, (.tail _ (.tail _ (.tail _ (.tail _ (.tail _ (.head _))))))⟩, List.forall_mem_cons.2 ⟨⟨show Bf ≠ Bl by omega, (.tail _ (.tail _ (.tail _ (.tail _ (.tail _ (.tail _ (.head _)))))))⟩, List.forall_mem_nil _⟩⟩⟩⟩))
            have HF5 : Hid (Fr (fun q => q = Bs ∨ q = Bl) W (W4.setCell ⟨Bl, k, none⟩ (.int .i64 (x : Int)))) := HF4.out.trans ((Fr.set W4 Bl k (.int .i64 (x : Int))).mono (fun _ _ h => .inr h))
            have HR : Hid (BF w (W4.setCell ⟨Bl, k, none⟩ (.int .i64 (x : Int))) (FL B Bw Bo Bl Bs Bf (.slice sa L.length sc) (putL l2 k (x : Int)) (putL s2 k true))) := by rw [HFL.out]; exact HA5.out.sub (List.forall_mem_cons.2 ⟨(.tail _ (.head _)), List.forall_mem_cons.2 ⟨(.head _), List.forall_mem_cons.2 ⟨(.tail _ (.tail _ (.head _))), List.forall_mem_cons.2 ⟨(.tail _ (.tail _ (.tail _ (.head _)))), List.forall_mem_cons.2 ⟨(.tail _ (.tail _ (.tail _ (.tail _ (.head _))))), List.forall_mem_nil _⟩⟩⟩⟩⟩)
            go_wp2_with fail
            go_ret
            rw [HE.out]
            exact ⟨rfl, HR.out, HF5.out⟩
          · obtain ⟨hy, hyn⟩ := HOK.out.rg.to hk1
            have hne := hk1
            have hun : unseen 8 (putL s2 k true) < f := by
              have h1 := unseen_lt (nn := 8) hk8 hs
              have h2 := unseen_le (nn := 8) HOK.out.sub
              have := HU.out
              omega
            have HIC := Lib.hid (fun Wq hq => HIH.out (l2 k).toNat l2 (putL s2 k true) Wq hyn HOK.out.rg hun hq)
            have HOR := Lib.hid (free_ok (g := g) (P := P) f l2 (putL s2 k true) (l2 k).toNat hyn HOK.out.rg)
            have HYE := Lib.hid (fun (r : Bool × St2) (hr : freeL g P f l2 (putL s2 k true) (l2 k).toNat = r) (hy : r.1 = true) => (HTJ.out.symm).trans (try_yes hs hgt hk1 hr hy))
            have HNO := Lib.hid (fun (r : Bool × St2) (hr : freeL g P f l2 (putL s2 k true) (l2 k).toNat = r) (hy : r.1 = false) => (try_no (ks := (P x).drop (j + 1)) hs hgt hk1 hr hy).symm.trans HTJ.out)
            generalize hrr : freeL g P f l2 (putL s2 k true) (l2 k).toNat = rr at *
            have HRR := Lib.hid hrr
            clear hrr
            rw [← hy] at g0
            generalize (l2 k).toNat = y at *
            have hy1 : ((y : Int) == -1) = false := by simp
            clear hy hk1
            go_wp2_with fail
            obtain ⟨W3, hW3⟩ : ∃ W3, w2.setCell ⟨Bs, k, none⟩ (.bool true) = W3 := ⟨_, rfl⟩
            rw [hW3] at HA3 HF3 g0 g1 g3 g4 ⊢
            clear hW3 d1 d3 d4 e0 f0 HA2 HF2
            have HAX := Lib.hid (HA3.out.below (Below.refl _ _).drew)
            have HFX : Hid (Fr (fun q => q = Bs ∨ q = Bl) W W3.drew) := HF3.out.trans (Fr.below (Below.refl _ _).drew _)
            rw [← HFV.out] at g4
            replace g0 := (Below.refl W3.heap.size W3).drew.cell (World.block_lt_of_cell? _ _ g0) |>.trans g0
            replace g3 := (Below.refl W3.heap.size W3).drew.cell (World.block_lt_of_cell? _ _ g3) |>.trans g3
            replace g4 := (Below.refl W3.heap.size W3).drew.cell (World.block_lt_of_cell? _ _ g4) |>.trans g4
            clear HA3 HF3 g1
            refine wp_region_E [9, 10] (S := fun X => X.cell? ⟨KB, 0, none⟩ = some (.int .i64 (k : Int)) ∧ X.cell? ⟨Bl, k, none⟩ = some (.int .i64 (y : Int)) ∧ X.cell? ⟨Bf, 0, none⟩ = some (.func (.func 110) #[] #[.pointer (some ⟨Bw, 0, none⟩), .pointer (some ⟨Bs, 0, none⟩), .pointer (some ⟨Bo, 0, none⟩), .pointer (some ⟨Bl, 0, none⟩), .pointer (some ⟨Bf, 0, none⟩)])) (by kernel_rfl) ⟨g3, g0, g4⟩ (fun hS => ?_)
            generalize W3.drew = Y at *
            refine tk [0, 1, 2, 3, 4, 5, 6, 7, 8] ?_
            repeat (refine tkU (oi := ⟨_, _, _, _, _, _⟩) (v := ?_) rfl (by kernel_rfl) (by rfl) (fun _ _ _ h => h) hS ?_ ?_; rotate_left; (· rintro W' ⟨z0, z1, z2⟩; go_simp; try with_reducible rfl); try simp only [Act.put, putA, putZ, putS])
            refine tk0 ?_
            refine wpAnyE_next (rs := [9]) (by kernel_rfl) (by simp) ?_
            refine NextE.skip (o := ⟨some 41, _, _, _, _, _⟩) rfl (by kernel_rfl) (fun K hK => ?_) NextE.nil
            go_simp
            refine (HIC.out Y (by rw [HFL.out]; exact HAX.out.sub (List.forall_mem_cons.2 ⟨(.head _), List.forall_mem_cons.2 ⟨(.tail _ (.tail _ (.tail _ (.head _)))), List.forall_mem_cons.2 ⟨(.tail _ (.tail _ (.tail _ (.tail _ (.head _))))), List.forall_mem_cons.2 ⟨(.tail _ (.tail _ (.tail _ (.tail _ (.tail _ (.head _)))))), List.forall_mem_cons.2 ⟨(.tail _ (.tail _ (.tail _ (.tail _ (.tail _ (.tail _ (.head _))))))), List.forall_mem_nil _⟩⟩⟩⟩⟩))).mono ?_
            rintro _ W5 ⟨rfl, hb5, hf5⟩
            (try go_wp2_with fail)
            refine hK.out _ _ ?_
            clear hK K
            try simp only [Act.put, putA, putZ, putS]
            refine wpAnyE_next (rs := [10]) (by kernel_rfl) (by simp) ?_
            refine NextE.skip (o := ⟨some 42, _, _, _, _, _⟩) rfl (by kernel_rfl) (fun K hK => ?_) NextE.nil
            go_simp
            refine hK.out _ _ ?_
            clear hK K
            try simp only [Act.put, putA, putZ, putS]
            refine wpAnyE_done (by kernel_rfl) ?_ _
            have hnK : ¬ (KB = Bs ∨ KB = Bl) := by omega
            have hnX : ¬ (XB = Bs ∨ XB = Bl) := by omega
            have HR6 := Lib.hid hb5
            have HA6 := Lib.hid ((hb5.two HAX.out hf5 (.tail _ (.tail _ (.head _))) hnX).two HAX.out hf5 (.tail _ (.head _)) hnK)
            have HF6 : Hid (Fr (fun q => q = Bs ∨ q = Bl) W W5) := HFX.out.trans hf5
            rw [HFL.out] at HA6
            clear HAX HFX hb5 hf5 g0 g3 g4 hS HIC
            cases hrr : rr.1
            · have HOK3 : Hid (Ok1 no l s rr.2.1 rr.2.2) := ⟨HOR.out.rg, fun k hk => HOR.out.sub k (sub_put k (HOK.out.sub k hk))⟩
              have HT3 := Lib.hid (HNO.out rr rfl hrr)
              have HR7 : Hid (BF w W5 ((XB, #[.int .i64 (x : Int)], 3) :: FL B Bw Bo Bl Bs Bf (.slice sa L.length sc) rr.2.1 rr.2.2)) := by rw [HFL.out]; exact HA6.out.sub (List.forall_mem_cons.2 ⟨(.tail _ (.head _)), List.forall_mem_cons.2 ⟨(.tail _ (.tail _ (.head _))), List.forall_mem_cons.2 ⟨(.tail _ (.tail _ (.tail _ (.head _)))), List.forall_mem_cons.2 ⟨(.tail _ (.tail _ (.tail _ (.tail _ (.head _))))), List.forall_mem_cons.2 ⟨(.tail _ (.tail _ (.tail _ (.tail _ (.tail _ (.head _)))))), List.forall_mem_cons.2 ⟨(.tail _ (.tail _ (.tail _ (.tail _ (.tail _ (.tail _ (.head _))))))), List.forall_mem_nil _⟩⟩⟩⟩⟩⟩)
              go_wp2_with fail
              go_roundw
              case rel => exact ⟨j + 1, rr.2.1, rr.2.2, by go_num, by omega, HT3.out, HOK3.out, HR7.out, HF6.out⟩
              case measure => simp [intOf]; omega
            · have HE := Lib.hid (HYE.out rr rfl hrr)
              have g1 := HA6.out.cell (.head _) 0
              have g3 := HA6.out.cell (.tail _ (.head _)) 0
              have g0 := (HA6.out.cell (.tail _ (.tail _ (.tail _ (.head _)))) k).trans (a8_get rr.2.1 hk8)
              have f0 := HA6.out.thaw (.tail _ (.tail _ (.tail _ (.head _)))) k
              have HA7 := Lib.hid (BF.set1 (i := k) (cs' := a8 (putL rr.2.1 k (x : Int))) HA6.out (.tail _ (.tail _ (.tail _ (.head _)))) (.int .i64 (x : Int)) (by rw [a8_size]; exact hk8) (a8_set rr.2.1 (x : Int) hk8) (L' := [(Bs, b8 rr.2.2, 149), (Bw, #[.pointer (some ⟨B, 0, none⟩)], 114), (Bo, #[.slice sa L.length sc], 168), (Bf, #[FV], 146)]) (List.forall_mem_cons.2 ⟨⟨show Bs ≠ Bl by omega, (.tail _ (.tail _ (.head _)))⟩, List.forall_mem_cons.2 ⟨⟨show Bw ≠ Bl by omega, (.tail _ (.tail _ (.tail _ (.tail _ (.head _)))))⟩, List.forall_mem_cons.2 ⟨⟨show Bo ≠ Bl by omega, (.tail _ (.tail _ (.tail _ (.tail _ (.tail _ (.head _))))))⟩, List.forall_mem_cons.2 ⟨⟨show Bf ≠ Bl by omega, (.tail _ (.tail _ (.tail _ (.tail _ (.tail _ (.tail _ (.head _)))))))⟩, List.forall_mem_nil _⟩⟩⟩⟩))
              have HF7 : Hid (Fr (fun q => q = Bs ∨ q = Bl) W (W5.setCell ⟨Bl, k, none⟩ (.int .i64 (x : Int)))) := HF6.out.trans ((Fr.set W5 Bl k (.int .i64 (x : Int))).mono (fun _ _ h => .inr h))
              have HR7 : Hid (BF w (W5.setCell ⟨Bl, k, none⟩ (.int .i64 (x : Int))) (FL B Bw Bo Bl Bs Bf (.slice sa L.length sc) (putL rr.2.1 k (x : Int)) rr.2.2)) := by rw [HFL.out]; exact HA7.out.sub (List.forall_mem_cons.2 ⟨(.tail _ (.head _)), List.forall_mem_cons.2 ⟨(.head _), List.forall_mem_cons.2 ⟨(.tail _ (.tail _ (.head _))), List.forall_mem_cons.2 ⟨(.tail _ (.tail _ (.tail _ (.head _)))), List.forall_mem_cons.2 ⟨(.tail _ (.tail _ (.tail _ (.tail _ (.head _))))), List.forall_mem_nil _⟩⟩⟩⟩⟩)
              go_wp2_with fail
              go_ret
              rw [HE.out]
              exact ⟨rfl, HR7.out, HF7.out⟩
        · have hgf : g x k = false := by rw [HG.out, hq]; rfl
          have HR : Hid (BF w w2 ((XB, #[.int .i64 (x : Int)], 3) :: FL B Bw Bo Bl Bs Bf (.slice sa L.length sc) l2 s2)) := by rw [HFL.out]; exact HA2.out.sub (List.forall_mem_cons.2 ⟨(.tail _ (.head _)), List.forall_mem_cons.2 ⟨(.tail _ (.tail _ (.head _))), List.forall_mem_cons.2 ⟨(.tail _ (.tail _ (.tail _ (.head _)))), List.forall_mem_cons.2 ⟨(.tail _ (.tail _ (.tail _ (.tail _ (.head _))))), List.forall_mem_cons.2 ⟨(.tail _ (.tail _ (.tail _ (.tail _ (.tail _ (.head _)))))), List.forall_mem_cons.2 ⟨(.tail _ (.tail _ (.tail _ (.tail _ (.tail _ (.tail _ (.head _))))))), List.forall_mem_nil _⟩⟩⟩⟩⟩⟩)
          have HT2 : Hid (tryL g (freeL g P f) x ((P x).drop (j + 1)) l2 s2 = r0) := (try_skip (.inr hgf)).symm.trans HTJ.out
          go_wp2_with fail
          go_roundw
          case rel => exact ⟨j + 1, l2, s2, by go_num, by omega, HT2.out, HOK.out, HR.out, HF2.out⟩
          case measure => simp [intOf]; omega
      · rw [hs] at d0
        have HR : Hid (BF w (wx.alloc (.cells #[.int .i64 (k : Int)] 3)) ((XB, #[.int .i64 (x : Int)], 3) :: FL B Bw Bo Bl Bs Bf (.slice sa L.length sc) l2 s2)) := by rw [HFL.out]; exact HA1.out.sub (List.forall_mem_cons.2 ⟨(.tail _ (.head _)), List.forall_mem_cons.2 ⟨(.tail _ (.tail _ (.head _))), List.forall_mem_cons.2 ⟨(.tail _ (.tail _ (.tail _ (.head _)))), List.forall_mem_cons.2 ⟨(.tail _ (.tail _ (.tail _ (.tail _ (.head _))))), List.forall_mem_cons.2 ⟨(.tail _ (.tail _ (.tail _ (.tail _ (.tail _ (.head _)))))), List.forall_mem_cons.2 ⟨(.tail _ (.tail _ (.tail _ (.tail _ (.tail _ (.tail _ (.head _))))))), List.forall_mem_nil _⟩⟩⟩⟩⟩⟩)
        have HT2 : Hid (tryL g (freeL g P f) x ((P x).drop (j + 1)) l2 s2 = r0) := (try_skip (.inl hs)).symm.trans HTJ.out
        go_wp2_with fail
        go_roundw
        case rel => exact ⟨j + 1, l2, s2, by go_num, by omega, HT2.out, HOK.out, HR.out, HF1.out⟩
        case measure => simp [intOf]; omega
    · obtain rfl : j = n := by omega
      have HE : Hid (r0 = (false, l2, s2)) := by
        have := HTR.out
        rw [← HN.out, List.drop_length] at this
        exact this.symm
      have HF : Hid (BF w wx (FL B Bw Bo Bl Bs Bf (.slice sa L.length sc) l2 s2)) := by rw [HFL.out]; exact HA0.out.sub (List.forall_mem_cons.2 ⟨(.tail _ (.head _)), List.forall_mem_cons.2 ⟨(.tail _ (.tail _ (.head _))), List.forall_mem_cons.2 ⟨(.tail _ (.tail _ (.tail _ (.head _)))), List.forall_mem_cons.2 ⟨(.tail _ (.tail _ (.tail _ (.tail _ (.head _))))), List.forall_mem_cons.2 ⟨(.tail _ (.tail _ (.tail _ (.tail _ (.tail _ (.head _)))))), List.forall_mem_nil _⟩⟩⟩⟩⟩)
      go_wp2_with fail
      go_ret
      rw [HE.out]
      exact ⟨rfl, HF.out, HFR.out⟩
end Go.Proofs.YtgbdbikjckfgmaaGreat
