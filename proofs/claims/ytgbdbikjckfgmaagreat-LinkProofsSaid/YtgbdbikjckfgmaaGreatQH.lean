/- Link: Cover's search (the closure reach). Printed by gen_qh.py. -/
import Derived.Test.YtgbdbikjckfgmaaGreatQG
namespace Go.Proofs.YtgbdbikjckfgmaaGreat
open Go.RowKit Go.Shelf

/-- The search's surroundings. -/
def RcL (B Bw Bl BR BM Bf : Nat) (l : Nat → Int) (R M : Nat → Bool) : List (Nat × Array Value × TypeId) :=
  [(BR, b8 R, 149), (BM, b8 M, 149), (Bl, a8 l, 134), (Bw, #[.pointer (some ⟨B, 0, none⟩)], 114),
   (Bf, #[.func (.func 89) #[] #[.pointer (some ⟨BR, 0, none⟩), .pointer (some ⟨Bw, 0, none⟩), .pointer (some ⟨BM, 0, none⟩), .pointer (some ⟨Bl, 0, none⟩), .pointer (some ⟨Bf, 0, none⟩)]], 150)]
def GivesR (w W : World) (B Bw Bl BR BM Bf : Nat) (g : Nat → Nat → Bool) (l : Nat → Int) (D R M : Nat → Bool) (i : Nat) (e : Ending) (W' : World) : Prop :=
  ∃ R' M', e = .returned (.tuple #[]) ∧ BF w W' (RcL B Bw Bl BR BM Bf l R' M') ∧ Cl g l D R M R' M' ∧ R' i = true ∧ Fr (fun q => q = BR ∨ q = BM) W W'
set_option maxRecDepth 100000 in
set_option maxHeartbeats 16000000 in
theorem reach_step {g : Nat → Nat → Bool} {P : Nat → List Nat} {no nw : Nat} (B Bw Bl BR BM Bf : Nat) (xv : WkV) (l : Nat → Int) (D : Nat → Bool) (w : World)
    (hP : ∀ i k, k ∈ P i ↔ g i k = true) (hg8 : ∀ i k, g i k = true → k < 8) (hPl : ∀ i, (P i).length ≤ 8) (hwk : WkAt w B xv no nw P) (hno : no ≤ 8) (hl : Rg no l) (hd : Dead g l D)
    (hn2 : BR < BM) (hn4 : Bf ≠ BR ∧ Bf ≠ BM ∧ Bl ≠ BR ∧ Bl ≠ BM ∧ Bw ≠ BR ∧ Bw ≠ BM) (f : Nat)
    (ih : ∀ (i : Nat) (R M : Nat → Bool) (W : World), i < no → unseen 8 R < f → (∀ k, g i k = true → D k = true) → BF w W (RcL B Bw Bl BR BM Bf l R M) →
      Calls Tryz.prog 89 #[.int .i64 (i : Int), .pointer (some ⟨BR, 0, none⟩), .pointer (some ⟨Bw, 0, none⟩), .pointer (some ⟨BM, 0, none⟩), .pointer (some ⟨Bl, 0, none⟩), .pointer (some ⟨Bf, 0, none⟩)] W (GivesR w W B Bw Bl BR BM Bf g l D R M i))
    (i : Nat) (R M : Nat → Bool) (W : World) (hi : i < no) (hu : unseen 8 R < f + 1) (hgood : ∀ k, g i k = true → D k = true) (hbf : BF w W (RcL B Bw Bl BR BM Bf l R M)) :
      Calls Tryz.prog 89 #[.int .i64 (i : Int), .pointer (some ⟨BR, 0, none⟩), .pointer (some ⟨Bw, 0, none⟩), .pointer (some ⟨BM, 0, none⟩), .pointer (some ⟨Bl, 0, none⟩), .pointer (some ⟨Bf, 0, none⟩)] W (GivesR w W B Bw Bl BR BM Bf g l D R M i) := by
  have HIH := Lib.hid ih
  have hi8 : i < 8 := by omega
  obtain ⟨rb, ro, ra, rc, hra, hrb, hrc, hri⟩ := hwk.rows.at hi
  have HRI := Lib.hid hri
  have HB4 := Lib.hid (fun X (hX : Below w.heap.size w X) => kept hX hwk.lt hwk.c4)
  have HB5 := Lib.hid (fun X (hX : Below w.heap.size w X) => kept hX hrb hrc)
  rw [hra] at HB4
  have HG8 := Lib.hid (hg8 i)
  have HPI := Lib.hid (hP i)
  have hpl := hPl i
  have HLR := Lib.hid hl
  have HDD := Lib.hid hd
  have HGO := Lib.hid hgood
  have HN4 : Hid ((Bf ≠ BR ∧ Bf ≠ BM ∧ Bl ≠ BR ∧ Bl ≠ BM ∧ Bw ≠ BR ∧ Bw ≠ BM) ∧ BR ≠ BM) := ⟨hn4, by omega⟩
  have HU := Lib.hid hu
  have ki : (0 : Int) ≤ (i : Int) := by omega
  have kj : (i : Int) < 8 := by omega
  have kj2 : (i : Int) < (no : Int) := by omega
  have HA := Lib.hid hbf
  obtain ⟨FV, hFV⟩ : ∃ FV : Value, FV = .func (.func 89) #[] #[.pointer (some ⟨BR, 0, none⟩), .pointer (some ⟨Bw, 0, none⟩), .pointer (some ⟨BM, 0, none⟩), .pointer (some ⟨Bl, 0, none⟩), .pointer (some ⟨Bf, 0, none⟩)] := ⟨_, rfl⟩
  have HRL : Hid (∀ R M, RcL B Bw Bl BR BM Bf l R M = [(BR, b8 R, 149), (BM, b8 M, 149), (Bl, a8 l, 134), (Bw, #[.pointer (some ⟨B, 0, none⟩)], 114), (Bf, #[FV], 150)]) := fun R M => by rw [hFV]; rfl
  rw [HRL.out] at HA
  have HFV := Lib.hid hFV
  clear hFV
  clear hbf hwk hri hrc hP hPl hg8 hl hd hgood hu ih hn2 hn4 hra
  obtain ⟨n, hn⟩ : ∃ n, (P i).length = n := ⟨_, rfl⟩
  have HN := Lib.hid hn
  rw [hn] at HB5 HRI hpl
  clear hn
  go_enter Tryz.func89, Tryz.ntmps89
  have e0 := (HA.out.cell (.head _) i).trans (b8_get _ hi8)
  have f0 := HA.out.thaw (.head _) i
  cases hRi : R i
  case true =>
    rw [hRi] at e0
    have HR0 := Lib.hid hRi
    clear hRi
    go_wp2_with fail
    go_end0
    exact ⟨R, M, rfl, by rw [HRL.out]; exact HA.out, Cl.refl, HR0.out, Fr.refl _ _⟩
  rw [hRi] at e0
  have HR0 := Lib.hid hRi
  clear hRi
  have hn4 := HN4.out
  have HA1 := Lib.hid (BF.set1 (i := i) (cs' := b8 (putL R i true)) HA.out (.head _) (.bool true) (by rw [b8_size]; exact hi8) (b8_set _ true hi8) (L' := [(BM, b8 M, 149), (Bl, a8 l, 134), (Bw, #[.pointer (some ⟨B, 0, none⟩)], 114), (Bf, #[FV], 150)]) (List.forall_mem_cons.2 ⟨⟨show BM ≠ BR by omega, (.tail _ (.head _))⟩, List.forall_mem_cons.2 ⟨⟨show Bl ≠ BR by omega, (.tail _ (.tail _ (.head _)))⟩, List.forall_mem_cons.2 ⟨⟨show Bw ≠ BR by omega, (.tail _ (.tail _ (.tail _ (.head _))))⟩, List.forall_mem_cons.2 ⟨⟨show Bf ≠ BR by omega, (.tail _ (.tail _ (.tail _ (.tail _ (.head _)))))⟩, List.forall_mem_nil _⟩⟩⟩⟩))
  have HF1 : Hid (Fr (fun q => q = BR ∨ q = BM) W (W.setCell ⟨BR, i, none⟩ (.bool true))) := (Fr.set W BR i (.bool true)).mono fun q _ hq => .inl hq
  go_upto_region 2 with fail
  generalize W.setCell ⟨BR, i, none⟩ (.bool true) = W1 at *
  clear e0 f0 HA hn4
  have c1 := HA1.out.cell (.tail _ (.tail _ (.tail _ (.head _)))) 0
  have c4 := HB4.out _ HA1.out.fr
  have c5 := HB5.out _ HA1.out.fr
  have HUL : Hid (∀ R2 : Nat → Bool, (∀ j, putL R i true j = true → R2 j = true) → unseen 8 R2 < f) := fun R2 h => by
    have h1 := unseen_lt hi8 HR0.out
    have h2 := unseen_le (nn := 8) h
    have h3 := HU.out
    omega
  go_wp2_with fail
  clear c1 c4 c5
  go_loopw [22] (fun v wr => ∃ (q : Nat) (R2 M2 : Nat → Bool), v = .int .i64 (q : Int) ∧ q ≤ n ∧ BF w wr [(BR, b8 R2, 149), (BM, b8 M2, 149), (Bl, a8 l, 134), (Bw, #[.pointer (some ⟨B, 0, none⟩)], 114), (Bf, #[FV], 150)] ∧ Cl g l D (putL R i true) M R2 M2 ∧ (∀ j, j < q → M2 ((P i).getD j 0) = true) ∧ Fr (fun q => q = BR ∨ q = BM) W wr) (fun v _ => n - (intOf v).toNat)
  case atStart => exact ⟨0, _, M, rfl, Nat.zero_le _, HA1.out, Cl.refl, fun j hj => absurd hj (Nat.not_lt_zero j), HF1.out⟩
  case round =>
    clear HA1 HF1
    obtain ⟨q, R2, M2, rfl, hq, hbf, hcl, hmet, hfr⟩ := hrel
    rename World => wx
    have HA := Lib.hid hbf
    have HC := Lib.hid hcl
    have HM := Lib.hid hmet
    have HF := Lib.hid hfr
    clear hbf hcl hmet hfr
    by_cases hlt : q < n
    · have HNN := HN.out
      have hgk : g i ((P i).getD q 0) = true := (HPI.out _).1 (by rw [List.getD_eq_getElem?_getD, List.getElem?_eq_getElem (by omega)]; exact List.getElem_mem (by omega))
      have hnz : nz (P i) q = (((P i).getD q 0 : Nat) : Int) := by unfold nz; simp [show q < (P i).length by omega]
      obtain ⟨qb, qo, rfl, hqb, y0⟩ := (HRI.out.below HA.out.fr).at hlt
      rw [hnz] at y0
      obtain ⟨k, hkk⟩ : ∃ k, (P i).getD q 0 = k := ⟨_, rfl⟩
      have HKK := Lib.hid hkk
      rw [hkk] at hgk y0
      clear hnz HNN hkk
      have hk8 := HG8.out k hgk
      have HGK := Lib.hid hgk
      have hn4 := HN4.out
      have hR2 := HC.out.monR i putL_same
      have HRI2 := Lib.hid hR2
      have e0 := (HA.out.cell (.tail _ (.head _)) k).trans (b8_get _ hk8)
      have f0 := HA.out.thaw (.tail _ (.head _)) k
      have HA2 := Lib.hid (BF.set1 (i := k) (cs' := b8 (putL M2 k true)) HA.out (.tail _ (.head _)) (.bool true) (by rw [b8_size]; exact hk8) (b8_set _ true hk8) (L' := [(BR, b8 R2, 149), (Bl, a8 l, 134), (Bw, #[.pointer (some ⟨B, 0, none⟩)], 114), (Bf, #[FV], 150)]) (List.forall_mem_cons.2 ⟨⟨show BR ≠ BM by omega, (.head _)⟩, List.forall_mem_cons.2 ⟨⟨show Bl ≠ BM by omega, (.tail _ (.tail _ (.head _)))⟩, List.forall_mem_cons.2 ⟨⟨show Bw ≠ BM by omega, (.tail _ (.tail _ (.tail _ (.head _))))⟩, List.forall_mem_cons.2 ⟨⟨show Bf ≠ BM by omega, (.tail _ (.tail _ (.tail _ (.tail _ (.head _)))))⟩, List.forall_mem_nil _⟩⟩⟩⟩))
      have HFX := Lib.hid (HF.out.trans ((Fr.set wx BM k (.bool true)).mono fun q _ hq => .inr hq))
      have HAS : Hid (BF w (wx.setCell ⟨BM, k, none⟩ (.bool true)) [(BR, b8 R2, 149), (BM, b8 (putL M2 k true), 149), (Bl, a8 l, 134), (Bw, #[.pointer (some ⟨B, 0, none⟩)], 114), (Bf, #[FV], 150)]) := HA2.out.sub (List.forall_mem_cons.2 ⟨(.tail _ (.head _)), List.forall_mem_cons.2 ⟨(.head _), List.forall_mem_cons.2 ⟨(.tail _ (.tail _ (.head _))), List.forall_mem_cons.2 ⟨(.tail _ (.tail _ (.tail _ (.head _)))), List.forall_mem_cons.2 ⟨(.tail _ (.tail _ (.tail _ (.tail _ (.head _))))), List.forall_mem_nil _⟩⟩⟩⟩⟩)
      have qi : (0 : Int) ≤ (q : Int) := by omega
      have qj : (q : Int) < (n : Int) := by omega
      have ki2 : (0 : Int) ≤ (k : Int) := by omega
      have kj3 : (k : Int) < 8 := by omega
      have HMQ : Hid (∀ j, j < q + 1 → putL M2 k true ((P i).getD j 0) = true) := fun j hj => by
        unfold putL
        split
        · rfl
        · rename_i hne
          rcases Nat.lt_succ_iff_lt_or_eq.1 hj with hj | rfl
          · exact HM.out j hj
          · exact absurd HKK.out hne
      have hlor := HLR.out k
      obtain ⟨lv, hlv⟩ : ∃ v, l k = v := ⟨_, rfl⟩
      rw [hlv] at hlor
      have HLV := Lib.hid hlv
      clear HA2 hlv
      go_upto_region 6 with fail
      clear e0 f0 y0
      generalize wx.setCell ⟨BM, k, none⟩ (.bool true) = ws at *
      have e1 := (HAS.out.cell (.tail _ (.tail _ (.head _))) k).trans (a8_get _ hk8)
      rw [HLV.out] at e1
      by_cases hlm : lv = -1
      · have kz : (lv != -1) = false := by simp [hlm]
        have HCQ := Lib.hid (HC.out.trans (Cl.meet hR2 hgk (HLV.out.trans hlm)))
        clear hlm hlor
        go_wp2_with fail
        go_roundw
        case rel => exact ⟨q + 1, R2, _, by go_num, by omega, HAS.out, HCQ.out, HMQ.out, HFX.out⟩
        case measure => simp [intOf]; omega
      · obtain ⟨lk, rfl⟩ : ∃ ln : Nat, lv = ln := ⟨lv.toNat, by omega⟩
        have hlk2 : lk < no := by omega
        have kz : ((lk : Int) != -1) = true := by simp
        have HLK : Hid (l k = (lk : Int)) := HLV.out
        have HCQ := HC
        have HIHK := Lib.hid (fun W3 (hb : BF w W3 [(BR, b8 R2, 149), (BM, b8 (putL M2 k true), 149), (Bl, a8 l, 134), (Bw, #[.pointer (some ⟨B, 0, none⟩)], 114), (Bf, #[FV], 150)]) => HIH.out lk R2 (putL M2 k true) W3 hlk2 (HUL.out R2 HC.out.monR) (by
          have h := (HDD.out k (HGO.out k hgk)).2
          rw [HLK.out, Int.toNat_natCast] at h
          exact h) (by rw [HRL.out]; exact hb))
        unfold GivesR at HIHK
        clear hlor hlm
        go_upto_region 7 with fail
        have HAX := Lib.hid (HAS.out.below (Below.refl ws.heap.size _).drew)
        have HFW := Lib.hid (HFX.out.trans (Fr.below (Below.refl ws.heap.size ws).drew _))
        clear HFX e1
        have HFX := HFW
        clear HFW
        refine wp_region_Z (S := fun X => X.cell? ⟨Bf, 0, none⟩ = some (.func (.func 89) #[] #[.pointer (some ⟨BR, 0, none⟩), .pointer (some ⟨Bw, 0, none⟩), .pointer (some ⟨BM, 0, none⟩), .pointer (some ⟨Bl, 0, none⟩), .pointer (some ⟨Bf, 0, none⟩)]) ∧ X.cell? ⟨Bl, k, none⟩ = some (.int .i64 (lk : Int))) (by kernel_rfl) (⟨(HAX.out.cell (.tail _ (.tail _ (.tail _ (.tail _ (.head _))))) 0).trans (by rw [HFV.out]; rfl), (HAX.out.cell (.tail _ (.tail _ (.head _))) k).trans ((a8_get _ hk8).trans (by rw [HLK.out]))⟩) (fun hS => ?_)
        generalize ws.drew = X at *
        refine wpAnyZ_take (i := 0) (oi := ⟨some 32, _, _, _, _, _⟩) (v := ?_) rfl (by kernel_rfl) (by kernel_rfl) (by kernel_rfl) (fun _ _ _ h => h) (Or.inl ⟨by rfl, ?_⟩) hS ?_
        rotate_left
        · rintro W' ⟨z0, z1⟩; go_simp; try with_reducible rfl
        try simp only [Act.put, putA, putZ, putS]
        refine wpAnyZ_take (i := 1) (oi := ⟨some 33, _, _, _, _, _⟩) (v := ?_) rfl (by kernel_rfl) (by kernel_rfl) (by kernel_rfl) (fun _ _ _ h => h) (Or.inl ⟨by rfl, ?_⟩) hS ?_
        rotate_left
        · rintro W' ⟨z0, z1⟩; go_simp; try with_reducible rfl
        try simp only [Act.put, putA, putZ, putS]
        refine wpAnyZ_take (i := 2) (oi := ⟨some 34, _, _, _, _, _⟩) (v := ?_) rfl (by kernel_rfl) (by kernel_rfl) (by kernel_rfl) (fun _ _ _ h => h) (Or.inl ⟨by rfl, ?_⟩) hS ?_
        rotate_left
        · rintro W' ⟨z0, z1⟩; go_simp; try with_reducible rfl
        try simp only [Act.put, putA, putZ, putS]
        refine wpAnyZ_take (i := 3) (oi := ⟨some 35, _, _, _, _, _⟩) (v := ?_) rfl (by kernel_rfl) (by kernel_rfl) (by kernel_rfl) (fun _ _ _ h => h) (Or.inl ⟨by rfl, ?_⟩) hS ?_
        rotate_left
        · rintro W' ⟨z0, z1⟩; go_simp; try with_reducible rfl
        try simp only [Act.put, putA, putZ, putS]
        refine wpAnyZ_next (rs := [4]) (by kernel_rfl) (by simp) ?_
        refine NextZ.cons (o := ⟨some 36, _, _, _, _, _⟩) rfl (fun K hK => ?_) ?_
        ·
         go_simp
         refine (HIHK.out _ HAX.out).mono ?_
         rintro _ X2 ⟨R3, M3, rfl, hbf3, hcl3, hr3, hfr3⟩
         rw [HRL.out] at hbf3
         have HA3 := Lib.hid hbf3
         have HC3 := Lib.hid hcl3
         have HR3 := Lib.hid hr3
         have HF3 := Lib.hid hfr3
         clear hbf3 hcl3 hr3 hfr3
         (try go_wp2_with fail)
         refine hK.out _ _ (⟨(HA3.out.cell (.tail _ (.tail _ (.tail _ (.tail _ (.head _))))) 0).trans (by rw [HFV.out]; rfl), (HA3.out.cell (.tail _ (.tail _ (.head _))) k).trans ((a8_get _ hk8).trans (by rw [HLK.out]))⟩) (fun hS => ?_)
         clear hK K
         (try simp only [Act.put])
         refine wpAnyZ_done (by kernel_rfl) ?_ _
         have HC4 := Lib.hid (HCQ.out.trans (HC3.out.follow HRI2.out HGK.out (by rw [HLK.out, Int.toNat_natCast]; exact HR3.out)))
         have HM4 := Lib.hid (fun j hj => HC3.out.monM _ (HMQ.out j hj))
         have HF4 := Lib.hid (HFX.out.trans HF3.out)
         go_wp2_with fail
         go_roundw
         case rel => exact ⟨q + 1, R3, M3, by go_num, by omega, HA3.out, HC4.out, HM4.out, HF4.out⟩
         case measure => simp [intOf]; omega
        exact NextZ.nil
    · obtain rfl : q = n := by omega
      have hfin := HC.out.close (fun k hg => by
        obtain ⟨j, hj, e⟩ := List.getElem_of_mem ((HPI.out k).2 hg)
        have h := HM.out j (by have := HN.out; omega)
        rw [List.getD_eq_getElem?_getD, List.getElem?_eq_getElem hj, Option.getD_some, e] at h
        exact h) HGO.out
      have HFI := Lib.hid hfin
      clear hfin
      go_wp2_with fail
      go_end0
      exact ⟨R2, M2, rfl, by rw [HRL.out]; exact HA.out, HFI.out.1, HFI.out.2, HF.out⟩
/-- The search from one old entry. -/
theorem reach_any {g : Nat → Nat → Bool} {P : Nat → List Nat} {no nw : Nat} (B Bw Bl BR BM Bf : Nat) (xv : WkV) (l : Nat → Int) (D : Nat → Bool) (w : World)
    (hP : ∀ i k, k ∈ P i ↔ g i k = true) (hg8 : ∀ i k, g i k = true → k < 8) (hPl : ∀ i, (P i).length ≤ 8) (hwk : WkAt w B xv no nw P) (hno : no ≤ 8) (hl : Rg no l) (hd : Dead g l D)
    (hn2 : BR < BM) (hn4 : Bf ≠ BR ∧ Bf ≠ BM ∧ Bl ≠ BR ∧ Bl ≠ BM ∧ Bw ≠ BR ∧ Bw ≠ BM) : ∀ (f : Nat) 
    (i : Nat) (R M : Nat → Bool) (W : World), i < no → unseen 8 R < f → (∀ k, g i k = true → D k = true) → BF w W (RcL B Bw Bl BR BM Bf l R M) →
      Calls Tryz.prog 89 #[.int .i64 (i : Int), .pointer (some ⟨BR, 0, none⟩), .pointer (some ⟨Bw, 0, none⟩), .pointer (some ⟨BM, 0, none⟩), .pointer (some ⟨Bl, 0, none⟩), .pointer (some ⟨Bf, 0, none⟩)] W (GivesR w W B Bw Bl BR BM Bf g l D R M i)
  | 0, _, _, _, _, _, h, _, _ => absurd h (Nat.not_lt_zero _)
  | f + 1, i, R, M, W, hi, hu, hgood, hbf =>
    reach_step B Bw Bl BR BM Bf xv l D w hP hg8 hPl hwk hno hl hd hn2 hn4 f (reach_any B Bw Bl BR BM Bf xv l D w hP hg8 hPl hwk hno hl hd hn2 hn4 f) i R M W hi hu hgood hbf
end Go.Proofs.YtgbdbikjckfgmaaGreat
