/- Link: Cover. Printed by gen_qj.py. -/
import Derived.Test.YtgbdbikjckfgmaaGreatQI
namespace Go.Proofs.YtgbdbikjckfgmaaGreat
open Go.RowKit Go.Shelf

theorem b8_no (R : Nat → Bool) (k : Nat) (v : Int) : (b8 R)[k]? ≠ some (.int .i64 v) := fun h => by
  by_cases hk : k < 8
  · rw [b8_get _ hk] at h; cases h
  · rw [Array.getElem?_eq_none (by rw [b8_size]; omega)] at h; cases h
theorem IntsIn.fr2 {w W W' : World} {v : Value} {n : Nat} {z : Nat → Int} {BR BM : Nat} {R M : Nat → Bool} {T1 T2 : TypeId} {L : List (Nat × Array Value × TypeId)} (h : IntsIn W v n z) (hA : BF w W L) (h1 : (BR, b8 R, T1) ∈ L) (h2 : (BM, b8 M, T2) ∈ L) (hf : Fr (fun q => q = BR ∨ q = BM) W W') : IntsIn W' v n z := by
  rcases h with h | ⟨b, off, cap, rfl, hb, hc⟩
  · exact .inl h
  · rcases Nat.eq_zero_or_pos n with rfl | hn
    · exact .inl ⟨_, _, rfl, rfl⟩
    · have ne : ∀ {BB : Nat} {S : Nat → Bool} {T : TypeId}, (BB, b8 S, T) ∈ L → b ≠ BB := fun hm e => by
        subst e
        have h0 := hc 0 hn
        rw [hA.cell hm] at h0
        exact b8_no _ _ _ h0
      have hbk := hf.block b hb (fun e => e.elim (ne h1) (ne h2))
      exact .inr ⟨b, off, cap, rfl, Nat.lt_of_lt_of_le hb hf.size, fun j hj => (World.cell?_of_block hbk).trans (hc j hj)⟩
def GivesCv (w : World) (f : Fl) (e : Ending) (w' : World) : Prop := ∃ l1 l2 : List Nat, GivesA w l1 l2 e w' ∧ f.isC l1.length (nz l1) l2.length (nz l2) = true ∧ l1.length + l2.length = f.most
set_option maxHeartbeats 4000000 in
theorem coverF_bad (x : FV) (f : Fl) (w : World) (h : FlQ QP w x f) (h1 : f.no ≤ 100000) (h2 : f.nw ≤ 100000) (h3 : f.nm ≤ 100000) (hf : f.fault ≠ 0) :
    Calls Tryz.prog 53 #[.agg #[.slice x.oa f.no x.oc, .slice x.na f.nw x.nc, .slice x.ma f.nm x.mc]] w fun e w' => e = .returned (.tuple #[.slice none 0 0, .slice none 0 0, .int .i64 f.fault]) ∧ Below w.heap.size w w' := by
  have hb0 := below_alloc w (.cells #[.slice x.oa f.no x.oc, .slice x.na f.nw x.nc, .slice x.ma f.nm x.mc] 33)
  have HC := Lib.hid (work_bad x f _ (h.below QP.k hb0) h1 h2 h3 hf)
  have HB := Lib.hid hb0
  have hf1 : (f.fault != 0) = true := by simp [hf]
  clear h hf h1 h2 h3 hb0
  generalize f.fault = ft at *
  generalize f.no = no at *
  generalize f.nw = nw at *
  generalize f.nm = nm at *
  go_enter Tryz.func53, Tryz.ntmps53
  go_wp2_with fail
  refine HC.out.mono ?_
  rintro _ w1 ⟨rfl, hb⟩
  have HB1 := Lib.hid (below_step HB.out hb)
  clear hb
  have HB2 := Lib.hid (HB1.out.trans ((below_alloc w1 (.cells #[.pointer none] 114)).mono HB1.out.size))
  go_wp2_with fail
  go_ret3
  exact ⟨rfl, HB2.out⟩
set_option maxRecDepth 100000 in
set_option maxHeartbeats 8000000 in
theorem coverF_ok (x : FV) (f : Fl) (w : World) (h : FlQ QP w x f) (hf : f.fault = 0) :
    Calls Tryz.prog 53 #[.agg #[.slice x.oa f.no x.oc, .slice x.na f.nw x.nc, .slice x.ma f.nm x.mc]] w (GivesCv w f) := by
  obtain ⟨i0, hi0, hz0, hz1, hz2⟩ := info_parts Tryz.infoInt0
  have OK := Lib.hid (Fl.ok hf)
  have HA0 := Lib.hid ((BF.base w).alloc #[.slice x.oa f.no x.oc, .slice x.na f.nw x.nc, .slice x.ma f.nm x.mc] 33)
  have HC := Lib.hid (work_ok x f _ (h.below QP.k HA0.out.fr) hf)
  have HM := Lib.hid (fun B W (hW : WkF W B f) => matchF_any OK.out B none 0 [] W (by simp) hW (SkIn.nil _ _ _))
  have HLI := Lib.hid (fun B W (hW : WkF W B f) => list_any OK.out B (f.m []).1 W hW (match_rg (g := offG f.g (SK [])) (P := f.P) (F := 9) (no := f.no) f.no (Nat.le_refl _)).1)
  have HLS : Hid ((fun i => backL (f.m []).1 i 8) = f.lst) := rfl
  rw [HLS.out] at HLI
  have HL8 := Lib.hid (a8_l8 (f.m []).1)
  have HSI := Lib.hid (info_8 (f.m []).1)
  have hno := OK.out.no
  have hnw := OK.out.nw
  have HRG : Hid (Rg f.no (f.m []).1) := (match_rg (g := offG f.g (SK [])) (P := f.P) (F := 9) (no := f.no) f.no (Nat.le_refl _)).1
  obtain ⟨D, hD⟩ := OK.out.bestD
  have HD := Lib.hid hD.dead
  have HFG : Hid (∀ i, i < f.no → f.lst i = -1 → ∀ k, f.g i k = true → D k = true) := fun i hi e => hD.free_good hi (OK.out.none_lst e)
  have HFI : Hid (∀ R M, Cl f.g (f.m []).1 D (fun _ => false) (fun _ => false) R M → (∀ i, i < f.no → f.lst i = -1 → R i = true) → f.isC (pickN (fun i => !R i) f.no).length (nz (pickN (fun i => !R i) f.no)) (pickN M f.nw).length (nz (pickN M f.nw)) = true ∧ (pickN (fun i => !R i) f.no).length + (pickN M f.nw).length = f.most) := fun R M c hb => OK.out.covered hD c hb
  have HRE : Hid (∀ (B Bw Bl BR BM Bf : Nat) (w : World), WkF w B f → BR < BM → Bf ≠ BR ∧ Bf ≠ BM ∧ Bl ≠ BR ∧ Bl ≠ BM ∧ Bw ≠ BR ∧ Bw ≠ BM → ∀ (i : Nat) (R M : Nat → Bool) (W : World), i < f.no → (∀ k, f.g i k = true → D k = true) → BF w W (RcL B Bw Bl BR BM Bf (f.m []).1 R M) →
      Calls Tryz.prog 89 #[.int .i64 (i : Int), .pointer (some ⟨BR, 0, none⟩), .pointer (some ⟨Bw, 0, none⟩), .pointer (some ⟨BM, 0, none⟩), .pointer (some ⟨Bl, 0, none⟩), .pointer (some ⟨Bf, 0, none⟩)] W (GivesR w W B Bw Bl BR BM Bf f.g (f.m []).1 D R M i)) := by
    intro B Bw Bl BR BM Bf w ⟨xv, hwk⟩ h1 h2 i R M W hi hg hb
    exact reach_any B Bw Bl BR BM Bf xv (f.m []).1 D w (fun i k => Fl.P_mem) (fun i k e => (OK.out.g8 i k e).2) (fun i => Nat.le_trans (f.P_len i) OK.out.nw) hwk OK.out.no HRG.out HD.out h1 h2 _ i R M W hi (Nat.lt_succ_self _) hg hb
  clear h hf hD
  unfold GivesCv
  generalize f.isC = isC at *
  generalize f.most = mo at *
  generalize f.lst = z at *
  generalize (f.m []).1 = l at *
  generalize (f.m []).2 = m at *
  generalize f.g = g at *
  generalize f.no = no at *
  generalize f.nw = nw at *
  generalize f.nm = nm at *
  go_enter Tryz.func53, Tryz.ntmps53
  go_wp2_with fail
  refine HC.out.mono ?_
  rintro _ w1 ⟨B, rfl, hwk, hb⟩
  have HW := Lib.hid hwk
  have HB1 := Lib.hid (HA0.out.fr.trans (hb.mono HA0.out.fr.size))
  have HAF := Lib.hid (HA0.out.below hb)
  have HA1 := Lib.hid ((BF.base w1).alloc #[.pointer (some ⟨B, 0, none⟩)] 114)
  have HMB := Lib.hid (HM.out B _ (HW.out.below HA1.out.fr))
  have e0 := HA1.out.cell (.head _) 0
  clear hb hwk HC HA0 HM
  go_wp2_with fail
  refine HMB.out.mono ?_
  rintro _ w2 ⟨rfl, hb⟩
  have HA2 := Lib.hid (HA1.out.below hb)
  clear hb HA1 HMB e0
  have hBw := (HA2.out.lt (.head _)).2
  rw [HL8.out]
  unfold l8
  have HA3 := Lib.hid (HA2.out.alloc (a8 l) 134)
  rw [HL8.out] at HA3
  unfold l8 at HA3
  go_upto_region 5 with fail
  have hBl := (HA3.out.lt (.head _)).2
  generalize (w2.alloc (.cells #[.int .i64 (l 0), .int .i64 (l 1), .int .i64 (l 2), .int .i64 (l 3), .int .i64 (l 4), .int .i64 (l 5), .int .i64 (l 6), .int .i64 (l 7)] 134)) = x3 at *
  have HA3' : Hid (BF w1 x3 [(w2.heap.size, a8 l, 134), (w1.heap.size, #[.pointer (some ⟨B, 0, none⟩)], 114)]) := HA3.out
  clear HA3 HA2 HL8
  generalize w2.heap.size = Bl at *
  have HB0 : Hid (b8 (fun _ => false) = #[.bool false, .bool false, .bool false, .bool false, .bool false, .bool false, .bool false, .bool false]) := by rfl
  have HA4 := Lib.hid (((HA3'.out.alloc (b8 (fun _ => false)) 149).alloc (b8 (fun _ => false)) 149).alloc #[.func (.func 89) #[] #[.pointer (some ⟨x3.heap.size, 0, none⟩), .pointer (some ⟨w1.heap.size, 0, none⟩), .pointer (some ⟨x3.heap.size + 1, 0, none⟩), .pointer (some ⟨Bl, 0, none⟩), .pointer (some ⟨x3.heap.size + 1 + 1, 0, none⟩)]] 150)
  repeat rw [World.size_alloc] at HA4
  rw [HB0.out] at HA4
  go_upto_region 8 with fail
  generalize (((x3.alloc (.cells #[.bool false, .bool false, .bool false, .bool false, .bool false, .bool false, .bool false, .bool false] 149)).alloc (.cells #[.bool false, .bool false, .bool false, .bool false, .bool false, .bool false, .bool false, .bool false] 149)).alloc (.cells #[.func (.func 89) #[] #[.pointer (some ⟨x3.heap.size, 0, none⟩), .pointer (some ⟨w1.heap.size, 0, none⟩), .pointer (some ⟨x3.heap.size + 1, 0, none⟩), .pointer (some ⟨Bl, 0, none⟩), .pointer (some ⟨x3.heap.size + 1 + 1, 0, none⟩)]] 150)) = x6 at *
  rw [← HB0.out] at HA4
  clear HA3' HB0
  obtain ⟨BR, hBR⟩ : ∃ BR, x3.heap.size = BR := ⟨_, rfl⟩
  rw [hBR] at HA4 hBl ⊢
  clear hBR
  obtain ⟨BM, hBM⟩ : ∃ BM, BR + 1 = BM := ⟨_, rfl⟩
  rw [hBM] at HA4 ⊢
  have h1 : BR < BM := by omega
  clear hBM
  obtain ⟨Bf, hBf⟩ : ∃ Bf, BM + 1 = Bf := ⟨_, rfl⟩
  rw [hBf] at HA4 ⊢
  have h2 : BM < Bf := by omega
  clear hBf
  have HR := Lib.hid (HRE.out B w1.heap.size Bl BR BM Bf w1 HW.out h1 ⟨by omega, by omega, by omega, by omega, by omega, by omega⟩)
  have HRL : Hid (∀ R M, RcL B w1.heap.size Bl BR BM Bf l R M = [(BR, b8 R, 149), (BM, b8 M, 149), (Bl, a8 l, 134), (w1.heap.size, #[.pointer (some ⟨B, 0, none⟩)], 114), (Bf, #[.func (.func 89) #[] #[.pointer (some ⟨BR, 0, none⟩), .pointer (some ⟨w1.heap.size, 0, none⟩), .pointer (some ⟨BM, 0, none⟩), .pointer (some ⟨Bl, 0, none⟩), .pointer (some ⟨Bf, 0, none⟩)]], 150)]) := fun _ _ => rfl
  unfold GivesR at HR
  have HLB := Lib.hid (HLI.out B _ (HW.out.below HA4.out.fr))
  have HBL2 := Lib.hid (HA4.out.bk _ _ _ (.tail _ (.tail _ (.tail _ (.head _))))).2
  have c0 := HA4.out.cell (.tail _ (.tail _ (.tail _ (.tail _ (.head _))))) 0
  clear HRE HLI HW
  go_wp2_with (refine wpList_load_row (o := ⟨some 30, .load 134 (.tmp 6), _, _, _, _⟩) rfl 134 (.tmp 6) rfl Bl rfl 134 (a8 l) (0, 0) _ HBL2.out Tryz.underlying134 rfl HSI.out ?_)
  refine HLB.out.mono ?_
  rintro _ w7 ⟨a, c, rfl, hz, hb⟩
  have HZ := Lib.hid hz
  have HA5 : Hid (BF w1 w7 (RcL B w1.heap.size Bl BR BM Bf l (fun _ => false) (fun _ => false))) := by rw [HRL.out]; exact (HA4.out.below hb).sub (List.forall_mem_cons.2 ⟨(.tail _ (.tail _ (.head _))), List.forall_mem_cons.2 ⟨(.tail _ (.head _)), List.forall_mem_cons.2 ⟨(.tail _ (.tail _ (.tail _ (.head _)))), List.forall_mem_cons.2 ⟨(.tail _ (.tail _ (.tail _ (.tail _ (.head _))))), List.forall_mem_cons.2 ⟨(.head _), List.forall_mem_nil _⟩⟩⟩⟩⟩)
  clear hz hb HA4 HBL2 c0 HLB HSI
  go_wp2_with fail
  go_loopw [33] (fun v wr => ∃ (q : Nat) (R M : Nat → Bool), v = .int .i64 (q : Int) ∧ q ≤ no ∧ BF w1 wr (RcL B w1.heap.size Bl BR BM Bf l R M) ∧ Cl g l D (fun _ => false) (fun _ => false) R M ∧ (∀ i, i < q → z i = -1 → R i = true) ∧ IntsIn wr (.slice a no c) no z) (fun v _ => no - (intOf v).toNat)
  case atStart => exact ⟨0, _, _, rfl, Nat.zero_le _, HA5.out, Cl.refl, fun i hi => absurd hi (Nat.not_lt_zero i), HZ.out⟩
  case round =>
    clear HA5 HZ
    obtain ⟨q, R2, M2, rfl, hq, hbf, hcl, hre, hz⟩ := hrel
    rename World => wx
    have HC2 := Lib.hid hcl
    have HRQ := Lib.hid hre
    have HZ := Lib.hid hz
    have HAR := Lib.hid hbf
    rw [HRL.out] at hbf
    have HA := Lib.hid hbf
    clear hcl hre hz hbf
    by_cases hlt : q < no
    · obtain ⟨zb, zo, rfl, hzb, y0⟩ := HZ.out.at hlt
      have ki : (0 : Int) ≤ (q : Int) := by omega
      have kj : (q : Int) < (no : Int) := by omega
      by_cases hz1 : z q = -1
      · rw [hz1] at y0
        have g0 := HA.out.cell (.tail _ (.tail _ (.tail _ (.tail _ (.head _))))) 0
        have HRC := Lib.hid (HR.out q R2 M2 wx hlt (HFG.out q hlt hz1) HAR.out)
        clear hz1
        go_wp2_with fail
        refine HRC.out.mono ?_
        rintro _ w8 ⟨R3, M3, rfl, hbf3, hcl3, hr3, hfr3⟩
        have HA3 := Lib.hid hbf3
        have HC3 := Lib.hid (HC2.out.trans hcl3)
        have HRQ3 : Hid (∀ i, i < q + 1 → z i = -1 → R3 i = true) := fun i hi e => by
          rcases Nat.lt_succ_iff_lt_or_eq.1 hi with hi | rfl
          · exact hcl3.monR _ (HRQ.out i hi e)
          · exact hr3
        have HZ3 := Lib.hid (HZ.out.fr2 HA.out (.head _) (.tail _ (.head _)) hfr3)
        clear hbf3 hcl3 hr3 hfr3 HRC g0 y0 HA HAR HC2 HRQ HZ
        go_wp2_with fail
        go_roundw
        case rel => exact ⟨q + 1, R3, M3, by go_num, by omega, HA3.out, HC3.out, HRQ3.out, HZ3.out⟩
        case measure => simp [intOf]; omega
      · have HRQ3 : Hid (∀ i, i < q + 1 → z i = -1 → R2 i = true) := fun i hi e => by
          rcases Nat.lt_succ_iff_lt_or_eq.1 hi with hi | rfl
          · exact HRQ.out i hi e
          · exact absurd e hz1
        obtain ⟨zv, hzv⟩ : ∃ zv, z q = zv := ⟨_, rfl⟩
        rw [hzv] at y0 hz1
        have kz : (zv == -1) = false := by simp [hz1]
        clear hzv hz1
        go_wp2_with fail
        go_roundw
        case rel => exact ⟨q + 1, R2, M2, by go_num, by omega, HAR.out, HC2.out, HRQ3.out, HZ.out⟩
        case measure => simp [intOf]; omega
    · obtain rfl : q = no := by omega
      have HFN := Lib.hid (HFI.out R2 M2 HC2.out (fun i hi e => HRQ.out i hi e))
      have HBX := Lib.hid (HB1.out.trans (HA.out.fr.mono HB1.out.size))
      have HAF2 := Lib.hid (HAF.out.below HA.out.fr)
      have e0 := HAF2.out.cell (.head _) 0
      clear HC2 HRQ HZ HAR HFI HFG HR HRL
      obtain ⟨pR, hpR⟩ : ∃ pR : Nat → Bool, pR = fun i => !R2 i := ⟨_, rfl⟩
      rw [← hpR] at HFN
      have HPI : Hid (∀ i, R2 i = false → pickN pR (i + 1) = pickN pR i ++ [i]) := fun i h => pickN_yes (by rw [hpR]; simp [h])
      have HPN : Hid (∀ i, R2 i = true → pickN pR (i + 1) = pickN pR i) := fun i h => pickN_no (by rw [hpR]; simp [h])
      have HMI : Hid (∀ i, M2 i = true → pickN M2 (i + 1) = pickN M2 i ++ [i]) := fun i h => pickN_yes h
      have HMN : Hid (∀ i, M2 i = false → pickN M2 (i + 1) = pickN M2 i) := fun i h => pickN_no h
      have HLR := Lib.hid (fun i => pickN_len pR i)
      have HLM := Lib.hid (fun i => pickN_len M2 i)
      clear hpR
      go_wp2_with fail
      go_loopw [2, 47] (fun v i wr => ∃ k : Nat, i = .int .i64 (k : Int) ∧ k ≤ q ∧ wr.ownsRow wx.heap.size 3 1 v (pickN pR k).length (flN (pickN pR k)) ∧ Below wx.heap.size wx wr) (fun _ i _ => q - (intOf i).toNat)
      case atStart => exact ⟨0, rfl, Nat.zero_le _, World.ownsRow_nil _ _ _ _, Below.refl _ _⟩
      case round =>
        obtain ⟨i, rfl, hi, hown, hbl⟩ := hrel
        rename World => wy
        obtain ⟨va, vc, rfl⟩ := own_slice' hown
        have HO := Lib.hid hown
        have HB := Lib.hid hbl
        have HX := Lib.hid (HA.out.below hbl)
        clear hown hbl
        by_cases hlt : i < q
        · have hli := HLR.out i
          have hi8 : i < 8 := by omega
          have e0 := (HX.out.cell (.head _) i).trans (b8_get _ hi8)
          have ki : (0 : Int) ≤ (i : Int) := by omega
          have kj : (i : Int) < 8 := by omega
          have kj2 : (i : Int) < (q : Int) := by omega
          have HYI := Lib.hid (HPI.out i)
          have HNI := Lib.hid (HPN.out i)
          generalize hc1 : pickN pR (i + 1) = cl1 at *
          have HC1 := Lib.hid hc1
          clear hc1
          generalize pickN pR i = cl at *
          cases hF : R2 i
          case true =>
            rw [hF] at e0
            have HC2 := Lib.hid (HNI.out hF)
            clear hF
            go_wp2_with fail
            go_roundw
            case rel => exact ⟨i + 1, by go_num, by omega, by rw [HC1.out, HC2.out]; exact HO.out, HB.out⟩
            case measure => simp [intOf]; omega
          case false =>
            rw [hF] at e0
            have HC2 := Lib.hid (HYI.out hF)
            clear hF
            have hsz := HB.out.size
            have HN := Lib.hid (World.news_of_block (heap_alloc_new wy (.cells #[.int .i64 (i : Int)] 3)))
            have HOA := Lib.hid (World.ownsRow.alloc HO.out (.cells #[.int .i64 (i : Int)] 3))
            have HBA := Lib.hid (HB.out.trans ((below_alloc wy (.cells #[.int .i64 (i : Int)] 3)).mono hsz))
            clear HO HB HX
            go_wp2_with (at_builtin; refine wpList_append_src _ rfl (.tmp 54) (.tmp 56) 47 rfl wx.heap.size 3 i0 (.int .i64 0) 1 8 Tryz.underlying47 hi0 hz0 hz1 hz2 rfl (by decide) (.slice va cl.length vc) cl.length (flN cl) rfl HOA.out (some ⟨wy.heap.size, 0, none⟩) 1 1 [.int .i64 (i : Int)] rfl ⟨rfl, fun q u hu => ⟨_, rfl, HN.out q u hu⟩⟩ ?c0 ?c1 ?c2 ?c3 ?_)
            case c0 => simp [Value.oneCell']
            case c1 => unfold maxLen; omega
            case c2 => omega
            case c3 => (try simp); omega
            intro v' w5 hown hgr _
            have HO5 : Hid (w5.ownsRow wx.heap.size 3 1 v' cl1.length (flN cl1)) := by unfold Hid; rw [HC2.out, flN_append, List.length_append]; exact hown
            have HB5 := Lib.hid (HBA.out.trans ((Fr.grown hgr).low HBA.out.size (fun q hq e => by have := own_low HOA.out e; omega)))
            clear hown hgr
            go_wp2_with fail
            go_roundw
            case rel => exact ⟨i + 1, by go_num, by omega, by rw [HC1.out]; exact HO5.out, HB5.out⟩
            case measure => simp [intOf]; omega
        · obtain rfl : i = q := by omega
          have HAF3 := Lib.hid (HAF2.out.below HB.out)
          have e1 := HAF3.out.cell (.head _) 1
          have HI1 := Lib.hid (IntsIn.own HO.out)
          have HBY := Lib.hid (HBX.out.trans (HB.out.mono HBX.out.size))
          clear HO HB
          go_wp2_with fail
          go_loopw [3, 62] (fun v i wr => ∃ k : Nat, i = .int .i64 (k : Int) ∧ k ≤ nw ∧ wr.ownsRow wy.heap.size 3 1 v (pickN M2 k).length (flN (pickN M2 k)) ∧ Below wy.heap.size wy wr) (fun _ i _ => nw - (intOf i).toNat)
          case atStart => exact ⟨0, rfl, Nat.zero_le _, World.ownsRow_nil _ _ _ _, Below.refl _ _⟩
          case round =>
            obtain ⟨i, rfl, hi, hown, hbl⟩ := hrel
            rename World => wz
            obtain ⟨va, vc, rfl⟩ := own_slice' hown
            have HO := Lib.hid hown
            have HB := Lib.hid hbl
            have HX := Lib.hid (HX.out.below hbl)
            clear hown hbl
            by_cases hlt : i < nw
            · have hli := HLM.out i
              have hi8 : i < 8 := by omega
              have e0 := (HX.out.cell (.tail _ (.head _)) i).trans (b8_get _ hi8)
              have ki : (0 : Int) ≤ (i : Int) := by omega
              have kj : (i : Int) < 8 := by omega
              have kj2 : (i : Int) < (nw : Int) := by omega
              have HYI := Lib.hid (HMI.out i)
              have HNI := Lib.hid (HMN.out i)
              generalize hc1 : pickN M2 (i + 1) = cl1 at *
              have HC1 := Lib.hid hc1
              clear hc1
              generalize pickN M2 i = cl at *
              cases hF : M2 i
              case false =>
                rw [hF] at e0
                have HC2 := Lib.hid (HNI.out hF)
                clear hF
                go_wp2_with fail
                go_roundw
                case rel => exact ⟨i + 1, by go_num, by omega, by rw [HC1.out, HC2.out]; exact HO.out, HB.out⟩
                case measure => simp [intOf]; omega
              case true =>
                rw [hF] at e0
                have HC2 := Lib.hid (HYI.out hF)
                clear hF
                have hsz := HB.out.size
                have HN := Lib.hid (World.news_of_block (heap_alloc_new wz (.cells #[.int .i64 (i : Int)] 3)))
                have HOA := Lib.hid (World.ownsRow.alloc HO.out (.cells #[.int .i64 (i : Int)] 3))
                have HBA := Lib.hid (HB.out.trans ((below_alloc wz (.cells #[.int .i64 (i : Int)] 3)).mono hsz))
                clear HO HB HX
                go_wp2_with (at_builtin; refine wpList_append_src _ rfl (.tmp 68) (.tmp 70) 47 rfl wy.heap.size 3 i0 (.int .i64 0) 1 8 Tryz.underlying47 hi0 hz0 hz1 hz2 rfl (by decide) (.slice va cl.length vc) cl.length (flN cl) rfl HOA.out (some ⟨wz.heap.size, 0, none⟩) 1 1 [.int .i64 (i : Int)] rfl ⟨rfl, fun q u hu => ⟨_, rfl, HN.out q u hu⟩⟩ ?c0 ?c1 ?c2 ?c3 ?_)
                case c0 => simp [Value.oneCell']
                case c1 => unfold maxLen; omega
                case c2 => omega
                case c3 => (try simp); omega
                intro v' w5 hown hgr _
                have HO5 : Hid (w5.ownsRow wy.heap.size 3 1 v' cl1.length (flN cl1)) := by unfold Hid; rw [HC2.out, flN_append, List.length_append]; exact hown
                have HB5 := Lib.hid (HBA.out.trans ((Fr.grown hgr).low HBA.out.size (fun q hq e => by have := own_low HOA.out e; omega)))
                clear hown hgr
                go_wp2_with fail
                go_roundw
                case rel => exact ⟨i + 1, by go_num, by omega, by rw [HC1.out]; exact HO5.out, HB5.out⟩
                case measure => simp [intOf]; omega
            · obtain rfl : i = nw := by omega
              have HI2 := Lib.hid (IntsIn.own HO.out)
              have HI3 := Lib.hid (HI1.out.below HB.out)
              have HBZ := Lib.hid (HBY.out.trans (HB.out.mono HBY.out.size))
              go_wp2_with fail
              go_ret3
              exact ⟨_, _, ⟨_, _, _, _, rfl, HI3.out, HI2.out, HBZ.out⟩, HFN.out.1, HFN.out.2⟩
end Go.Proofs.YtgbdbikjckfgmaaGreat
