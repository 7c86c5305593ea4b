/- Link: Always. Printed by gen_na.py. -/
import Derived.Test.YtgbdbikjckfgmaaGreatMZ
namespace Go.Proofs.YtgbdbikjckfgmaaGreat
open Go.RowKit Go.Shelf

def pickN (p : Nat → Bool) (n : Nat) : List Nat := (List.range n).filter p
theorem pickN_len (p : Nat → Bool) (n : Nat) : (pickN p n).length ≤ n := by
  have h := List.length_filter_le p (List.range n)
  rw [List.length_range] at h; exact h
theorem pickN_yes {p : Nat → Bool} {n : Nat} (h : p n = true) : pickN p (n + 1) = pickN p n ++ [n] := by
  unfold pickN; rw [List.range_succ, List.filter_append]; simp [h]
theorem pickN_no {p : Nat → Bool} {n : Nat} (h : p n = false) : pickN p (n + 1) = pickN p n := by
  unfold pickN; rw [List.range_succ, List.filter_append]; simp [h]
def flN (l : List Nat) : List Value := l.map fun (k : Nat) => .int .i64 (k : Int)
theorem flN_append (a b : List Nat) : flN (a ++ b) = flN a ++ flN b := List.map_append
theorem IntsIn.own {W : World} {base : Nat} {T : TypeId} {v : Value} {l : List Nat} (h : W.ownsRow base T 1 v l.length (flN l)) : IntsIn W v l.length (nz l) := by
  obtain ⟨a, c, rfl⟩ := own_slice' h
  rcases Nat.eq_zero_or_pos l.length with hn | hn
  · exact .inl ⟨a, c, by rw [hn], hn⟩
  · obtain ⟨g, rfl⟩ := own_somep h hn
    refine .inr ⟨g, 0, c, rfl, own_lt h rfl, fun j hj => ?_⟩
    have h1 : (flN l)[j]? = some (.int .i64 (nz l j)) := by
      unfold flN nz
      rw [List.getElem?_map, List.getElem?_eq_getElem hj]
      simp [hj]
    have e1 := h.cells (g := g) rfl _ _ h1
    rw [addr_add] at e1
    exact e1
theorem Tryz.infoInt0 : (Tryz.prog.info? 3).map (fun i => (i.zero, i.size, i.bytes)) = some (some (.int .i64 0), 1, 8) := by kernel_rfl
def Fl.alO (f : Fl) (i : Nat) : Bool := decide ((f.m [((i : Int), -1)]).2 < f.most)
def Fl.alN (f : Fl) (k : Nat) : Bool := decide ((f.m [(-1, (k : Int))]).2 < f.most)
def GivesA (w : World) (l1 l2 : List Nat) (e : Ending) (w' : World) : Prop := ∃ a c b d, e = .returned (.tuple #[.slice a l1.length c, .slice b l2.length d, .int .i64 0]) ∧ IntsIn w' (.slice a l1.length c) l1.length (nz l1) ∧ IntsIn w' (.slice b l2.length d) l2.length (nz l2) ∧ Below w.heap.size w w'
set_option maxHeartbeats 2000000 in
theorem alwaysF_bad (x : FV) (f : Fl) (w : World) (h : FlQ QP w x f) (h1 : f.no ≤ 100000) (h2 : f.nw ≤ 100000) (h3 : f.nm ≤ 100000) (hf : f.fault ≠ 0) :
    Calls Tryz.prog 27 #[.agg #[.slice x.oa f.no x.oc, .slice x.na f.nw x.nc, .slice x.ma f.nm x.mc]] w fun e w' => e = .returned (.tuple #[.slice none 0 0, .slice none 0 0, .int .i64 f.fault]) ∧ Below w.heap.size w w' := by
  have hb0 := below_alloc w (.cells #[.slice x.oa f.no x.oc, .slice x.na f.nw x.nc, .slice x.ma f.nm x.mc] 33)
  have HC := Lib.hid (work_bad x f _ (h.below QP.k hb0) h1 h2 h3 hf)
  have HB := Lib.hid hb0
  have hf1 : (f.fault != 0) = true := by simp [hf]
  clear h hf h1 h2 h3 hb0
  generalize f.fault = ft at *
  generalize f.no = no at *
  generalize f.nw = nw at *
  generalize f.nm = nm at *
  go_enter Tryz.func27, Tryz.ntmps27
  go_wp2_with fail
  refine HC.out.mono ?_
  rintro _ w1 ⟨rfl, hb⟩
  have HB1 := Lib.hid (below_step HB.out hb)
  clear hb
  go_wp2_with fail
  go_ret3
  exact ⟨rfl, HB1.out⟩
set_option maxRecDepth 100000 in
set_option maxHeartbeats 8000000 in
theorem alwaysF_ok (x : FV) (f : Fl) (w : World) (h : FlQ QP w x f) (hf : f.fault = 0) :
    Calls Tryz.prog 27 #[.agg #[.slice x.oa f.no x.oc, .slice x.na f.nw x.nc, .slice x.ma f.nm x.mc]] w (GivesA w (pickN f.alO f.no) (pickN f.alN f.nw)) := by
  obtain ⟨i0, hi0, hz0, hz1, hz2⟩ := info_parts Tryz.infoInt0
  have OK := Lib.hid (Fl.ok hf)
  have HA0 := Lib.hid ((BF.base w).alloc #[.slice x.oa f.no x.oc, .slice x.na f.nw x.nc, .slice x.ma f.nm x.mc] 33)
  have HC := Lib.hid (work_ok x f _ (h.below QP.k HA0.out.fr) hf)
  have HM := Lib.hid (fun B W (hW : WkF W B f) => lmost_any OK.out B none 0 [] W (by simp) hW (SkIn.nil _ _ _))
  have HE : Hid ((f.m []).2 = f.most) := rfl
  rw [HE.out] at HM
  have hno := OK.out.no
  have hnw := OK.out.nw
  obtain ⟨SO, hSO⟩ : ∃ SO : Nat → Nat, SO = fun (i : Nat) => (f.m [((i : Int), -1)]).2 := ⟨_, rfl⟩
  obtain ⟨SN, hSN⟩ : ∃ SN : Nat → Nat, SN = fun (i : Nat) => (f.m [(-1, (i : Int))]).2 := ⟨_, rfl⟩
  have HKO := Lib.hid (fun B i W (hW : WkF W B f) s c hs => lmost_any OK.out B s c [(((i : Nat) : Int), -1)] W (by simp) hW hs)
  have HKN := Lib.hid (fun B i W (hW : WkF W B f) s c hs => lmost_any OK.out B s c [(-1, ((i : Nat) : Int))] W (by simp) hW hs)
  have HYO : Hid (∀ i, SO i < f.most → pickN f.alO (i + 1) = pickN f.alO i ++ [i]) := fun i h => pickN_yes (by subst hSO; exact decide_eq_true h)
  have HNO : Hid (∀ i, ¬ SO i < f.most → pickN f.alO (i + 1) = pickN f.alO i) := fun i h => pickN_no (by subst hSO; exact decide_eq_false h)
  have HYN : Hid (∀ i, SN i < f.most → pickN f.alN (i + 1) = pickN f.alN i ++ [i]) := fun i h => pickN_yes (by subst hSN; exact decide_eq_true h)
  have HNN : Hid (∀ i, ¬ SN i < f.most → pickN f.alN (i + 1) = pickN f.alN i) := fun i h => pickN_no (by subst hSN; exact decide_eq_false h)
  have HLO := Lib.hid (fun i => pickN_len f.alO i)
  have HLN := Lib.hid (fun i => pickN_len f.alN i)
  have HKO2 : Hid (∀ B i W, WkF W B f → ∀ s c, SkIn W (.slice s 1 c) [(((i : Nat) : Int), -1)] → Calls Tryz.prog 73 #[.pointer (some ⟨B, 0, none⟩), .slice s 1 c] W fun e w' => e = .returned (.int .i64 (SO i : Int)) ∧ Below W.heap.size W w') := by subst hSO; exact fun B i W hW s c hs => HKO.out B i W hW s c hs
  have HKN2 : Hid (∀ B i W, WkF W B f → ∀ s c, SkIn W (.slice s 1 c) [(-1, ((i : Nat) : Int))] → Calls Tryz.prog 73 #[.pointer (some ⟨B, 0, none⟩), .slice s 1 c] W fun e w' => e = .returned (.int .i64 (SN i : Int)) ∧ Below W.heap.size W w') := by subst hSN; exact fun B i W hW s c hs => HKN.out B i W hW s c hs
  clear h hf HKO HKN hSO hSN HE
  generalize f.most = n at *
  generalize f.alO = pO at *
  generalize f.alN = pN at *
  generalize f.no = no at *
  generalize f.nw = nw at *
  generalize f.nm = nm at *
  go_enter Tryz.func27, Tryz.ntmps27
  go_wp2_with fail
  refine HC.out.mono ?_
  rintro _ w1 ⟨B, rfl, hwk, hb⟩
  have HW := Lib.hid hwk
  have HA1 := Lib.hid (HA0.out.below hb)
  clear hb hwk HC HA0
  have HKO := Lib.hid (HKO2.out B)
  have HKN := Lib.hid (HKN2.out B)
  clear HKO2 HKN2
  go_wp2_with fail
  refine (HM.out B _ HW.out).mono ?_
  rintro _ w2 ⟨rfl, hb⟩
  have HA2 := Lib.hid (HA1.out.below hb)
  have HW2 := Lib.hid (HW.out.below hb)
  clear hb HA1 HW HM
  have c0 := HA2.out.cell (.head _) 0
  have c1 := HA2.out.cell (.head _) 1
  have HWHKO := HW2
  go_wp2_with fail
  go_loopw [2, 22] (fun v i wr => ∃ k : Nat, i = .int .i64 (k : Int) ∧ k ≤ no ∧ wr.ownsRow w2.heap.size 3 1 v (pickN pO k).length (flN (pickN pO k)) ∧ Below w2.heap.size w2 wr) (fun _ i _ => no - (intOf i).toNat)
  case atStart => exact ⟨0, rfl, Nat.zero_le _, World.ownsRow_nil _ _ _ _, Below.refl _ _⟩
  case round =>
    obtain ⟨i, rfl, hi, hown, hbl⟩ := hrel
    rename World => wx
    obtain ⟨va, vc, rfl⟩ := own_slice' hown
    have HO := Lib.hid hown
    have HB := Lib.hid hbl
    clear hown hbl
    by_cases hlt : i < no
    · have hli := HLO.out i
      have HSK := Lib.hid (((BF.base wx).alloc #[.int .i64 (i : Int), .int .i64 (-1)] 127))
      have HB1 := Lib.hid (HB.out.trans ((below_alloc wx (.cells #[.int .i64 (i : Int), .int .i64 (-1)] 127)).mono HB.out.size))
      have HO1 := Lib.hid (own_below HO.out (below_alloc wx (.cells #[.int .i64 (i : Int), .int .i64 (-1)] 127)))
      have HMI := Lib.hid (HKO.out i _ (HWHKO.out.below HB1.out) (some ⟨wx.heap.size, 0, none⟩) 1 (HSK.out.sk1 (.head _)))
      have HYI := Lib.hid (HYO.out i)
      have HNI := Lib.hid (HNO.out i)
      generalize SO i = mi at *
      generalize hc1 : pickN pO (i + 1) = cl1 at *
      have HC1 := Lib.hid hc1
      clear hc1
      generalize pickN pO i = cl at *
      clear HO HB HSK
      go_wp2_with fail
      refine HMI.out.mono ?_
      rintro _ w4 ⟨rfl, hb4⟩
      have HO2 := Lib.hid (own_below HO1.out hb4)
      have HB2 := Lib.hid (HB1.out.trans (hb4.mono HB1.out.size))
      clear hb4 HO1 HB1 HMI
      by_cases hmn : mi < n
      · have hmn' : (mi : Int) < (n : Int) := by omega
        have HC2 := Lib.hid (HYI.out hmn)
        have hsz := HB2.out.size
        have HN := Lib.hid (World.news_of_block (heap_alloc_new w4 (.cells #[.int .i64 (i : Int)] 3)))
        have HOA := Lib.hid (World.ownsRow.alloc HO2.out (.cells #[.int .i64 (i : Int)] 3))
        have HBA := Lib.hid (HB2.out.trans ((below_alloc w4 (.cells #[.int .i64 (i : Int)] 3)).mono hsz))
        clear HO2 HB2
        go_wp2_with (at_builtin; refine wpList_append_src _ rfl (.tmp 32) (.tmp 34) 47 rfl w2.heap.size 3 i0 (.int .i64 0) 1 8 Tryz.underlying47 hi0 hz0 hz1 hz2 rfl (by decide) (.slice va cl.length vc) cl.length (flN cl) rfl HOA.out (some ⟨w4.heap.size, 0, none⟩) 1 1 [.int .i64 (i : Int)] rfl ⟨rfl, fun q u hu => ⟨_, rfl, HN.out q u hu⟩⟩ ?c0 ?c1 ?c2 ?c3 ?_)
        case c0 => simp [Value.oneCell']
        case c1 => unfold maxLen; omega
        case c2 => omega
        case c3 => simp; omega
        intro v' w5 hown hgr _
        have HO5 : Hid (w5.ownsRow w2.heap.size 3 1 v' cl1.length (flN cl1)) := by unfold Hid; rw [HC2.out, flN_append, List.length_append]; exact hown
        have HB5 := Lib.hid (HBA.out.trans ((Fr.grown hgr).low HBA.out.size (fun q hq e => by have := own_low HOA.out e; omega)))
        clear hown hgr
        go_wp2_with fail
        go_roundw
        case rel => exact ⟨i + 1, by go_num, by omega, by rw [HC1.out]; exact HO5.out, HB5.out⟩
        case measure => simp [intOf]; omega
      · have hmn' : ¬ (mi : Int) < (n : Int) := by omega
        have HC2 := Lib.hid (HNI.out hmn)
        go_wp2_with fail
        go_roundw
        case rel => exact ⟨i + 1, by go_num, by omega, by rw [HC1.out, HC2.out]; exact HO2.out, HB2.out⟩
        case measure => simp [intOf]; omega
    · obtain rfl : i = no := by omega
      have d1 := below_cell HB.out _ _ c1
      have HW3 := Lib.hid (HW2.out.below HB.out)
      have HWHKN := HW3
      have HI1 := Lib.hid (IntsIn.own HO.out)
      have HA3 := Lib.hid (HA2.out.fr.trans (HB.out.mono HA2.out.fr.size))
      clear HO HB
      go_wp2_with fail
      go_loopw [3, 40] (fun v i wr => ∃ k : Nat, i = .int .i64 (k : Int) ∧ k ≤ nw ∧ wr.ownsRow wx.heap.size 3 1 v (pickN pN k).length (flN (pickN pN k)) ∧ Below wx.heap.size wx wr) (fun _ i _ => nw - (intOf i).toNat)
      case atStart => exact ⟨0, rfl, Nat.zero_le _, World.ownsRow_nil _ _ _ _, Below.refl _ _⟩
      case round =>
        obtain ⟨i, rfl, hi, hown, hbl⟩ := hrel
        rename World => wy
        obtain ⟨va, vc, rfl⟩ := own_slice' hown
        have HO := Lib.hid hown
        have HB := Lib.hid hbl
        clear hown hbl
        by_cases hlt : i < nw
        · have hli := HLN.out i
          have HSK := Lib.hid (((BF.base wy).alloc #[.int .i64 (-1), .int .i64 (i : Int)] 127))
          have HB1 := Lib.hid (HB.out.trans ((below_alloc wy (.cells #[.int .i64 (-1), .int .i64 (i : Int)] 127)).mono HB.out.size))
          have HO1 := Lib.hid (own_below HO.out (below_alloc wy (.cells #[.int .i64 (-1), .int .i64 (i : Int)] 127)))
          have HMI := Lib.hid (HKN.out i _ (HWHKN.out.below HB1.out) (some ⟨wy.heap.size, 0, none⟩) 1 (HSK.out.sk1 (.head _)))
          have HYI := Lib.hid (HYN.out i)
          have HNI := Lib.hid (HNN.out i)
          generalize SN i = mi at *
          generalize hc1 : pickN pN (i + 1) = cl1 at *
          have HC1 := Lib.hid hc1
          clear hc1
          generalize pickN pN i = cl at *
          clear HO HB HSK
          go_wp2_with fail
          refine HMI.out.mono ?_
          rintro _ w4 ⟨rfl, hb4⟩
          have HO2 := Lib.hid (own_below HO1.out hb4)
          have HB2 := Lib.hid (HB1.out.trans (hb4.mono HB1.out.size))
          clear hb4 HO1 HB1 HMI
          by_cases hmn : mi < n
          · have hmn' : (mi : Int) < (n : Int) := by omega
            have HC2 := Lib.hid (HYI.out hmn)
            have hsz := HB2.out.size
            have HN := Lib.hid (World.news_of_block (heap_alloc_new w4 (.cells #[.int .i64 (i : Int)] 3)))
            have HOA := Lib.hid (World.ownsRow.alloc HO2.out (.cells #[.int .i64 (i : Int)] 3))
            have HBA := Lib.hid (HB2.out.trans ((below_alloc w4 (.cells #[.int .i64 (i : Int)] 3)).mono hsz))
            clear HO2 HB2
            go_wp2_with (at_builtin; refine wpList_append_src _ rfl (.tmp 50) (.tmp 52) 47 rfl wx.heap.size 3 i0 (.int .i64 0) 1 8 Tryz.underlying47 hi0 hz0 hz1 hz2 rfl (by decide) (.slice va cl.length vc) cl.length (flN cl) rfl HOA.out (some ⟨w4.heap.size, 0, none⟩) 1 1 [.int .i64 (i : Int)] rfl ⟨rfl, fun q u hu => ⟨_, rfl, HN.out q u hu⟩⟩ ?c0 ?c1 ?c2 ?c3 ?_)
            case c0 => simp [Value.oneCell']
            case c1 => unfold maxLen; omega
            case c2 => omega
            case c3 => simp; omega
            intro v' w5 hown hgr _
            have HO5 : Hid (w5.ownsRow wx.heap.size 3 1 v' cl1.length (flN cl1)) := by unfold Hid; rw [HC2.out, flN_append, List.length_append]; exact hown
            have HB5 := Lib.hid (HBA.out.trans ((Fr.grown hgr).low HBA.out.size (fun q hq e => by have := own_low HOA.out e; omega)))
            clear hown hgr
            go_wp2_with fail
            go_roundw
            case rel => exact ⟨i + 1, by go_num, by omega, by rw [HC1.out]; exact HO5.out, HB5.out⟩
            case measure => simp [intOf]; omega
          · have hmn' : ¬ (mi : Int) < (n : Int) := by omega
            have HC2 := Lib.hid (HNI.out hmn)
            go_wp2_with fail
            go_roundw
            case rel => exact ⟨i + 1, by go_num, by omega, by rw [HC1.out, HC2.out]; exact HO2.out, HB2.out⟩
            case measure => simp [intOf]; omega
        · obtain rfl : i = nw := by omega
          have HI2 := Lib.hid (IntsIn.own HO.out)
          have HI3 := Lib.hid (HI1.out.below HB.out)
          have HA4 := Lib.hid (HA3.out.trans (HB.out.mono HA3.out.size))
          go_wp2_with fail
          go_ret3
          exact ⟨_, _, _, _, rfl, HI3.out, HI2.out, HA4.out⟩

end Go.Proofs.YtgbdbikjckfgmaaGreat
