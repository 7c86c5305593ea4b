/- Link: chosen, Pairs, Sure, Possible. Printed by gen_mx.py. -/
import Derived.Test.YtgbdbikjckfgmaaGreatM6
namespace Go.Proofs.YtgbdbikjckfgmaaGreat
open Go.RowKit Go.Shelf

theorem flatP_get (l : List (Int × Int)) {j : Nat} (h : j < l.length) : (flat l)[j * 2]? = some (.int .i64 (l.getD j (0, 0)).1) ∧ (flat l)[j * 2 + 1]? = some (.int .i64 (l.getD j (0, 0)).2) := by
  induction l generalizing j with
  | nil => simp at h
  | cons x l ih =>
    cases j with
    | zero => exact ⟨rfl, rfl⟩
    | succ j =>
      have hj : j < l.length := by simpa using h
      obtain ⟨h1, h2⟩ := ih hj
      rw [show (j + 1) * 2 = j * 2 + 1 + 1 by omega]
      exact ⟨h1, h2⟩
theorem SkIn.own {W : World} {base : Nat} {T : TypeId} {v : Value} {l : List (Int × Int)} (h : W.ownsRow base T 2 v l.length (flat l)) : SkIn W v l := by
  obtain ⟨a, c, rfl⟩ := own_slice' h
  rcases Nat.eq_zero_or_pos l.length with hn | hn
  · exact .inl ⟨a, c, by rw [hn], hn⟩
  · obtain ⟨g, rfl⟩ := own_somep h hn
    refine .inr ⟨g, 0, c, rfl, own_lt h rfl, fun j hj => ?_⟩
    obtain ⟨h1, h2⟩ := flatP_get l hj
    have e1 := h.cells (g := g) rfl _ _ h1
    have e2 := h.cells (g := g) rfl _ _ h2
    rw [addr_add] at e1 e2
    exact ⟨e1, e2⟩
/-- The pairs of a file that pass a test. -/
def pT (_ _ : Nat) : Bool := true
def rowP (p : Nat → Nat → Bool) (i : Nat) (L : List Nat) : List (Int × Int) := (L.filter (p i)).map fun (k : Nat) => ((i : Int), (k : Int))
def chL (f : Fl) (p : Nat → Nat → Bool) (n : Nat) : List (Int × Int) := (List.range n).flatMap fun i => rowP p i (f.P i)
theorem chL_succ (f : Fl) (p : Nat → Nat → Bool) (n : Nat) : chL f p (n + 1) = chL f p n ++ rowP p n (f.P n) := by
  unfold chL; rw [List.range_succ, List.flatMap_append]; simp
theorem rowP_len (p : Nat → Nat → Bool) (i : Nat) (L : List Nat) : (rowP p i L).length ≤ L.length := by
  unfold rowP; rw [List.length_map]; exact List.length_filter_le _ _
theorem chL_len (f : Fl) (h : f.nw ≤ 8) (p : Nat → Nat → Bool) : ∀ n, (chL f p n).length ≤ 8 * n
  | 0 => by simp [chL]
  | n + 1 => by
    have h1 := chL_len f h p n
    have h2 := rowP_len p n (f.P n)
    have h3 := f.P_len n
    rw [chL_succ, List.length_append]; omega
theorem rowP_take (f : Fl) (p : Nat → Nat → Bool) (i j : Nat) (hj : j < (f.P i).length) : rowP p i ((f.P i).take (j + 1)) = rowP p i ((f.P i).take j) ++ if p i (nz (f.P i) j).toNat = true then [((i : Int), nz (f.P i) j)] else [] := by
  have e : (f.P i)[j] = (nz (f.P i) j).toNat := by unfold nz; simp [hj]
  have e2 : (((f.P i)[j] : Nat) : Int) = nz (f.P i) j := by unfold nz; simp [hj]
  unfold rowP
  rw [List.take_succ_eq_append_getElem hj, List.filter_append, List.map_append]
  congr 1
  rw [List.filter_cons, List.filter_nil, ← e]
  by_cases c : p i (f.P i)[j] = true
  · rw [if_pos c, if_pos c, List.map_cons, List.map_nil, e2]
  · rw [if_neg c, if_neg c]; rfl
theorem nz_nat (l : List Nat) (j : Nat) : nz l j = ((nz l j).toNat : Int) := by unfold nz; omega
theorem Tryz.infoPair : (Tryz.prog.info? 58).map (fun i => (i.zero, i.size, i.bytes)) = some (some (.agg #[.int .i64 0, .int .i64 0]), 2, 16) := by kernel_rfl
def GivesP (w : World) (l : List (Int × Int)) (e : Ending) (w' : World) : Prop := ∃ a c, e = .returned (.tuple #[.slice a l.length c, .int .i64 0]) ∧ SkIn w' (.slice a l.length c) l ∧ Below w.heap.size w w'
theorem pairs1_any (v : Value) (i k : Nat) (w : World) : Calls Tryz.prog 65 #[v, .agg #[.int .i64 (i : Int), .int .i64 (k : Int)]] w fun e w' => e = .returned (.bool (pT i k)) ∧ Below w.heap.size w w' := by
  go_enter Tryz.func65, Tryz.ntmps65
  go_wp2
  go_ret
  exact ⟨rfl, below_alloc _ _⟩
set_option maxHeartbeats 2000000 in
theorem chosen_bad (fv : Value) (x : FV) (f : Fl) (w : World) (h : FlQ QP w x f) (h1 : f.no ≤ 100000) (h2 : f.nw ≤ 100000) (h3 : f.nm ≤ 100000) (hf : f.fault ≠ 0) :
    Calls Tryz.prog 64 #[.agg #[.slice x.oa f.no x.oc, .slice x.na f.nw x.nc, .slice x.ma f.nm x.mc], fv] w fun e w' => e = .returned (.tuple #[.slice none 0 0, .int .i64 f.fault]) ∧ Below w.heap.size w w' := by
  have hb0 := below_alloc w (.cells #[.slice x.oa f.no x.oc, .slice x.na f.nw x.nc, .slice x.ma f.nm x.mc] 33)
  have HC := Lib.hid (work_bad x f _ (h.below QP.k hb0) h1 h2 h3 hf)
  have HB := Lib.hid hb0
  have hf1 : (f.fault != 0) = true := by simp [hf]
  clear h hf h1 h2 h3 hb0
  generalize f.fault = ft at *
  generalize f.no = no at *
  generalize f.nw = nw at *
  generalize f.nm = nm at *
  go_enter Tryz.func64, Tryz.ntmps64
  go_wp2_with fail
  refine HC.out.mono ?_
  rintro _ w1 ⟨rfl, hb⟩
  have HB1 := Lib.hid (below_step HB.out hb)
  clear hb
  go_wp2_with fail
  go_ret2
  exact ⟨rfl, HB1.out⟩
set_option maxRecDepth 100000 in
set_option maxHeartbeats 8000000 in
theorem chosen_all (x : FV) (f : Fl) (w : World) (h : FlQ QP w x f) (hf : f.fault = 0) :
    Calls Tryz.prog 64 #[.agg #[.slice x.oa f.no x.oc, .slice x.na f.nw x.nc, .slice x.ma f.nm x.mc], .func (.func 65) #[] #[]] w (GivesP w (chL f pT f.no)) := by
  obtain ⟨i0, hi0, hz0, hz1, hz2⟩ := info_parts Tryz.infoPair
  have OK := Lib.hid (Fl.ok hf)
  have hno := OK.out.no
  have hnw := OK.out.nw
  have hb0 := below_alloc w (.cells #[.slice x.oa f.no x.oc, .slice x.na f.nw x.nc, .slice x.ma f.nm x.mc] 33)
  have HC := Lib.hid (work_ok x f _ (h.below QP.k hb0) hf)
  have HB0 := Lib.hid hb0
  have HCON := Lib.hid (fun B i k W (hW : WkF W B f) => pairs1_any (.pointer (some ⟨B, 0, none⟩)) i k W)
  have HL := Lib.hid (chL_len f hnw pT)
  have HS := Lib.hid (chL_succ f pT)
  have HPL := Lib.hid (fun i => f.P_len i)
  have HT := Lib.hid (fun i j hj => rowP_take f pT i j hj)
  have HTA := Lib.hid (fun i => show rowP pT i ((f.P i).take (f.P i).length) = rowP pT i (f.P i) by rw [List.take_length])
  have HRL := Lib.hid (fun i L => rowP_len pT i L)
  have HP : Hid (∀ l, l = chL f pT f.no → ∀ W a c, SkIn W (.slice a l.length c) l → Below w.heap.size w W → GivesP w (chL f pT f.no) (.returned (.tuple #[.slice a l.length c, .int .i64 0])) W) := fun l hl W a c h1 h2 => by subst hl; exact ⟨a, c, rfl, h1, h2⟩
  clear h hf hb0
  generalize f.nw = nw at *
  generalize f.nm = nm at *
  go_enter Tryz.func64, Tryz.ntmps64
  go_wp2_with fail
  refine HC.out.mono ?_
  rintro _ w1 ⟨B, rfl, hwk, hb⟩
  have HW := Lib.hid hwk
  have HB1 := Lib.hid (below_step HB0.out hb)
  obtain ⟨xv, hwk⟩ := hwk
  have k4 := hwk.c4
  have hBl := hwk.lt
  have HRW := Lib.hid hwk.rows
  clear hwk hb HC HB0
  generalize f.no = no at *
  go_wp2_with fail
  go_loopw [8, 27] (fun v i wr => ∃ k : Nat, i = .int .i64 (k : Int) ∧ k ≤ no ∧ wr.ownsRow w1.heap.size 58 2 v (chL f pT k).length (flat (chL f pT k)) ∧ Below w1.heap.size w1 wr) (fun _ i _ => no - (intOf i).toNat)
  case atStart => exact ⟨0, rfl, Nat.zero_le _, World.ownsRow_nil _ _ _ _, Below.refl _ _⟩
  case round =>
    obtain ⟨i, rfl, hi, hown, hbl⟩ := hrel
    rename World => wx
    obtain ⟨va, vc, rfl⟩ := own_slice' hown
    have HO := Lib.hid hown
    have HB := Lib.hid hbl
    clear hown hbl
    by_cases hlt : i < no
    · obtain ⟨rb, ro, ra, rc, hpa, hrb, hrc, hri⟩ := HRW.out.at hlt
      rw [hpa]
      have x0 := below_cell HB.out _ _ hrc
      have HRI := Lib.hid (fun X (hX : Below w1.heap.size w1 X) => hri.below hX)
      have HSI := Lib.hid (HS.out i)
      have HLI := Lib.hid (HL.out i)
      have HPI := Lib.hid (HPL.out i)
      have HTI := Lib.hid (HT.out i)
      have HTE := Lib.hid (HTA.out i)
      have HRLI := Lib.hid (HRL.out i)
      have HCI := Lib.hid (HCON.out B i)
      have ki : (0 : Int) ≤ (i : Int) := by omega
      have kj : (i : Int) < (no : Int) := by omega
      clear hri hrc hpa
      have hm : (f.P i).length ≤ 8 := by have := HPI.out; omega
      go_wp2_with fail
      go_loopw [8, 34] (fun v i2 wr => ∃ j : Nat, i2 = .int .i64 (j : Int) ∧ j ≤ (f.P i).length ∧ wr.ownsRow w1.heap.size 58 2 v (chL f pT i ++ rowP pT i ((f.P i).take j)).length (flat (chL f pT i ++ rowP pT i ((f.P i).take j))) ∧ Below w1.heap.size w1 wr) (fun _ i2 _ => (f.P i).length - (intOf i2).toNat)
      case atStart => exact ⟨0, rfl, Nat.zero_le _, by rw [List.take_zero, show rowP pT i [] = [] from rfl, List.append_nil]; exact HO.out, HB.out⟩
      case round =>
        clear HO HB x0
        obtain ⟨j, rfl, hj, hown, hbl⟩ := hrel
        rename World => wy
        obtain ⟨va, vc, rfl⟩ := own_slice' hown
        have HO := Lib.hid hown
        have HB := Lib.hid hbl
        clear hown hbl
        by_cases hlt2 : j < (f.P i).length
        · obtain ⟨qb, qo, hqa, hqb, y0⟩ := (HRI.out wy HB.out).at hlt2
          rw [hqa]
          have HNZ := Lib.hid (nz_nat (f.P i) j)
          have HTJ := Lib.hid (HTI.out j hlt2)
          have HRJ := Lib.hid (HRLI.out ((f.P i).take j))
          have hlen : (rowP pT i ((f.P i).take j)).length ≤ 8 := by
            have := HRJ.out
            rw [List.length_take] at this
            omega
          have hli := HLI.out
          have HCJ := Lib.hid (HCI.out (nz (f.P i) j).toNat)
          rw [← HNZ.out] at HCJ
          have HBA := Lib.hid (below_alloc wy (.cells #[.int .i64 (i : Int), .int .i64 (nz (f.P i) j)] 58))
          have HWK := Lib.hid (HW.out.below (HB.out.trans (HBA.out.mono HB.out.size)))
          have HEA := Lib.hid (heap_alloc_new wy (.cells #[.int .i64 (i : Int), .int .i64 (nz (f.P i) j)] 58))
          have ji : (0 : Int) ≤ (j : Int) := by omega
          have jj : (j : Int) < ((f.P i).length : Int) := by omega
          have HLE : Hid ((chL f pT i ++ rowP pT i ((f.P i).take j)).length ≤ 8 * i + 8) := by unfold Hid; rw [List.length_append]; omega
          generalize hcl : chL f pT i ++ rowP pT i ((f.P i).take j) = cl at *
          have HCLE : Hid (chL f pT i ++ rowP pT i ((f.P i).take (j + 1)) = cl ++ if pT i (nz (f.P i) j).toNat = true then [((i : Int), nz (f.P i) j)] else []) := by unfold Hid; rw [HTJ.out, ← List.append_assoc, hcl]
          clear hcl HTJ hlen hli HRJ HNZ
          generalize hpr : pT i (nz (f.P i) j).toNat = pr at *
          clear hpr
          generalize nz (f.P i) j = kk at *
          have HO1 := Lib.hid (own_below HO.out HBA.out)
          have HB1 := Lib.hid (HB.out.trans (HBA.out.mono HB.out.size))
          clear HO HB
          go_wp2_with fail
          generalize wy.heap.size = PB at *
          generalize wy.alloc (.cells #[.int .i64 (i : Int), .int .i64 kk] 58) = wz at *
          refine (HCJ.out _ HWK.out).mono ?_
          rintro _ w4 ⟨rfl, hb4⟩
          have HO2 := Lib.hid (own_below HO1.out hb4)
          have HB2 := Lib.hid (HB1.out.trans (hb4.mono HB1.out.size))
          have HE2 : Hid (w4.heap[PB]? = some (.cells #[.int .i64 (i : Int), .int .i64 kk] 58 (0, 0))) := (hb4.block _ (Array.getElem?_eq_some_iff.1 HEA.out).1).trans HEA.out
          clear hb4 HO1 HB1 HEA HBA HWK HCJ y0
          have hcl := HLE.out
          cases pr
          · have HC2 : Hid (chL f pT i ++ rowP pT i ((f.P i).take (j + 1)) = cl) := by unfold Hid; rw [HCLE.out]; simp
            go_wp2_with fail
            go_roundw
            case rel => exact ⟨j + 1, by go_num, by omega, by rw [HC2.out]; exact HO2.out, HB2.out⟩
            case measure => simp [intOf]; omega
          · have HC2 : Hid (chL f pT i ++ rowP pT i ((f.P i).take (j + 1)) = cl ++ [((i : Int), kk)]) := by unfold Hid; rw [HCLE.out]; simp
            have e0 : w4.cell? ⟨PB, 0, none⟩ = some (.int .i64 (i : Int)) := cell_of_row _ _ 0 _ _ _ HE2.out
            have e1 : w4.cell? ⟨PB, 1, none⟩ = some (.int .i64 kk) := cell_of_row _ _ 1 _ _ _ HE2.out
            have hsz := HB2.out.size
            have HN := Lib.hid (World.news_of_block (heap_alloc_new w4 (.cells #[.int .i64 (i : Int), .int .i64 kk] 58)))
            have HOA := Lib.hid (World.ownsRow.alloc HO2.out (.cells #[.int .i64 (i : Int), .int .i64 kk] 58))
            have HBA := Lib.hid (HB2.out.trans ((below_alloc w4 (.cells #[.int .i64 (i : Int), .int .i64 kk] 58)).mono hsz))
            clear HCLE HLE HO2 HB2 HE2
            go_wp2_with (at_builtin; refine wpList_append_src _ rfl (.tmp 45) (.tmp 47) 35 rfl w1.heap.size 58 i0 (.agg #[.int .i64 0, .int .i64 0]) 2 16 Tryz.underlying35 hi0 hz0 hz1 hz2 rfl (by decide) (.slice va cl.length vc) cl.length (flat cl) rfl HOA.out (some ⟨w4.heap.size, 0, none⟩) 1 1 [.int .i64 (i : Int), .int .i64 kk] rfl ⟨rfl, fun q u hu => ⟨_, rfl, HN.out q u hu⟩⟩ ?c0 ?c1 ?c2 ?c3 ?_)
            case c0 => simp [Value.oneCell']
            case c1 => unfold maxLen; omega
            case c2 => omega
            case c3 => simp; omega
            intro v' w5 hown hgr _
            have HO5 : Hid (w5.ownsRow w1.heap.size 58 2 v' (cl ++ [((i : Int), kk)]).length (flat (cl ++ [((i : Int), kk)]))) := by unfold Hid; rw [flat_append, List.length_append]; exact hown
            have HB5 := Lib.hid (HBA.out.trans ((Fr.grown hgr).low HBA.out.size (fun q hq e => by have := own_low HOA.out e; omega)))
            clear hown hgr
            go_wp2_with fail
            go_roundw
            case rel => exact ⟨j + 1, by go_num, by omega, by rw [HC2.out]; exact HO5.out, HB5.out⟩
            case measure => simp [intOf]; omega
        · have HE : Hid (chL f pT i ++ rowP pT i ((f.P i).take j) = chL f pT (i + 1)) := by
            have hjl : j = (f.P i).length := by omega
            unfold Hid; rw [hjl, HTE.out, ← HSI.out]
          rw [HE.out] at HO ⊢
          go_wp2_with fail
          go_roundw
          case rel => exact ⟨i + 1, by go_num, by omega, HO.out, HB.out⟩
          case measure => simp [intOf]; omega
    · obtain rfl : i = no := by omega
      have HS2 := Lib.hid (SkIn.own HO.out)
      have HBE := Lib.hid (HB1.out.trans (HB.out.mono HB1.out.size))
      go_wp2_with fail
      go_ret2
      exact HP.out _ rfl _ _ _ HS2.out HBE.out
set_option maxRecDepth 100000 in
set_option maxHeartbeats 8000000 in
theorem chosen_sure (x : FV) (f : Fl) (w : World) (h : FlQ QP w x f) (hf : f.fault = 0) :
    Calls Tryz.prog 64 #[.agg #[.slice x.oa f.no x.oc, .slice x.na f.nw x.nc, .slice x.ma f.nm x.mc], .func (.func 79) #[] #[]] w (GivesP w (chL f f.sure f.no)) := by
  obtain ⟨i0, hi0, hz0, hz1, hz2⟩ := info_parts Tryz.infoPair
  have OK := Lib.hid (Fl.ok hf)
  have hno := OK.out.no
  have hnw := OK.out.nw
  have hb0 := below_alloc w (.cells #[.slice x.oa f.no x.oc, .slice x.na f.nw x.nc, .slice x.ma f.nm x.mc] 33)
  have HC := Lib.hid (work_ok x f _ (h.below QP.k hb0) hf)
  have HB0 := Lib.hid hb0
  have HCON := Lib.hid (fun B i k W (hW : WkF W B f) => lsure_any OK.out B i k W hW)
  have HL := Lib.hid (chL_len f hnw f.sure)
  have HS := Lib.hid (chL_succ f f.sure)
  have HPL := Lib.hid (fun i => f.P_len i)
  have HT := Lib.hid (fun i j hj => rowP_take f f.sure i j hj)
  have HTA := Lib.hid (fun i => show rowP f.sure i ((f.P i).take (f.P i).length) = rowP f.sure i (f.P i) by rw [List.take_length])
  have HRL := Lib.hid (fun i L => rowP_len f.sure i L)
  have HP : Hid (∀ l, l = chL f f.sure f.no → ∀ W a c, SkIn W (.slice a l.length c) l → Below w.heap.size w W → GivesP w (chL f f.sure f.no) (.returned (.tuple #[.slice a l.length c, .int .i64 0])) W) := fun l hl W a c h1 h2 => by subst hl; exact ⟨a, c, rfl, h1, h2⟩
  clear h hf hb0
  generalize f.nw = nw at *
  generalize f.nm = nm at *
  go_enter Tryz.func64, Tryz.ntmps64
  go_wp2_with fail
  refine HC.out.mono ?_
  rintro _ w1 ⟨B, rfl, hwk, hb⟩
  have HW := Lib.hid hwk
  have HB1 := Lib.hid (below_step HB0.out hb)
  obtain ⟨xv, hwk⟩ := hwk
  have k4 := hwk.c4
  have hBl := hwk.lt
  have HRW := Lib.hid hwk.rows
  clear hwk hb HC HB0
  generalize f.no = no at *
  go_wp2_with fail
  go_loopw [8, 27] (fun v i wr => ∃ k : Nat, i = .int .i64 (k : Int) ∧ k ≤ no ∧ wr.ownsRow w1.heap.size 58 2 v (chL f f.sure k).length (flat (chL f f.sure k)) ∧ Below w1.heap.size w1 wr) (fun _ i _ => no - (intOf i).toNat)
  case atStart => exact ⟨0, rfl, Nat.zero_le _, World.ownsRow_nil _ _ _ _, Below.refl _ _⟩
  case round =>
    obtain ⟨i, rfl, hi, hown, hbl⟩ := hrel
    rename World => wx
    obtain ⟨va, vc, rfl⟩ := own_slice' hown
    have HO := Lib.hid hown
    have HB := Lib.hid hbl
    clear hown hbl
    by_cases hlt : i < no
    · obtain ⟨rb, ro, ra, rc, hpa, hrb, hrc, hri⟩ := HRW.out.at hlt
      rw [hpa]
      have x0 := below_cell HB.out _ _ hrc
      have HRI := Lib.hid (fun X (hX : Below w1.heap.size w1 X) => hri.below hX)
      have HSI := Lib.hid (HS.out i)
      have HLI := Lib.hid (HL.out i)
      have HPI := Lib.hid (HPL.out i)
      have HTI := Lib.hid (HT.out i)
      have HTE := Lib.hid (HTA.out i)
      have HRLI := Lib.hid (HRL.out i)
      have HCI := Lib.hid (HCON.out B i)
      have ki : (0 : Int) ≤ (i : Int) := by omega
      have kj : (i : Int) < (no : Int) := by omega
      clear hri hrc hpa
      have hm : (f.P i).length ≤ 8 := by have := HPI.out; omega
      go_wp2_with fail
      go_loopw [8, 34] (fun v i2 wr => ∃ j : Nat, i2 = .int .i64 (j : Int) ∧ j ≤ (f.P i).length ∧ wr.ownsRow w1.heap.size 58 2 v (chL f f.sure i ++ rowP f.sure i ((f.P i).take j)).length (flat (chL f f.sure i ++ rowP f.sure i ((f.P i).take j))) ∧ Below w1.heap.size w1 wr) (fun _ i2 _ => (f.P i).length - (intOf i2).toNat)
      case atStart => exact ⟨0, rfl, Nat.zero_le _, by rw [List.take_zero, show rowP f.sure i [] = [] from rfl, List.append_nil]; exact HO.out, HB.out⟩
      case round =>
        clear HO HB x0
        obtain ⟨j, rfl, hj, hown, hbl⟩ := hrel
        rename World => wy
        obtain ⟨va, vc, rfl⟩ := own_slice' hown
        have HO := Lib.hid hown
        have HB := Lib.hid hbl
        clear hown hbl
        by_cases hlt2 : j < (f.P i).length
        · obtain ⟨qb, qo, hqa, hqb, y0⟩ := (HRI.out wy HB.out).at hlt2
          rw [hqa]
          have HNZ := Lib.hid (nz_nat (f.P i) j)
          have HTJ := Lib.hid (HTI.out j hlt2)
          have HRJ := Lib.hid (HRLI.out ((f.P i).take j))
          have hlen : (rowP f.sure i ((f.P i).take j)).length ≤ 8 := by
            have := HRJ.out
            rw [List.length_take] at this
            omega
          have hli := HLI.out
          have HCJ := Lib.hid (HCI.out (nz (f.P i) j).toNat)
          rw [← HNZ.out] at HCJ
          have HBA := Lib.hid (below_alloc wy (.cells #[.int .i64 (i : Int), .int .i64 (nz (f.P i) j)] 58))
          have HWK := Lib.hid (HW.out.below (HB.out.trans (HBA.out.mono HB.out.size)))
          have HEA := Lib.hid (heap_alloc_new wy (.cells #[.int .i64 (i : Int), .int .i64 (nz (f.P i) j)] 58))
          have ji : (0 : Int) ≤ (j : Int) := by omega
          have jj : (j : Int) < ((f.P i).length : Int) := by omega
          have HLE : Hid ((chL f f.sure i ++ rowP f.sure i ((f.P i).take j)).length ≤ 8 * i + 8) := by unfold Hid; rw [List.length_append]; omega
          generalize hcl : chL f f.sure i ++ rowP f.sure i ((f.P i).take j) = cl at *
          have HCLE : Hid (chL f f.sure i ++ rowP f.sure i ((f.P i).take (j + 1)) = cl ++ if f.sure i (nz (f.P i) j).toNat = true then [((i : Int), nz (f.P i) j)] else []) := by unfold Hid; rw [HTJ.out, ← List.append_assoc, hcl]
          clear hcl HTJ hlen hli HRJ HNZ
          generalize hpr : f.sure i (nz (f.P i) j).toNat = pr at *
          clear hpr
          generalize nz (f.P i) j = kk at *
          have HO1 := Lib.hid (own_below HO.out HBA.out)
          have HB1 := Lib.hid (HB.out.trans (HBA.out.mono HB.out.size))
          clear HO HB
          go_wp2_with fail
          generalize wy.heap.size = PB at *
          generalize wy.alloc (.cells #[.int .i64 (i : Int), .int .i64 kk] 58) = wz at *
          refine (HCJ.out _ HWK.out).mono ?_
          rintro _ w4 ⟨rfl, hb4⟩
          have HO2 := Lib.hid (own_below HO1.out hb4)
          have HB2 := Lib.hid (HB1.out.trans (hb4.mono HB1.out.size))
          have HE2 : Hid (w4.heap[PB]? = some (.cells #[.int .i64 (i : Int), .int .i64 kk] 58 (0, 0))) := (hb4.block _ (Array.getElem?_eq_some_iff.1 HEA.out).1).trans HEA.out
          clear hb4 HO1 HB1 HEA HBA HWK HCJ y0
          have hcl := HLE.out
          cases pr
          · have HC2 : Hid (chL f f.sure i ++ rowP f.sure i ((f.P i).take (j + 1)) = cl) := by unfold Hid; rw [HCLE.out]; simp
            go_wp2_with fail
            go_roundw
            case rel => exact ⟨j + 1, by go_num, by omega, by rw [HC2.out]; exact HO2.out, HB2.out⟩
            case measure => simp [intOf]; omega
          · have HC2 : Hid (chL f f.sure i ++ rowP f.sure i ((f.P i).take (j + 1)) = cl ++ [((i : Int), kk)]) := by unfold Hid; rw [HCLE.out]; simp
            have e0 : w4.cell? ⟨PB, 0, none⟩ = some (.int .i64 (i : Int)) := cell_of_row _ _ 0 _ _ _ HE2.out
            have e1 : w4.cell? ⟨PB, 1, none⟩ = some (.int .i64 kk) := cell_of_row _ _ 1 _ _ _ HE2.out
            have hsz := HB2.out.size
            have HN := Lib.hid (World.news_of_block (heap_alloc_new w4 (.cells #[.int .i64 (i : Int), .int .i64 kk] 58)))
            have HOA := Lib.hid (World.ownsRow.alloc HO2.out (.cells #[.int .i64 (i : Int), .int .i64 kk] 58))
            have HBA := Lib.hid (HB2.out.trans ((below_alloc w4 (.cells #[.int .i64 (i : Int), .int .i64 kk] 58)).mono hsz))
            clear HCLE HLE HO2 HB2 HE2
            go_wp2_with (at_builtin; refine wpList_append_src _ rfl (.tmp 45) (.tmp 47) 35 rfl w1.heap.size 58 i0 (.agg #[.int .i64 0, .int .i64 0]) 2 16 Tryz.underlying35 hi0 hz0 hz1 hz2 rfl (by decide) (.slice va cl.length vc) cl.length (flat cl) rfl HOA.out (some ⟨w4.heap.size, 0, none⟩) 1 1 [.int .i64 (i : Int), .int .i64 kk] rfl ⟨rfl, fun q u hu => ⟨_, rfl, HN.out q u hu⟩⟩ ?c0 ?c1 ?c2 ?c3 ?_)
            case c0 => simp [Value.oneCell']
            case c1 => unfold maxLen; omega
            case c2 => omega
            case c3 => simp; omega
            intro v' w5 hown hgr _
            have HO5 : Hid (w5.ownsRow w1.heap.size 58 2 v' (cl ++ [((i : Int), kk)]).length (flat (cl ++ [((i : Int), kk)]))) := by unfold Hid; rw [flat_append, List.length_append]; exact hown
            have HB5 := Lib.hid (HBA.out.trans ((Fr.grown hgr).low HBA.out.size (fun q hq e => by have := own_low HOA.out e; omega)))
            clear hown hgr
            go_wp2_with fail
            go_roundw
            case rel => exact ⟨j + 1, by go_num, by omega, by rw [HC2.out]; exact HO5.out, HB5.out⟩
            case measure => simp [intOf]; omega
        · have HE : Hid (chL f f.sure i ++ rowP f.sure i ((f.P i).take j) = chL f f.sure (i + 1)) := by
            have hjl : j = (f.P i).length := by omega
            unfold Hid; rw [hjl, HTE.out, ← HSI.out]
          rw [HE.out] at HO ⊢
          go_wp2_with fail
          go_roundw
          case rel => exact ⟨i + 1, by go_num, by omega, HO.out, HB.out⟩
          case measure => simp [intOf]; omega
    · obtain rfl : i = no := by omega
      have HS2 := Lib.hid (SkIn.own HO.out)
      have HBE := Lib.hid (HB1.out.trans (HB.out.mono HB1.out.size))
      go_wp2_with fail
      go_ret2
      exact HP.out _ rfl _ _ _ HS2.out HBE.out
set_option maxRecDepth 100000 in
set_option maxHeartbeats 8000000 in
theorem chosen_poss (x : FV) (f : Fl) (w : World) (h : FlQ QP w x f) (hf : f.fault = 0) :
    Calls Tryz.prog 64 #[.agg #[.slice x.oa f.no x.oc, .slice x.na f.nw x.nc, .slice x.ma f.nm x.mc], .func (.func 78) #[] #[]] w (GivesP w (chL f f.poss f.no)) := by
  obtain ⟨i0, hi0, hz0, hz1, hz2⟩ := info_parts Tryz.infoPair
  have OK := Lib.hid (Fl.ok hf)
  have hno := OK.out.no
  have hnw := OK.out.nw
  have hb0 := below_alloc w (.cells #[.slice x.oa f.no x.oc, .slice x.na f.nw x.nc, .slice x.ma f.nm x.mc] 33)
  have HC := Lib.hid (work_ok x f _ (h.below QP.k hb0) hf)
  have HB0 := Lib.hid hb0
  have HCON := Lib.hid (fun B i k W (hW : WkF W B f) => lpossible_any OK.out B i k W hW)
  have HL := Lib.hid (chL_len f hnw f.poss)
  have HS := Lib.hid (chL_succ f f.poss)
  have HPL := Lib.hid (fun i => f.P_len i)
  have HT := Lib.hid (fun i j hj => rowP_take f f.poss i j hj)
  have HTA := Lib.hid (fun i => show rowP f.poss i ((f.P i).take (f.P i).length) = rowP f.poss i (f.P i) by rw [List.take_length])
  have HRL := Lib.hid (fun i L => rowP_len f.poss i L)
  have HP : Hid (∀ l, l = chL f f.poss f.no → ∀ W a c, SkIn W (.slice a l.length c) l → Below w.heap.size w W → GivesP w (chL f f.poss f.no) (.returned (.tuple #[.slice a l.length c, .int .i64 0])) W) := fun l hl W a c h1 h2 => by subst hl; exact ⟨a, c, rfl, h1, h2⟩
  clear h hf hb0
  generalize f.nw = nw at *
  generalize f.nm = nm at *
  go_enter Tryz.func64, Tryz.ntmps64
  go_wp2_with fail
  refine HC.out.mono ?_
  rintro _ w1 ⟨B, rfl, hwk, hb⟩
  have HW := Lib.hid hwk
  have HB1 := Lib.hid (below_step HB0.out hb)
  obtain ⟨xv, hwk⟩ := hwk
  have k4 := hwk.c4
  have hBl := hwk.lt
  have HRW := Lib.hid hwk.rows
  clear hwk hb HC HB0
  generalize f.no = no at *
  go_wp2_with fail
  go_loopw [8, 27] (fun v i wr => ∃ k : Nat, i = .int .i64 (k : Int) ∧ k ≤ no ∧ wr.ownsRow w1.heap.size 58 2 v (chL f f.poss k).length (flat (chL f f.poss k)) ∧ Below w1.heap.size w1 wr) (fun _ i _ => no - (intOf i).toNat)
  case atStart => exact ⟨0, rfl, Nat.zero_le _, World.ownsRow_nil _ _ _ _, Below.refl _ _⟩
  case round =>
    obtain ⟨i, rfl, hi, hown, hbl⟩ := hrel
    rename World => wx
    obtain ⟨va, vc, rfl⟩ := own_slice' hown
    have HO := Lib.hid hown
    have HB := Lib.hid hbl
    clear hown hbl
    by_cases hlt : i < no
    · obtain ⟨rb, ro, ra, rc, hpa, hrb, hrc, hri⟩ := HRW.out.at hlt
      rw [hpa]
      have x0 := below_cell HB.out _ _ hrc
      have HRI := Lib.hid (fun X (hX : Below w1.heap.size w1 X) => hri.below hX)
      have HSI := Lib.hid (HS.out i)
      have HLI := Lib.hid (HL.out i)
      have HPI := Lib.hid (HPL.out i)
      have HTI := Lib.hid (HT.out i)
      have HTE := Lib.hid (HTA.out i)
      have HRLI := Lib.hid (HRL.out i)
      have HCI := Lib.hid (HCON.out B i)
      have ki : (0 : Int) ≤ (i : Int) := by omega
      have kj : (i : Int) < (no : Int) := by omega
      clear hri hrc hpa
      have hm : (f.P i).length ≤ 8 := by have := HPI.out; omega
      go_wp2_with fail
      go_loopw [8, 34] (fun v i2 wr => ∃ j : Nat, i2 = .int .i64 (j : Int) ∧ j ≤ (f.P i).length ∧ wr.ownsRow w1.heap.size 58 2 v (chL f f.poss i ++ rowP f.poss i ((f.P i).take j)).length (flat (chL f f.poss i ++ rowP f.poss i ((f.P i).take j))) ∧ Below w1.heap.size w1 wr) (fun _ i2 _ => (f.P i).length - (intOf i2).toNat)
      case atStart => exact ⟨0, rfl, Nat.zero_le _, by rw [List.take_zero, show rowP f.poss i [] = [] from rfl, List.append_nil]; exact HO.out, HB.out⟩
      case round =>
        clear HO HB x0
        obtain ⟨j, rfl, hj, hown, hbl⟩ := hrel
        rename World => wy
        obtain ⟨va, vc, rfl⟩ := own_slice' hown
        have HO := Lib.hid hown
        have HB := Lib.hid hbl
        clear hown hbl
        by_cases hlt2 : j < (f.P i).length
        · obtain ⟨qb, qo, hqa, hqb, y0⟩ := (HRI.out wy HB.out).at hlt2
          rw [hqa]
          have HNZ := Lib.hid (nz_nat (f.P i) j)
          have HTJ := Lib.hid (HTI.out j hlt2)
          have HRJ := Lib.hid (HRLI.out ((f.P i).take j))
          have hlen : (rowP f.poss i ((f.P i).take j)).length ≤ 8 := by
            have := HRJ.out
            rw [List.length_take] at this
            omega
          have hli := HLI.out
          have HCJ := Lib.hid (HCI.out (nz (f.P i) j).toNat)
          rw [← HNZ.out] at HCJ
          have HBA := Lib.hid (below_alloc wy (.cells #[.int .i64 (i : Int), .int .i64 (nz (f.P i) j)] 58))
          have HWK := Lib.hid (HW.out.below (HB.out.trans (HBA.out.mono HB.out.size)))
          have HEA := Lib.hid (heap_alloc_new wy (.cells #[.int .i64 (i : Int), .int .i64 (nz (f.P i) j)] 58))
          have ji : (0 : Int) ≤ (j : Int) := by omega
          have jj : (j : Int) < ((f.P i).length : Int) := by omega
          have HLE : Hid ((chL f f.poss i ++ rowP f.poss i ((f.P i).take j)).length ≤ 8 * i + 8) := by unfold Hid; rw [List.length_append]; omega
          generalize hcl : chL f f.poss i ++ rowP f.poss i ((f.P i).take j) = cl at *
          have HCLE : Hid (chL f f.poss i ++ rowP f.poss i ((f.P i).take (j + 1)) = cl ++ if f.poss i (nz (f.P i) j).toNat = true then [((i : Int), nz (f.P i) j)] else []) := by unfold Hid; rw [HTJ.out, ← List.append_assoc, hcl]
          clear hcl HTJ hlen hli HRJ HNZ
          generalize hpr : f.poss i (nz (f.P i) j).toNat = pr at *
          clear hpr
          generalize nz (f.P i) j = kk at *
          have HO1 := Lib.hid (own_below HO.out HBA.out)
          have HB1 := Lib.hid (HB.out.trans (HBA.out.mono HB.out.size))
          clear HO HB
          go_wp2_with fail
          generalize wy.heap.size = PB at *
          generalize wy.alloc (.cells #[.int .i64 (i : Int), .int .i64 kk] 58) = wz at *
          refine (HCJ.out _ HWK.out).mono ?_
          rintro _ w4 ⟨rfl, hb4⟩
          have HO2 := Lib.hid (own_below HO1.out hb4)
          have HB2 := Lib.hid (HB1.out.trans (hb4.mono HB1.out.size))
          have HE2 : Hid (w4.heap[PB]? = some (.cells #[.int .i64 (i : Int), .int .i64 kk] 58 (0, 0))) := (hb4.block _ (Array.getElem?_eq_some_iff.1 HEA.out).1).trans HEA.out
          clear hb4 HO1 HB1 HEA HBA HWK HCJ y0
          have hcl := HLE.out
          cases pr
          · have HC2 : Hid (chL f f.poss i ++ rowP f.poss i ((f.P i).take (j + 1)) = cl) := by unfold Hid; rw [HCLE.out]; simp
            go_wp2_with fail
            go_roundw
            case rel => exact ⟨j + 1, by go_num, by omega, by rw [HC2.out]; exact HO2.out, HB2.out⟩
            case measure => simp [intOf]; omega
          · have HC2 : Hid (chL f f.poss i ++ rowP f.poss i ((f.P i).take (j + 1)) = cl ++ [((i : Int), kk)]) := by unfold Hid; rw [HCLE.out]; simp
            have e0 : w4.cell? ⟨PB, 0, none⟩ = some (.int .i64 (i : Int)) := cell_of_row _ _ 0 _ _ _ HE2.out
            have e1 : w4.cell? ⟨PB, 1, none⟩ = some (.int .i64 kk) := cell_of_row _ _ 1 _ _ _ HE2.out
            have hsz := HB2.out.size
            have HN := Lib.hid (World.news_of_block (heap_alloc_new w4 (.cells #[.int .i64 (i : Int), .int .i64 kk] 58)))
            have HOA := Lib.hid (World.ownsRow.alloc HO2.out (.cells #[.int .i64 (i : Int), .int .i64 kk] 58))
            have HBA := Lib.hid (HB2.out.trans ((below_alloc w4 (.cells #[.int .i64 (i : Int), .int .i64 kk] 58)).mono hsz))
            clear HCLE HLE HO2 HB2 HE2
            go_wp2_with (at_builtin; refine wpList_append_src _ rfl (.tmp 45) (.tmp 47) 35 rfl w1.heap.size 58 i0 (.agg #[.int .i64 0, .int .i64 0]) 2 16 Tryz.underlying35 hi0 hz0 hz1 hz2 rfl (by decide) (.slice va cl.length vc) cl.length (flat cl) rfl HOA.out (some ⟨w4.heap.size, 0, none⟩) 1 1 [.int .i64 (i : Int), .int .i64 kk] rfl ⟨rfl, fun q u hu => ⟨_, rfl, HN.out q u hu⟩⟩ ?c0 ?c1 ?c2 ?c3 ?_)
            case c0 => simp [Value.oneCell']
            case c1 => unfold maxLen; omega
            case c2 => omega
            case c3 => simp; omega
            intro v' w5 hown hgr _
            have HO5 : Hid (w5.ownsRow w1.heap.size 58 2 v' (cl ++ [((i : Int), kk)]).length (flat (cl ++ [((i : Int), kk)]))) := by unfold Hid; rw [flat_append, List.length_append]; exact hown
            have HB5 := Lib.hid (HBA.out.trans ((Fr.grown hgr).low HBA.out.size (fun q hq e => by have := own_low HOA.out e; omega)))
            clear hown hgr
            go_wp2_with fail
            go_roundw
            case rel => exact ⟨j + 1, by go_num, by omega, by rw [HC2.out]; exact HO5.out, HB5.out⟩
            case measure => simp [intOf]; omega
        · have HE : Hid (chL f f.poss i ++ rowP f.poss i ((f.P i).take j) = chL f f.poss (i + 1)) := by
            have hjl : j = (f.P i).length := by omega
            unfold Hid; rw [hjl, HTE.out, ← HSI.out]
          rw [HE.out] at HO ⊢
          go_wp2_with fail
          go_roundw
          case rel => exact ⟨i + 1, by go_num, by omega, HO.out, HB.out⟩
          case measure => simp [intOf]; omega
    · obtain rfl : i = no := by omega
      have HS2 := Lib.hid (SkIn.own HO.out)
      have HBE := Lib.hid (HB1.out.trans (HB.out.mono HB1.out.size))
      go_wp2_with fail
      go_ret2
      exact HP.out _ rfl _ _ _ HS2.out HBE.out
end Go.Proofs.YtgbdbikjckfgmaaGreat
