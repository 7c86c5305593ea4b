/- FlowLeft, the plain law: tried cells, wrong cells, and the smallest list. -/
import Derived.Test.YtjaoflfophcibaaIB
import Derived.Test.YtjaoflfophcibaaHS
namespace Go.Proofs.Ytjaoflfophcibaa
open Go.RowKit Go.Shelf

/-- A list is earlier at the first index at which two differ. -/
def lexLt : List Nat → List Nat → Bool
  | a :: l, b :: s => if a = b then lexLt l s else decide (a < b)
  | _, _ => false
def lessN (a b : List Nat) : Bool := if a.length = b.length then lexLt a b else decide (a.length < b.length)
theorem lexLt_of : ∀ {s o : List Nat}, lexB s o → lexLt o s = false
  | [], [], _ => rfl
  | [], _ :: _, _ => rfl
  | _ :: _, [], h => rfl
  | a :: l, b :: o, h => by
    unfold lexLt
    rcases h with h | ⟨rfl, h⟩
    · rw [if_neg (by omega)]; exact decide_eq_false (by omega)
    · rw [if_pos rfl]; exact lexLt_of h
theorem lessN_of {s o : List Nat} (h1 : s.length ≤ o.length) (h2 : s.length = o.length → lexB s o) : lessN o s = false := by
  unfold lessN
  by_cases e : o.length = s.length
  · rw [if_pos e]; exact lexLt_of (h2 e.symm)
  · rw [if_neg e]; exact decide_eq_false (by omega)
/-- The cells whose bits are 1. -/
def bitsL (ng : Nat) (bits : Int) (N : Nat) : List Nat := (List.range N).filter (fun k => bitB bits (4 * (k / ng) + k % ng))
theorem bitsL_succ (ng : Nat) (bits : Int) (N : Nat) : bitsL ng bits (N + 1) = if bitB bits (4 * (N / ng) + N % ng) = true then bitsL ng bits N ++ [N] else bitsL ng bits N := by
  unfold bitsL
  rw [List.range_succ, List.filter_append]
  by_cases h : bitB bits (4 * (N / ng) + N % ng) = true
  · rw [if_pos h]; simp [h]
  · rw [if_neg h]; simp [h]
theorem mem_bitsL {ng : Nat} {bits : Int} {N k : Nat} : k ∈ bitsL ng bits N ↔ k < N ∧ bitB bits (4 * (k / ng) + k % ng) = true := by
  unfold bitsL
  rw [List.mem_filter, List.mem_range]
theorem Inc.snoc : ∀ {s : List Nat} {k N : Nat}, k ≤ N → Inc k N s → Inc k (N + 1) (s ++ [N])
  | [], k, N, h, _ => ⟨h, by omega, trivial⟩
  | a :: s, k, N, h, hs => ⟨hs.1, by have := hs.2.1; omega, Inc.snoc (by have := hs.2.1; omega) hs.2.2⟩
theorem Inc.up : ∀ {s : List Nat} {k N N' : Nat}, N ≤ N' → Inc k N s → Inc k N' s
  | [], _, _, _, _, _ => trivial
  | a :: s, k, N, N', h, hs => ⟨hs.1, by have := hs.2.1; omega, Inc.up h hs.2.2⟩
theorem bitsL_inc (ng : Nat) (bits : Int) : ∀ N, Inc 0 N (bitsL ng bits N)
  | 0 => trivial
  | N + 1 => by
    rw [bitsL_succ]
    split
    · exact Inc.snoc (Nat.zero_le _) (bitsL_inc ng bits N)
    · exact Inc.up (Nat.le_succ _) (bitsL_inc ng bits N)
theorem bitsL_len (ng : Nat) (bits : Int) (N : Nat) : (bitsL ng bits N).length ≤ N := Inc.len (k := 0) (Nat.zero_le _) (bitsL_inc ng bits N)
theorem outs_nat {ng : Nat} {s : List Nat} {c g : Nat} (h : outs ng (natL s) c g = true) : ∃ k, k ∈ s ∧ k / ng = c ∧ k % ng = g := by
  unfold outs natL at h
  rw [List.any_eq_true] at h
  obtain ⟨z, hz, h⟩ := h
  rw [List.mem_map] at hz
  obtain ⟨k, hk, rfl⟩ := hz
  simp only [Bool.and_eq_true, decide_eq_true_eq] at h
  exact ⟨k, hk, h.1, h.2⟩
theorem outs_in {ng : Nat} {s : List Nat} {k : Nat} (h : k ∈ s) : outs ng (natL s) (k / ng) (k % ng) = true := by
  unfold outs natL
  rw [List.any_eq_true]
  exact ⟨(k : Int), List.mem_map.2 ⟨k, h, rfl⟩, by simp⟩
/-- The table with other counts. -/
def Tb.setA (t : Tb) (C : Nat → Nat → R2) : Tb := { t with ct := C }
theorem before_own {t : Tb} {C : Nat → Nat → R2} {o1 o2 : Nat → Nat → Bool} (h : ∀ c g, (t.setA C).own o1 c g = t.own o2 c g) : ∀ c, (t.setA C).before o1 c = t.before o2 c
  | 0 => rfl
  | c + 1 => by
    funext q
    show (t.setA C).arr c q (fun g' => meetR ((t.setA C).before o1 c g') ((t.setA C).own o1 c g')) = t.arr c q (fun g' => meetR (t.before o2 c g') (t.own o2 c g'))
    rw [before_own h c, show (t.setA C).own o1 = t.own o2 from funext fun c => funext fun g => h c g]
    rfl
theorem agree_own {t : Tb} {C : Nat → Nat → R2} {o1 o2 : Nat → Nat → Bool} (h : ∀ c g, (t.setA C).own o1 c g = t.own o2 c g) : (t.setA C).agree o1 = t.agree o2 := by
  unfold Tb.agree
  have e : ∀ c, (t.setA C).up o1 c = t.up o2 c := fun c => by
    funext q
    unfold Tb.up
    rw [before_own h, h]
  rw [e]
  rfl
/-- Without the wrong counts the others agree. -/
theorem wrong_ok {t : Tb} {x : Tr} {nw : Nat} {z : Nat → Int} {bits : Int} (ht : Okt t) (hg : Gt t x t.nb) (hc : canC t x t.nb = true) (hf : (t.cnted x nw z bits).fault = 0) : okL (t.cnted x nw z bits) (natL (bitsL t.ng bits (t.nc * t.ng))) = true := by
  have hng := cnted_ng ht x nw z bits
  have hl := Lv.of_can ht.w t.nb (Nat.le_refl _) hg.fit hc
  have hnb := ht.nb; have hng2 := ht.ng2; have hnc := ht.nc4
  obtain ⟨Y, hY⟩ : ∃ Y, t.cnted x nw z bits = Y := ⟨_, rfl⟩
  have hYn : Y.ng = t.ng := by rw [← hY]; exact hng
  have hYc : Y.nc = t.nc := by rw [← hY]; rfl
  have hct : ∀ c g, Y.ct c g = cntT (siz t.ng x) nw z bits c g := fun c g => by rw [← hY]; rfl
  have hYb : Y.b = t.b := by rw [← hY]; rfl
  have hYr : Y.r = t.r := by rw [← hY]; rfl
  have hYm : Y.n = t.n := by rw [← hY]; rfl
  rw [hY] at hf ⊢
  have hokY := Okt.of_fault hf
  unfold okL
  rw [hYn]
  obtain ⟨out, hout⟩ : ∃ out, outs t.ng (natL (bitsL t.ng bits (t.nc * t.ng))) = out := ⟨_, rfl⟩
  have hoc : ∀ c g, c < t.nc → g < t.ng → (out c g = bitB bits (4 * c + g)) := fun c g hc hg => by
    have e1 : (t.ng * c + g) / t.ng = c := by rw [Nat.mul_add_div (by omega), Nat.div_eq_of_lt hg, Nat.add_zero]
    have e2 : (t.ng * c + g) % t.ng = g := by rw [Nat.mul_add_mod, Nat.mod_eq_of_lt hg]
    rw [← hout]
    cases hb : bitB bits (4 * c + g)
    · refine Bool.eq_false_iff.2 fun h => ?_
      obtain ⟨k, hk, rfl, rfl⟩ := outs_nat h
      have := (mem_bitsL.1 hk).2
      rw [hb] at this
      cases this
    · have hk : t.ng * c + g < t.nc * t.ng := by
        have := Nat.mul_le_mul_right t.ng (show c + 1 ≤ t.nc by omega)
        rw [Nat.succ_mul, Nat.mul_comm c] at this
        omega
      have h := outs_in (ng := t.ng) (mem_bitsL.2 ⟨hk, by rw [e1, e2]; exact hb⟩)
      rw [e1, e2] at h
      exact h
  rw [hout]
  clear hout
  have hsz0 : ∀ c g, c ≤ t.nb → g < t.ng → 0 ≤ siz t.ng x c g ∧ siz t.ng x c g ≤ 1048576 := fun c g hc hg => by
    have h3 := hl.sz c hc g hg
    have h4 := bdP_le (c := c) (by omega)
    omega
  have hT : (Y.setA (fun c g => if out c g = true then (siz t.ng x c g, siz t.ng x c g) else Y.ct c g)).agree out = true := by
    obtain ⟨T, hTe⟩ : ∃ T, Y.setA (fun c g => if out c g = true then (siz t.ng x c g, siz t.ng x c g) else Y.ct c g) = T := ⟨_, rfl⟩
    have hTn : T.ng = t.ng := by rw [← hTe]; exact hYn
    have hTc : T.nc = t.nc := by rw [← hTe]; exact hYc
    have hTct : ∀ c g, T.ct c g = if out c g = true then (siz t.ng x c g, siz t.ng x c g) else Y.ct c g := fun c g => by rw [← hTe]; rfl
    have hTb : T.b = t.b := by rw [← hTe]; exact hYb
    have hTr : T.r = t.r := by rw [← hTe]; exact hYr
    have hTm : T.n = t.n := by rw [← hTe]; exact hYm
    rw [hTe]
    have hin : ∀ c g, c ≤ t.nb → g < t.ng → inR (siz t.ng x c g) (T.ct c g) := fun c g hc hg' => by
      rw [hTct]
      by_cases e : out c g = true
      · rw [if_pos e]; exact ⟨Int.le_refl _, Int.le_refl _⟩
      · rw [if_neg e, hct]
        unfold cntT
        rw [show bitB bits (4 * c + g) = false by rw [← hoc c g (by omega) hg']; simpa using e]
        exact cnt_in (hl.sz c hc g hg').1
    have how : Okw T t.nb := by
      have hw := ht.w
      refine ⟨hw.k4, by rw [hTn]; exact hw.ng2, by rw [hTn]; exact hw.ng4, fun g hg' => ?_, fun c hc' => by rw [hTb]; exact hw.b c hc', fun c hc' => by rw [hTr]; rw [hTn] at hc'; exact hw.r c hc', fun c hc' => by rw [hTm]; rw [hTn] at hc'; exact hw.n c hc'⟩
      rw [hTn] at hg'
      rw [hTct]
      have h0 := ht.ct 0 g ht.nc1 hg'
      have h1 := hg.fit.f g hg'
      have e0 : siz t.ng x 0 g = x.f g := rfl
      by_cases e : out 0 g = true
      · rw [if_pos e, e0]
        simp only
        omega
      · rw [if_neg e]
        exact hokY.ct 0 g (by rw [hYc]; exact ht.nc1) (by rw [hYn]; exact hg')
    have hfit : Fit T x t.nb := ⟨fun g h => by
      rw [hTn] at h
      exact hin 0 g (Nat.zero_le _) h, fun q hq => by rw [hTb]; exact hg.fit.b q hq, fun q hq g h => by rw [hTn] at h; rw [hTm]; exact hg.fit.m q hq g h⟩
    have hlv : Lv T x t.nb := ⟨fun q hq g h => by rw [hTn] at h ⊢; exact hl.sz q hq g h, fun q hq i hi => by rw [hTn] at hi ⊢; rw [hTr]; exact hl.al q hq i hi⟩
    have hown : ∀ c g, c ≤ t.nb → g < T.ng → inR (siz T.ng x c g) (T.own out c g) := fun c g hc hg' => by
      rw [hTn] at hg' ⊢
      unfold Tb.own
      split
      · exact hsz0 c g hc hg'
      · exact hin c g hc hg'
    refine agree_of_ne (fun g hg' => emptyR_false (n := siz T.ng x t.nb g) ?_)
    rw [hTc, show t.nc - 1 = t.nb by omega]
    exact meetR_in (before_in how hfit hlv t.nb (Nat.le_refl _) (fun q g' hq h => hown q g' (by omega) h) g hg') (hown t.nb g (Nat.le_refl _) hg')
  rw [← hT]
  refine (agree_own fun c g => ?_).symm
  unfold Tb.own
  by_cases e : out c g = true
  · rw [if_pos e, if_pos e]
  · rw [if_neg e, if_neg e]
    show (if out c g = true then _ else Y.ct c g) = _
    rw [if_neg e]
/-- What is used less agrees the more. -/
theorem up_less {t : Tb} {C : Nat → Nat → R2} {o1 o2 : Nat → Nat → Bool} (ht : Okt t) (hx : Okt (t.setA C)) (hu : Ups (t.setA C) o1) (ho : ∀ c g, subI ((t.setA C).own o1 c g) (t.own o2 c g)) : ∀ c, c < t.nc → ∀ g, g < t.ng → subI ((t.setA C).up o1 c g) (t.up o2 c g)
  | 0, _, g, _ => meet_sub ⟨Int.le_refl _, Int.le_refl _⟩ (ho 0 g)
  | c + 1, hc, g, hg => by
    have ih := up_less ht hx hu ho c (by omega)
    have hnb := ht.nb
    have hb := ht.b c (by omega)
    have hN : Nar t t := ⟨rfl, rfl, fun _ _ => ⟨Int.le_refl _, Int.le_refl _⟩, fun _ => ⟨Int.le_refl _, Int.le_refl _⟩, fun _ => ⟨Int.le_refl _, Int.le_refl _⟩, fun _ => ⟨Int.le_refl _, Int.le_refl _⟩⟩
    exact meet_sub (arr_sub hN ht.w (c := c) hg (fun q hq => ⟨hu.z c q (show c < t.nc by omega) hq, ne_of (hu.ne c q (show c < t.nc by omega) hq)⟩) ih ⟨hb.1, hb.2.1⟩) (ho (c + 1) g)
theorem less_agree {t : Tb} {C : Nat → Nat → R2} {o1 o2 : Nat → Nat → Bool} (ht : Okt t) (hx : Okt (t.setA C)) (ho : ∀ c g, subI ((t.setA C).own o1 c g) (t.own o2 c g)) (ha : (t.setA C).agree o1 = true) : t.agree o2 = true := by
  have hu := ups_of hx ha
  refine agree_of_ne (fun q hq => ?_)
  have h := up_less ht hx hu ho (t.nc - 1) (by have := ht.nc1; omega) q hq
  have h2 := ne_of (hu.ne (t.nc - 1) q (show t.nc - 1 < t.nc by have := ht.nc1; omega) hq)
  unfold subI at h
  unfold emptyR
  exact decide_eq_false (by omega)
/-- The counts of a list of cells replaced. -/
def setL (t : Tb) (s : List Nat) : Tb := s.foldl (fun t k => t.setC (k / t.ng) (k % t.ng) (0, 500)) t
theorem setL_snoc (t : Tb) (s : List Nat) (k : Nat) : setL t (s ++ [k]) = (setL t s).setC (k / (setL t s).ng) (k % (setL t s).ng) (0, 500) := by unfold setL; rw [List.foldl_append]; rfl
theorem setL_ng : ∀ (s : List Nat) (t : Tb), (setL t s).ng = t.ng
  | [], _ => rfl
  | _ :: s, _ => setL_ng s _
theorem setL_fault : ∀ (s : List Nat) (t : Tb), t.fault = 0 → (setL t s).fault = 0
  | [], _, h => h
  | _ :: s, _, h => setL_fault s _ (fault_setC h rfl)
theorem outs_cons (ng k : Nat) (s : List Nat) (c g : Nat) : outs ng (natL (k :: s)) c g = (decide (k / ng = c) && decide (k % ng = g) || outs ng (natL s) c g) := by
  unfold outs natL
  rw [List.map_cons, List.any_cons]
  rfl
theorem setL_eq : ∀ (s : List Nat) (t : Tb), setL t s = t.setA (fun c g => if outs t.ng (natL s) c g = true then (0, 500) else t.ct c g)
  | [], t => rfl
  | k :: s, t => by
    show setL (t.setC (k / t.ng) (k % t.ng) (0, 500)) s = _
    rw [setL_eq s]
    unfold Tb.setA Tb.setC
    congr 1
    funext c g
    rw [outs_cons]
    show (if outs t.ng (natL s) c g = true then _ else if c = k / t.ng ∧ g = k % t.ng then _ else _) = _
    by_cases e : outs t.ng (natL s) c g = true
    · rw [if_pos e, e, Bool.or_true, if_pos rfl]
    · rw [if_neg e, show outs t.ng (natL s) c g = false by simpa using e, Bool.or_false]
      by_cases e2 : c = k / t.ng ∧ g = k % t.ng
      · rw [if_pos e2, if_pos (by simp [e2.1, e2.2])]
      · rw [if_neg e2, if_neg (by simp only [Bool.and_eq_true, decide_eq_true_eq]; exact fun h => e2 ⟨h.1.symm, h.2.symm⟩)]
/-- What agrees with all numbers as counts agrees without them. -/
theorem setL_agree {t : Tb} (hf : t.fault = 0) {s : List Nat} (ha : (setL t s).agree off0 = true) : okL t (natL s) = true := by
  have h1 := Okt.of_fault (setL_fault s t hf)
  rw [setL_eq] at h1 ha
  refine less_agree (Okt.of_fault hf) h1 (fun c g => ?_) ha
  unfold Tb.own
  rw [if_neg (by unfold off0; decide)]
  show subI (if outs t.ng (natL s) c g = true then (0, 500) else t.ct c g) _
  by_cases e : outs t.ng (natL s) c g = true
  · rw [if_pos e, if_pos e]; exact ⟨by decide, by decide⟩
  · rw [if_neg e, if_neg e]; exact ⟨Int.le_refl _, Int.le_refl _⟩
theorem agree_none {t : Tb} (h : t.agree off0 = true) : t.leave = some [] := by
  have h0 : lvF (t.nc * t.ng) (okL t) 0 [] 0 = some [] := by
    unfold lvF
    rw [if_pos]
    exact h
  unfold Tb.leave
  rw [Nat.sub_zero]
  unfold lvS
  rw [h0]
/-- What the law says of Leave's list. -/
theorem left_law {t : Tb} {x : Tr} {nw : Nat} {z : Nat → Int} {bits tried : Int} (ht : Okt t) (hg : Gt t x t.nb) (hc : canC t x t.nb = true) (hf : (t.cnted x nw z bits).fault = 0) :
    ∃ s, (t.cnted x nw z bits).leave = some (natL s) ∧ Inc 0 (t.nc * t.ng) s ∧ s.length ≤ (bitsL t.ng bits (t.nc * t.ng)).length ∧ ((t.cnted x nw z bits).agree off0 = true ↔ s = []) ∧
      ((setL (t.cnted x nw z bits) (bitsL t.ng tried (t.nc * t.ng))).agree off0 = true → lessN (bitsL t.ng tried (t.nc * t.ng)) s = false) := by
  have hng := cnted_ng ht x nw z bits
  have hw := wrong_ok (nw := nw) (z := z) (bits := bits) ht hg hc hf
  cases hl : (t.cnted x nw z bits).leave with
  | none =>
    have h := leave_none hl (s := bitsL t.ng bits (t.nc * t.ng)) (by rw [hng]; exact bitsL_inc _ _ _)
    rw [hw] at h
    cases h
  | some l =>
    obtain ⟨s, rfl, hi, hok, hmin⟩ := leave_some hl
    rw [hng] at hi hmin
    have hi' : Inc 0 (t.nc * t.ng) s := hi
    refine ⟨s, rfl, hi', (hmin _ (bitsL_inc _ _ _) hw).1, ⟨fun ha => ?_, fun e => ?_⟩, fun ha => ?_⟩
    · have h := agree_none ha
      rw [hl] at h
      cases s with
      | nil => rfl
      | cons _ _ => cases h
    · subst e
      have h : (t.cnted x nw z bits).agree (outs (t.cnted x nw z bits).ng (natL [])) = true := hok
      rw [show natL [] = [] from rfl, outs_nil] at h
      exact h
    · obtain ⟨h1, h2⟩ := hmin _ (bitsL_inc _ _ _) (setL_agree hf ha)
      exact lessN_of h1 h2
end Go.Proofs.Ytjaoflfophcibaa
