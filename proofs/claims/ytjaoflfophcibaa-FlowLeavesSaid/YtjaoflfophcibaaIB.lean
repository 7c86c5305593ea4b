/- Leave's law: the first of the smallest lists of cells without which the others agree. -/
import Derived.Test.YtjaoflfophcibaaHL
import Derived.Test.YtjaoflfophcibaaIA
namespace Go.Proofs.Ytjaoflfophcibaa
open Go.RowKit Go.Shelf

/-- Growing numbers from k on, below N. -/
def Inc : Nat → Nat → List Nat → Prop
  | _, _, [] => True
  | k, N, a :: s => k ≤ a ∧ a < N ∧ Inc (a + 1) N s
def natL (s : List Nat) : List Int := s.map Int.ofNat
/-- The first list does not lie behind the second. -/
def lexB : List Nat → List Nat → Prop
  | [], _ => True
  | _ :: _, [] => False
  | a :: l, b :: s => a < b ∨ (a = b ∧ lexB l s)
theorem Inc.mono {k k' N : Nat} (h : k ≤ k') : ∀ {s : List Nat}, Inc k' N s → Inc k N s
  | [], _ => trivial
  | _ :: _, hs => ⟨Nat.le_trans h hs.1, hs.2⟩
theorem Inc.len {N : Nat} : ∀ {s : List Nat} {k : Nat}, k ≤ N → Inc k N s → s.length ≤ N - k
  | [], _, _, _ => Nat.zero_le _
  | a :: s, k, _, hs => by
    have h1 := Inc.len (s := s) (k := a + 1) (by have := hs.2.1; omega) hs.2.2
    have h2 := hs.1; have h3 := hs.2.1
    simp only [List.length_cons]
    omega
def LvOk (N : Nat) (ok : List Int → Bool) (m : Nat) (out : List Int) (k : Nat) (r : Option (List Int)) : Prop :=
  (∀ l, r = some l → ∃ s, l = out ++ natL s ∧ s.length = m ∧ Inc k N s ∧ ok l = true ∧ ∀ s', s'.length = m → Inc k N s' → ok (out ++ natL s') = true → lexB s s') ∧
  (r = none → ∀ s, s.length = m → Inc k N s → ok (out ++ natL s) = false)
theorem snoc_nat (out : List Int) (k : Nat) (s : List Nat) : out ++ [(k : Int)] ++ natL s = out ++ natL (k :: s) := by simp [natL]
theorem lvF_spec (N : Nat) (ok : List Int → Bool) : ∀ m out k, LvOk N ok m out k (lvF N ok m out k)
  | 0, out, k => by
    unfold lvF
    refine ⟨fun l h => ?_, fun h s hs _ => ?_⟩
    · by_cases e : ok out = true
      · rw [if_pos e] at h
        cases h
        exact ⟨[], by simp [natL], rfl, trivial, e, fun _ _ _ _ => trivial⟩
      · rw [if_neg e] at h; cases h
    · obtain rfl : s = [] := List.eq_nil_of_length_eq_zero hs
      by_cases e : ok out = true
      · rw [if_pos e] at h; cases h
      · simpa [natL] using e
  | m + 1, out, k => by
    have ih := lvF_spec N ok m
    show LvOk N ok (m + 1) out k (lvL (lvF N ok m) N out (N - k))
    have key : ∀ d k, N - k = d → LvOk N ok (m + 1) out k (lvL (lvF N ok m) N out (N - k)) := by
      intro d
      induction d with
      | zero =>
        intro k hd
        rw [hd]
        refine ⟨fun l h => (by cases h), fun _ s hs hi => ?_⟩
        cases s with
        | nil => cases hs
        | cons a s => obtain ⟨h1, h2, _⟩ := hi; omega
      | succ d ihd =>
        intro k hd
        have hk : k < N := by omega
        have hrec := ihd (k + 1) (by omega)
        rw [lvL_step hk]
        obtain ⟨i1, i2⟩ := ih (out ++ [(k : Int)]) (k + 1)
        cases hr : lvF N ok m (out ++ [(k : Int)]) (k + 1) with
        | some l =>
          obtain ⟨s, rfl, hs, hi, hok, hmin⟩ := i1 l hr
          refine ⟨fun l' h => ?_, fun h => by cases h⟩
          cases h
          refine ⟨k :: s, snoc_nat _ _ _, by simp [hs], ⟨Nat.le_refl _, hk, hi⟩, hok, fun s' hs' hi' ho' => ?_⟩
          cases s' with
          | nil => cases hs'
          | cons a s' =>
            have ha := hi'.1
            by_cases e : k = a
            · subst e
              exact .inr ⟨rfl, hmin s' (by simpa using hs') hi'.2.2 (by rw [snoc_nat]; exact ho')⟩
            · exact .inl (by omega)
        | none =>
          have hno := i2 hr
          refine ⟨fun l' h => ?_, fun h s hs hi => ?_⟩
          · obtain ⟨s, rfl, hs, hi, hok, hmin⟩ := hrec.1 l' h
            refine ⟨s, rfl, hs, hi.mono (by omega), hok, fun s' hs' hi' ho' => ?_⟩
            cases s' with
            | nil => cases hs'
            | cons a s' =>
              have ha := hi'.1
              by_cases e : k = a
              · subst e
                have := hno s' (by simpa using hs') hi'.2.2
                rw [snoc_nat, ho'] at this
                cases this
              · exact hmin (a :: s') hs' ⟨by omega, hi'.2⟩ ho'
          · cases s with
            | nil => cases hs
            | cons a s =>
              have ha := hi.1
              by_cases e : k = a
              · subst e
                have := hno s (by simpa using hs) hi.2.2
                rw [snoc_nat] at this
                exact this
              · exact hrec.2 h (a :: s) hs ⟨by omega, hi.2⟩
    exact key _ k rfl
theorem lvS_some {f : Nat → Option (List Int)} {l : List Int} : ∀ {n k : Nat}, lvS f n k = some l → ∃ m, k ≤ m ∧ m < k + n ∧ f m = some l ∧ ∀ j, k ≤ j → j < m → f j = none
  | 0, _, h => by cases h
  | n + 1, k, h => by
    rw [lvS] at h
    cases e : f k with
    | some l' =>
      rw [e] at h
      cases h
      exact ⟨k, Nat.le_refl _, by omega, e, fun j h1 h2 => by omega⟩
    | none =>
      rw [e] at h
      obtain ⟨m, h1, h2, h3, h4⟩ := lvS_some h
      refine ⟨m, by omega, by omega, h3, fun j hj1 hj2 => ?_⟩
      by_cases ej : j = k
      · rw [ej]; exact e
      · exact h4 j (by omega) hj2
theorem lvS_none {f : Nat → Option (List Int)} : ∀ {n k : Nat}, lvS f n k = none → ∀ j, k ≤ j → j < k + n → f j = none
  | 0, _, _, j, h1, h2 => by omega
  | n + 1, k, h, j, h1, h2 => by
    rw [lvS] at h
    cases e : f k with
    | some l' => rw [e] at h; cases h
    | none =>
      rw [e] at h
      by_cases ej : j = k
      · rw [ej]; exact e
      · exact lvS_none h j (by omega) (by omega)
theorem leave_some {t : Tb} {l : List Int} (h : t.leave = some l) : ∃ s, l = natL s ∧ Inc 0 (t.nc * t.ng) s ∧ okL t (natL s) = true ∧ ∀ s', Inc 0 (t.nc * t.ng) s' → okL t (natL s') = true → s.length ≤ s'.length ∧ (s.length = s'.length → lexB s s') := by
  obtain ⟨m, _, _, hm, hno⟩ := lvS_some h
  obtain ⟨s, rfl, hs, hi, hok, hmin⟩ := (lvF_spec (t.nc * t.ng) (okL t) m [] 0).1 l hm
  rw [List.nil_append] at hok
  refine ⟨s, List.nil_append _, hi, hok, fun s' hi' ho' => ⟨?_, fun e => hmin s' (by omega) hi' (by rw [List.nil_append]; exact ho')⟩⟩
  by_cases hlt : s'.length < m
  · have h0 := (lvF_spec (t.nc * t.ng) (okL t) s'.length [] 0).2 (hno _ (Nat.zero_le _) hlt) s' rfl hi'
    rw [List.nil_append, ho'] at h0
    cases h0
  · omega
theorem leave_none {t : Tb} (h : t.leave = none) {s : List Nat} (hi : Inc 0 (t.nc * t.ng) s) : okL t (natL s) = false := by
  have hl := Inc.len (Nat.zero_le _) hi
  have h0 := (lvF_spec (t.nc * t.ng) (okL t) s.length [] 0).2 (lvS_none h _ (Nat.zero_le _) (by omega)) s rfl hi
  rw [List.nil_append] at h0
  exact h0
theorem allB_of {p : Nat → Bool} {n : Nat} (h : allB p n = true) {q : Nat} (hq : q < n) : p q = true := by
  simp only [allB, List.all_eq_true, List.mem_range] at h; exact h q hq
/-- Which counts are left out matters only of the table's cells. -/
theorem before_out {t : Tb} {out out' : Nat → Nat → Bool} {n : Nat} (h : ∀ c g, c < n → g < t.ng → out c g = out' c g) : ∀ c, c ≤ n → ∀ g, g < t.ng → t.before out c g = t.before out' c g
  | 0, _, _, _ => rfl
  | c + 1, hc, g, hg => by
    have hup : ∀ q, q < t.ng → t.up out c q = t.up out' c q := fun q hq => by
      unfold Tb.up Tb.own
      rw [before_out h c (by omega) q hq, h c q (by omega) hq]
    show t.arr c g (t.up out c) = t.arr c g (t.up out' c)
    exact arr_congr (fun _ => hup _ (by omega)) (fun _ => hup _ hg)
theorem up_out {t : Tb} {out out' : Nat → Nat → Bool} (h : ∀ c g, c < t.nc → g < t.ng → out c g = out' c g) {c g : Nat} (hc : c < t.nc) (hg : g < t.ng) : t.up out c g = t.up out' c g := by
  unfold Tb.up Tb.own
  rw [before_out (n := t.nc) h c (by omega) g hg, h c g hc hg]
theorem agree_out {t : Tb} {out out' : Nat → Nat → Bool} (ht : Okt t) (h : ∀ c g, c < t.nc → g < t.ng → out c g = out' c g) : t.agree out = t.agree out' := by
  have := ht.nc1
  have hu : ∀ q, q < t.ng → t.up out (t.nc - 1) q = t.up out' (t.nc - 1) q := fun q hq => up_out h (by omega) hq
  unfold Tb.agree
  refine Bool.eq_iff_iff.2 ⟨fun e => allB_true (fun q hq => ?_), fun e => allB_true (fun q hq => ?_)⟩
  · rw [← hu q hq]; exact allB_of e hq
  · rw [hu q hq]; exact allB_of e hq
theorem before_ct {t : Tb} {ct' : Nat → Nat → R2} {out : Nat → Nat → Bool} (h : ∀ c g, out c g = false → ct' c g = t.ct c g) : ∀ c g, Tb.before { t with ct := ct' } out c g = t.before out c g
  | 0, _ => rfl
  | c + 1, g => by
    have hu : (fun q => meetR (Tb.before { t with ct := ct' } out c q) (Tb.own { t with ct := ct' } out c q)) = fun q => meetR (Tb.before t out c q) (Tb.own t out c q) := by
      funext q
      rw [before_ct h c q]
      unfold Tb.own
      cases e : out c q
      · simp only [Bool.false_eq_true, if_false]; rw [h c q e]
      · rfl
    show t.arr c g (fun q => meetR (Tb.before { t with ct := ct' } out c q) (Tb.own { t with ct := ct' } out c q)) = t.arr c g (fun q => meetR (Tb.before t out c q) (Tb.own t out c q))
    rw [hu]
theorem agree_ct {t : Tb} {ct' : Nat → Nat → R2} {out : Nat → Nat → Bool} (h : ∀ c g, out c g = false → ct' c g = t.ct c g) : Tb.agree { t with ct := ct' } out = t.agree out := by
  unfold Tb.agree
  have hu : ∀ q, Tb.up { t with ct := ct' } out (t.nc - 1) q = t.up out (t.nc - 1) q := fun q => by
    unfold Tb.up
    rw [before_ct h]
    unfold Tb.own
    cases e : out (t.nc - 1) q
    · simp only [Bool.false_eq_true, if_false]; rw [h _ q e]
    · rfl
  show allB (fun q => !emptyR (Tb.up { t with ct := ct' } out (t.nc - 1) q)) t.ng = _
  congr 1
  funext q
  rw [hu q]
/-- Without the counts that are wrong the others agree. -/
theorem wrong_agree {t : Tb} {x : Tr} {nw : Nat} {z : Nat → Int} {bits : Int} {out : Nat → Nat → Bool} (ht : Okt t) (hg : Gt t x t.nb) (hc : canC t x t.nb = true) (hf : (t.cnted x nw z bits).fault = 0) (hout : ∀ c g, out c g = false → bitB bits (4 * c + g) = false ∨ t.nb < c ∨ t.ng ≤ g) :
    (t.cnted x nw z bits).agree out = true := by
  have hng := cnted_ng ht x nw z bits
  have hl := Lv.of_can ht.w t.nb (Nat.le_refl _) hg.fit hc
  have hnb := ht.nb; have hnc4 := ht.nc4; have hnc1 := ht.nc1
  let ct' : Nat → Nat → R2 := fun c g => if out c g = true then (0, 500) else cntT (siz t.ng x) nw z bits c g
  let y : Tb := { (t.cnted x nw z bits) with ct := ct' }
  have yng : y.ng = t.ng := hng
  have e : y.agree out = (t.cnted x nw z bits).agree out := agree_ct (t := t.cnted x nw z bits) (ct' := ct') (fun c g h => if_neg (by rw [h]; decide))
  rw [← e]
  have hct : ∀ c g, c ≤ t.nb → g < t.ng → out c g = false → inR (siz t.ng x c g) (ct' c g) := fun c g hc hg ho => by
    show inR (siz t.ng x c g) (if out c g = true then (0, 500) else cntT (siz t.ng x) nw z bits c g)
    rw [if_neg (by rw [ho]; decide)]
    unfold cntT
    rcases hout c g ho with h | h | h
    · rw [h]; exact cnt_in (hl.sz c hc g hg).1
    · omega
    · omega
  have hok := Okt.of_fault hf
  have hct0 : ∀ g, g < t.ng → 0 ≤ (ct' 0 g).1 ∧ (ct' 0 g).1 ≤ (ct' 0 g).2 ∧ (ct' 0 g).2 ≤ 500 := fun g hg' => by
    show 0 ≤ (if out 0 g = true then ((0, 500) : R2) else cntT (siz t.ng x) nw z bits 0 g).1 ∧ (if out 0 g = true then ((0, 500) : R2) else cntT (siz t.ng x) nw z bits 0 g).1 ≤ (if out 0 g = true then ((0, 500) : R2) else cntT (siz t.ng x) nw z bits 0 g).2 ∧ (if out 0 g = true then ((0, 500) : R2) else cntT (siz t.ng x) nw z bits 0 g).2 ≤ 500
    split
    · simp only; omega
    · exact hok.ct 0 g hnc1 (by rw [hng]; exact hg')
  have hy : Okw y t.nb := ⟨ht.w.k4, by rw [yng]; exact ht.ng2, by rw [yng]; exact ht.ng4, fun g hg => hct0 g (by rw [yng] at hg; exact hg), ht.b, fun c hc => ht.r c (by rw [yng] at hc; rw [ht.nr]; exact hc), fun c hc => ht.n c (by rw [yng] at hc; rw [ht.nn]; exact hc)⟩
  have hfit : Fit y x t.nb := ⟨fun g hg' => by
    rw [yng] at hg'
    cases ho : out 0 g
    · exact hct 0 g (Nat.zero_le _) hg' ho
    · have h1 := hg.fit.f g hg'
      have h2 := ht.ct 0 g hnc1 hg'
      show (if out 0 g = true then ((0, 500) : R2) else cntT (siz t.ng x) nw z bits 0 g).1 ≤ x.f g ∧ x.f g ≤ (if out 0 g = true then ((0, 500) : R2) else cntT (siz t.ng x) nw z bits 0 g).2
      rw [if_pos ho]
      simp only
      omega, hg.fit.b, fun q hq g hg' => hg.fit.m q hq g (by rw [yng] at hg'; exact hg')⟩
  have hlv : Lv y x t.nb := ⟨fun q hq g hg => by rw [yng] at hg ⊢; exact hl.sz q hq g hg, fun q hq i hi => by rw [yng] at hi ⊢; exact hl.al q hq i hi⟩
  have hown : ∀ c g, c ≤ t.nb → g < y.ng → inR (siz y.ng x c g) (y.own out c g) := fun c g hc hg' => by
    rw [yng] at hg' ⊢
    unfold Tb.own
    cases ho : out c g
    · rw [if_neg (by decide)]; exact hct c g hc hg' ho
    · rw [if_pos rfl]
      have h1 := hl.sz c hc g hg'
      have h2 := bdP_le (c := c) (by omega)
      unfold inR
      simp only
      omega
  have hup : ∀ c g, c ≤ t.nb → g < y.ng → inR (siz y.ng x c g) (y.up out c g) := fun c g hc hg => meetR_in (before_in hy hfit hlv c hc (fun q g' hq hg' => hown q g' (by omega) hg') g hg) (hown c g hc hg)
  exact allB_true (fun g hg => by rw [emptyR_false (hup (y.nc - 1) g (by show t.nc - 1 ≤ t.nb; omega) hg)]; rfl)
/-- Numbers below N. -/
def upTo : Nat → Nat → List Nat
  | _, 0 => []
  | k, n + 1 => k :: upTo (k + 1) n
theorem upTo_inc : ∀ n k N, k + n ≤ N → Inc k N (upTo k n)
  | 0, _, _, _ => trivial
  | n + 1, k, N, h => ⟨Nat.le_refl _, by omega, upTo_inc n (k + 1) N (by omega)⟩
theorem upTo_mem : ∀ n k j, k ≤ j → j < k + n → j ∈ upTo k n
  | 0, _, _, h1, h2 => by omega
  | n + 1, k, j, h1, h2 => by
    by_cases e : j = k
    · subst e; exact List.mem_cons_self
    · exact List.mem_cons_of_mem _ (upTo_mem n (k + 1) j (by omega) (by omega))
theorem outs_mem {ng : Nat} {s : List Nat} {c g : Nat} (hg : g < ng) (h : c * ng + g ∈ s) : outs ng (natL s) c g = true := by
  have e1 : (c * ng + g) / ng = c := by rw [Nat.mul_comm, Nat.mul_add_div (by omega), Nat.div_eq_of_lt hg]; omega
  have e2 : (c * ng + g) % ng = g := by rw [Nat.mul_comm, Nat.mul_add_mod, Nat.mod_eq_of_lt hg]
  unfold outs natL
  refine List.any_eq_true.2 ⟨((c * ng + g : Nat) : Int), List.mem_map_of_mem (f := Int.ofNat) h, ?_⟩
  rw [Int.toNat_natCast, e1, e2, decide_eq_true rfl, decide_eq_true rfl]
  rfl
theorem outs_nmem {ng : Nat} {s : List Nat} {c g : Nat} (h : c * ng + g ∉ s) : outs ng (natL s) c g = false := by
  unfold outs
  refine List.any_eq_false.2 (fun k hk => ?_)
  obtain ⟨j, hj, rfl⟩ := List.mem_map.1 hk
  rw [show (Int.ofNat j).toNat = j from rfl]
  intro hb
  simp only [Bool.and_eq_true, decide_eq_true_eq] at hb
  refine h ?_
  have := Nat.div_add_mod j ng
  rw [hb.1, hb.2, Nat.mul_comm] at this
  rw [this]; exact hj
theorem cell_lt {c g nc ng : Nat} (hc : c < nc) (hg : g < ng) : c * ng + g < nc * ng := by
  have : (c + 1) * ng ≤ nc * ng := Nat.mul_le_mul_right _ hc
  rw [Nat.succ_mul] at this
  omega
/-- Something can be left out. -/
theorem leave_ex {t : Tb} {x : Tr} {nw : Nat} {z : Nat → Int} {bits : Int} (ht : Okt t) (hg : Gt t x t.nb) (hc : canC t x t.nb = true) (hf : (t.cnted x nw z bits).fault = 0) : ∃ l, (t.cnted x nw z bits).leave = some l := by
  cases h : (t.cnted x nw z bits).leave with
  | some l => exact ⟨l, rfl⟩
  | none =>
    have hok := Okt.of_fault hf
    have h1 := leave_none h (s := upTo 0 ((t.cnted x nw z bits).nc * (t.cnted x nw z bits).ng)) (upTo_inc _ _ _ (by omega))
    have h2 := wrong_agree (out := fun _ _ => true) (bits := bits) (nw := nw) (z := z) ht hg hc hf (fun c g h => by cases h)
    unfold okL at h1
    rw [agree_out (out' := fun _ _ => true) hok (fun c g hc hg => outs_mem hg (upTo_mem _ _ _ (Nat.zero_le _) (by rw [Nat.zero_add]; exact cell_lt hc hg))), h2] at h1
    cases h1
/-- With narrower ranges no fewer cells have to be left out. -/
theorem nar_leave {x y : Tb} {l m : List Int} (hN : Nar x y) (hx : Okt x) (hy : Okt y) (h : y.leave = some l) (k : x.leave = some m) : l.length ≤ m.length := by
  obtain ⟨s, rfl, _, _, hmin⟩ := leave_some h
  obtain ⟨s', rfl, hi, ho, _⟩ := leave_some k
  have hi' : Inc 0 (y.nc * y.ng) s' := by rw [← hN.nc, ← hN.ng]; exact hi
  have ho' : okL y (natL s') = true := by
    unfold okL at ho ⊢
    rw [← hN.ng]
    exact nar_agree hN hx hy ho
  have := (hmin s' hi' ho').1
  simpa [natL] using this
end Go.Proofs.Ytjaoflfophcibaa
