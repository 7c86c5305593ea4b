/- Picked: some truth of a valid table. -/
import Derived.Test.YtjaoflfophcibaaPK
namespace Go.Proofs.Ytjaoflfophcibaa
open Go.RowKit Go.Shelf

theorem PS.start (w : World) (Tc : Array Value) (f0 : Nat → Nat → Nat → Int) : PS w (((w.alloc (.cells Tc 25)).alloc (.cells zT 75)).alloc (.cells zT 75)) Tc zT (.slice none 0 0) 0 [] (.slice none 0 0) 0 [] 0 0 (fun _ _ => .slice none 0 0) (fun _ _ => 0) f0 := by
  have h1 := (BF.made3 w Tc zT zT 25 75 75).sub (List.forall_mem_cons.2 ⟨.tail _ (.tail _ (.head _)), List.forall_mem_cons.2 ⟨.tail _ (.head _), List.forall_mem_cons.2 ⟨.head _, List.forall_mem_nil _⟩⟩⟩)
  exact ⟨h1, ⟨fun _ _ _ => World.ownsRow_nil _ _ _ _, fun _ _ _ _ _ _ _ _ e => by cases e⟩, World.ownsRow_nil _ _ _ _, World.ownsRow_nil _ _ _ _, fun _ e => by cases e⟩
theorem map_upd {rows : Nat → Nat → Value} {k c : Nat} {v : Value} (n : Nat) (h : c < n) : (List.range n).map (upd rows k c v k) = ((List.range n).map (rows k)).set c v := by
  apply List.ext_getElem?
  intro j
  rw [List.getElem?_set]
  simp only [List.getElem?_map, List.length_map, List.length_range]
  by_cases hj : j < n
  · rw [List.getElem?_range hj]
    by_cases e : c = j
    · subst e; rw [if_pos rfl, if_pos hj]; simp [upd]
    · rw [if_neg e]; simp [upd, show ¬ j = c from fun h => e h.symm]
  · have e : ¬ c = j := by omega
    rw [if_neg e, List.getElem?_eq_none (by simp; omega)]; rfl
theorem map_upd_succ {rows : Nat → Nat → Value} {k c : Nat} {v : Value} : (List.range (c + 1)).map (upd rows k c v k) = (List.range c).map (rows k) ++ [v] := by
  rw [List.range_succ, List.map_append]
  congr 1
  · exact List.map_congr_left (fun j hj => upd_ne _ _ (by have := List.mem_range.1 hj; omega))
  · simp [upd]
theorem map_upd_other {rows : Nat → Nat → Value} {k k' c : Nat} {v : Value} (n : Nat) (h : k' ≠ k) : (List.range n).map (upd rows k c v k') = (List.range n).map (rows k') :=
  List.map_congr_left (fun j _ => upd_ne _ _ (by omega))
theorem replicate_iL (n : Nat) : List.replicate n (Value.int .i64 0) = iL (fun _ => 0) n := by unfold iL; rw [List.map_const']; simp
theorem made_iL (n : Nat) : (madeCells (Value.int .i64 0).cells (n * 1)).toList = iL (fun _ => 0) n := by
  rw [Nat.mul_one]; exact (toList_madeCells_one _ _).trans (replicate_iL n)
theorem in_pick {a b v : Int} (h : a ≤ b) : a ≤ pickI a b v ∧ pickI a b v ≤ b := pickI_in h
section
variable {P : Program} (w : World)
theorem step_make_full {ops : Array Oper} {o : Oper} {a : Act} {K : Act → World → Prop} {Q : Exit → Act → World → Prop} {E : Prop}
    (hg : o.guard = none) (l c : Operand) (t : TypeId) (hop : o.op = Op.makeSlice t l c)
    (base : Nat) (e : TypeId) (i : TypeInfo) (z : Value) (size : Nat) (h1 : P.underlying t = some (.slice e)) (h2 : P.info? e = some i) (h3 : i.zero = some z) (h4 : i.size = size)
    (kl kc : IntKind) (L C : Int) (n : Nat) (hl : a.eval l = .int kl L) (hc : a.eval c = .int kc C) (hL : L = (n : Int)) (hC : C = (n : Int)) (b2 : i.bytes * n ≤ 281474976710656) (b3 : n ≤ maxLen) (b4 : base ≤ w.heap.size)
    (hK : ∀ w', w'.ownsRow base e size (.slice (some ⟨w.heap.size, 0, none⟩) n n) n (madeCells z.cells (n * size)).toList → w.grownBy w' none → K (a.put o.dst (.slice (some ⟨w.heap.size, 0, none⟩) n n)) w') :
    if Region.wanted o (yielded ops a.tmps) = true then Oper.wp P o a w K Q else E := by
  have hw : Region.wanted o (yielded ops a.tmps) = true := by simp [Region.wanted, hg]
  rw [if_pos hw]
  obtain ⟨w', hrun, r1, r2⟩ := run_make_full (P := P) w base t e i z size h1 h2 h3 h4 kl kc n b2 b3 b4
  subst hL
  subst hC
  unfold Oper.wp
  simp [execOp, hop, hl, hc, hrun, Result.andThen]
  exact hK w' r1 r2
end
theorem PS.xl {w W : World} {Tc hdr : Array Value} {nd nm dc mc fc bc : Nat} {da ma fa ba : Option Addr} {rows : Nat → Nat → Value} {len : Nat → Nat → Nat} {val : Nat → Nat → Nat → Int}
    (h : PS w W Tc hdr (.slice da nd dc) nd ((List.range nd).map (rows 2)) (.slice ma nm mc) nm ((List.range nm).map (rows 3)) nd nm rows len val) (hf : rows 0 0 = .slice fa (len 0 0) fc) (hb : rows 1 0 = .slice ba (len 1 0) bc) : XL W ⟨fa, fc, ba, bc, da, dc, ma, mc⟩ (trOf nd nm len val) := by
  have h0 := h.ir.own 0 0 (.inl ⟨rfl, rfl⟩)
  have h1 := h.ir.own 1 0 (.inr (.inl ⟨rfl, rfl⟩))
  rw [hf] at h0
  rw [hb] at h1
  exact ⟨IntsAt.own h0, IntsAt.own h1, IRowsO.rows ⟨h.d, fun j hj => h.ir.own 2 j (.inr (.inr (.inl ⟨rfl, hj⟩)))⟩, IRowsO.rows ⟨h.m, fun j hj => h.ir.own 3 j (.inr (.inr (.inr ⟨rfl, hj⟩)))⟩⟩
/-- The result's block may change. -/
theorem PS.final {w W X : World} {Tc hdr : Array Value} {nd nm dc mc fc bc : Nat} {da ma fa ba : Option Addr} {rows : Nat → Nat → Value} {len : Nat → Nat → Nat} {val : Nat → Nat → Nat → Int}
    (h : PS w W Tc hdr (.slice da nd dc) nd ((List.range nd).map (rows 2)) (.slice ma nm mc) nm ((List.range nm).map (rows 3)) nd nm rows len val) (hf : rows 0 0 = .slice fa (len 0 0) fc) (hb : rows 1 0 = .slice ba (len 1 0) bc) (hfr : Fr (fun b => b = w.heap.size + 1) W X) : (∀ Z, Abv w.heap.size X Z → XL Z ⟨fa, fc, ba, bc, da, dc, ma, mc⟩ (trOf nd nm len val)) ∧ Below w.heap.size w X := by
  have hR := (h.bf.bk _ _ _ (.tail _ (.head _))).2
  have hx : ∀ b cs T, T ≠ 75 → W.heap[b]? = some (.cells cs T (0, 0)) → ¬ b = w.heap.size + 1 := fun b cs T hT hb e => by subst e; rw [hR] at hb; cases hb; exact hT rfl
  have h0 := own_fr (h.ir.own 0 0 (.inl ⟨rfl, rfl⟩)) hfr (fun g cur _ _ hc => hx g cur _ (by decide) hc)
  have h1 := own_fr (h.ir.own 1 0 (.inr (.inl ⟨rfl, rfl⟩))) hfr (fun g cur _ _ hc => hx g cur _ (by decide) hc)
  rw [hf] at h0
  rw [hb] at h1
  refine ⟨fun Z hZ => ⟨IntsAt.own (own_abv h0 hZ (Nat.le_refl _)), IntsAt.own (own_abv h1 hZ (Nat.le_refl _)), IRowsO.rows (IRowsO.abv ⟨own_fr h.d hfr (fun g cur _ _ hc => hx g cur _ (by decide) hc), fun j hj => own_fr (h.ir.own 2 j (.inr (.inr (.inl ⟨rfl, hj⟩)))) hfr (fun g cur _ _ hc => hx g cur _ (by decide) hc)⟩ hZ (Nat.le_refl _)), IRowsO.rows (IRowsO.abv ⟨own_fr h.m hfr (fun g cur _ _ hc => hx g cur _ (by decide) hc), fun j hj => own_fr (h.ir.own 3 j (.inr (.inr (.inr ⟨rfl, hj⟩)))) hfr (fun g cur _ _ hc => hx g cur _ (by decide) hc)⟩ hZ (Nat.le_refl _))⟩, ?_⟩
  exact h.bf.fr.trans (hfr.low h.bf.fr.size (fun q hq e => by omega))
theorem set4h {X : World} {b : Nat} {a0 a1 a2 a3 : Value} {t : TypeId} (h : X.heap[b]? = some (.cells #[a0, a1, a2, a3] t (0, 0))) (v0 v1 v2 v3 : Value) :
    ((((X.setCell ⟨b, 0, none⟩ v0).setCell ⟨b, 1, none⟩ v1).setCell ⟨b, 2, none⟩ v2).setCell ⟨b, 3, none⟩ v3).heap[b]? = some (.cells #[v0, v1, v2, v3] t (0, 0)) ∧ Fr (fun k => k = b) X ((((X.setCell ⟨b, 0, none⟩ v0).setCell ⟨b, 1, none⟩ v1).setCell ⟨b, 2, none⟩ v2).setCell ⟨b, 3, none⟩ v3) :=
  ⟨by simp [World.setCell, Array.getElem?_modify, h], (((Fr.set X b 0 v0).trans (Fr.set _ b 1 v1)).trans (Fr.set _ b 2 v2)).trans (Fr.set _ b 3 v3)⟩
theorem round_names (t : Tb) (c : Nat) (rows : Nat → Nat → Value) (len : Nat → Nat → Nat) (val : Nat → Nat → Nat → Int) (B rv : Value) (v : Int) (hg : Gt t (trOf c c len val) c) :
    ∃ R L V, upd (upd (upd rows 1 0 B) 2 c rv) 3 c (.slice none 0 0) = R ∧ upd (upd (upd len 1 0 (c + 1)) 2 c (t.ng + 1)) 3 c 0 = L ∧ upd (upd val 1 0 (fun q => if q = c then v else val 1 0 q)) 2 c (fun _ => 0) = V ∧
      R 0 0 = rows 0 0 ∧ R 1 0 = B ∧ R 2 c = rv ∧ R 3 c = .slice none 0 0 ∧ L 0 0 = len 0 0 ∧ L 1 0 = c + 1 ∧ L 2 c = t.ng + 1 ∧ L 3 c = 0 ∧ V 1 0 c = v ∧
      (List.range (c + 1)).map (R 2) = (List.range c).map (rows 2) ++ [rv] ∧ (List.range (c + 1)).map (R 3) = (List.range c).map (rows 3) ++ [.slice none 0 0] ∧ Gt t (trOf (c + 1) (c + 1) L V) c := by
  refine ⟨_, _, _, rfl, rfl, rfl, by simp [upd], by simp [upd], by simp [upd], by simp [upd], by simp [upd], by simp [upd], by simp [upd], by simp [upd], by simp [upd], ?_, ?_, ?_⟩
  · rw [map_upd_other _ (by omega), map_upd_succ, map_upd_other _ (by omega)]
  · rw [map_upd_succ, map_upd_other _ (by omega), map_upd_other _ (by omega)]
  · refine hg.congr (by simp [trOf, upd]) (by simp [trOf, upd]) (fun q hq => ?_)
    have e : ¬ q = c := by omega
    simp [trOf, upd, e]
theorem play_short {t : Tb} {c : Nat} {L : Nat → Nat → Nat} {V : Nat → Nat → Nat → Int} (ht : Okt t) (hc : c < t.nb) (hg : Gt t (trOf (c + 1) (c + 1) L V) c) (h10 : L 1 0 = c + 1) (h2 : L 2 c = t.ng + 1) (h3 : L 3 c = t.ng) : PlayOk (t.short c) (trOf (c + 1) (c + 1) L V) := by
  have ng2 := ht.ng2; have ng4 := ht.ng4; have nb := ht.nb; have nc4 := ht.nc4
  have e := short_ng ht c
  refine ⟨by rw [e]; omega, by rw [e]; omega, by show c + 1 ≤ 100; omega, by rw [e]; show t.ng + 1 ≤ t.nr; rw [ht.nr]; omega, by rw [e]; exact hg.nf, by show c + 1 ≤ L 1 0; omega, by show c + 1 ≤ c + 1; omega, by show c + 1 ≤ c + 1; omega, fun q hq => ?_, fun q hq => ?_, by show L 1 0 ≤ 100000; omega, by show c + 1 ≤ 100000; omega, by show c + 1 ≤ 100000; omega⟩
  · rw [e]
    have hq' : q < c + 1 := hq
    by_cases e2 : q = c
    · subst e2; exact h2
    · exact hg.dl q (by omega)
  · rw [e]
    have hq' : q < c + 1 := hq
    by_cases e2 : q = c
    · subst e2; exact h3
    · exact hg.ml q (by omega)
theorem round_mid {t : Tb} {c : Nat} {L L' : Nat → Nat → Nat} {V V' : Nat → Nat → Nat → Int} (hg : Gt t (trOf (c + 1) (c + 1) L V) c) (h1 : ∀ k j, ¬ (k = 3 ∧ j = c) → L' k j = L k j ∧ V' k j = V k j) : Gt t (trOf (c + 1) (c + 1) L' V') c :=
  hg.congr ((h1 0 0 (by omega)).2) ((h1 0 0 (by omega)).1) (fun q hq => ⟨congrFun (h1 1 0 (by omega)).2 q, (h1 2 q (by omega)).2, (h1 3 q (by omega)).2, (h1 2 q (by omega)).1, (h1 3 q (by omega)).1⟩)
theorem round_end {t : Tb} {c : Nat} {L' : Nat → Nat → Nat} {V' V4 : Nat → Nat → Nat → Int} (hg : Gt t (trOf (c + 1) (c + 1) L' V') c) (h2 : ∀ k j, ¬ (k = 2 ∧ j = c) → V4 k j = V' k j)
    (hb : (t.b c).1 ≤ V' 1 0 c ∧ V' 1 0 c ≤ (t.b c).2) (hm : ∀ q, q < t.ng → (t.n q).1 ≤ V' 3 c q ∧ V' 3 c q ≤ (t.n q).2) (hd : ∀ j, j < t.ng + 1 → 0 ≤ V4 2 c j ∧ V4 2 c j ≤ max 0 (allS (V' 1 0 c) (siz t.ng (trOf (c + 1) (c + 1) L' V') c) j))
    (hl2 : L' 2 c = t.ng + 1) (hl3 : L' 3 c = t.ng) : Gt t (trOf (c + 1) (c + 1) L' V4) (c + 1) := by
  have hc : ∀ q, q < c → (trOf (c + 1) (c + 1) L' V4).b q = (trOf (c + 1) (c + 1) L' V').b q ∧ (trOf (c + 1) (c + 1) L' V4).d q = (trOf (c + 1) (c + 1) L' V').d q ∧ (trOf (c + 1) (c + 1) L' V4).m q = (trOf (c + 1) (c + 1) L' V').m q := fun q hq => ⟨congrFun (h2 1 0 (by omega)) q, h2 2 q (by omega), h2 3 q (by omega)⟩
  have h4 : Gt t (trOf (c + 1) (c + 1) L' V4) c := hg.congr (h2 0 0 (by omega)) rfl (fun q hq => ⟨(hc q hq).1, (hc q hq).2.1, (hc q hq).2.2, rfl, rfl⟩)
  refine h4.succ ?_ (fun g hg => ?_) (fun i hi => ?_) hl2 hl3
  · show (t.b c).1 ≤ V4 1 0 c ∧ V4 1 0 c ≤ (t.b c).2
    rw [h2 1 0 (by omega)]; exact hb
  · show (t.n g).1 ≤ V4 3 c g ∧ V4 3 c g ≤ (t.n g).2
    rw [h2 3 c (by omega)]; exact hm g hg
  · have h5 := hd i hi
    rw [← siz_congr (ng := t.ng) (x := trOf (c + 1) (c + 1) L' V') (x' := trOf (c + 1) (c + 1) L' V4) (h2 0 0 (by omega)) c hc, ← h2 1 0 (by omega)] at h5
    exact h5
theorem all_bd {t : Tb} {c : Nat} {L : Nat → Nat → Nat} {V : Nat → Nat → Nat → Int} (ht : Okt t) (hc : c < t.nb) (hg : Gt t (trOf (c + 1) (c + 1) L V) c) (hb : (t.b c).1 ≤ V 1 0 c ∧ V 1 0 c ≤ (t.b c).2) : ∀ i, i < t.ng + 1 → -1000000 ≤ allS (V 1 0 c) (siz t.ng (trOf (c + 1) (c + 1) L V) c) i ∧ allS (V 1 0 c) (siz t.ng (trOf (c + 1) (c + 1) L V) c) i ≤ 1000000 := by
  intro i hi
  have nb := ht.nb; have nc4 := ht.nc4
  have hbp := bdP_le (c := c) (by omega)
  match i with
  | 0 =>
    show -1000000 ≤ V 1 0 c ∧ V 1 0 c ≤ 1000000
    have := ht.b c hc
    omega
  | i + 1 =>
    have := siz_bd ht.w c (by omega) hg.fit hg.dead i (by omega)
    show -1000000 ≤ siz t.ng (trOf (c + 1) (c + 1) L V) c i ∧ siz t.ng (trOf (c + 1) (c + 1) L V) c i ≤ 1000000
    omega
theorem own_some {W : World} {base size n c : Nat} {T : TypeId} {a : Option Addr} {xs : List Value} (h : W.ownsRow base T size (.slice a (n + 1) c) (n + 1) xs) : ∃ b, a = some ⟨b, 0, none⟩ := by
  rcases h.2 with ⟨e, _⟩ | ⟨g, cap, cur, e, _⟩
  · cases e
  · cases e; exact ⟨g, rfl⟩
theorem map_get {rows : Nat → Value} {n c : Nat} (h : c < n) : ((List.range n).map rows)[c]? = some (rows c) := by
  rw [List.getElem?_map, List.getElem?_range h]; rfl
theorem set1h {X : World} {b i : Nat} {cs cs' : Array Value} {t : TypeId} (h : X.heap[b]? = some (.cells cs t (0, 0))) (v : Value) (hc : cs.setIfInBounds i v = cs') :
    (X.setCell ⟨b, i, none⟩ v).heap[b]? = some (.cells cs' t (0, 0)) ∧ Fr (fun k => k = b) X (X.setCell ⟨b, i, none⟩ v) := by
  subst hc
  exact ⟨by simp [World.setCell, Array.getElem?_modify, h], Fr.set X b i v⟩
set_option maxRecDepth 100000 in
set_option maxHeartbeats 8000000 in
theorem picked_truth (u : WV) (t : Tb) (wv : Value) (nw : Nat) (z : Nat → Int) (hs : t.small) (hf : t.fault = 0) (w : World) (hl : WLi w u t) (hcc : t.nc ≤ u.cc) (hcb : t.nb ≤ u.bc) (hw : WordsIn w wv nw z) (hn : nw ≤ maxLen) :
    Calls Try.prog 54 #[.agg #[u.cv t, u.bv t, u.rv t, u.nv t], wv] w fun e w' => ∃ y x, e = .returned (.agg #[.slice y.fa x.nf y.fc, .slice y.ba x.nb y.bc, .slice y.da x.nd y.dc, .slice y.ma x.nm y.mc]) ∧ XL w' y x ∧ Gt t x t.nb ∧ x.nb = t.nb ∧ x.nd = t.nb ∧ x.nm = t.nb ∧ Below w.heap.size w w' ∧ ∀ X, Abv w.heap.size w' X → XL X y x := by
  have HG : Hid (∀ X, Below w.heap.size w X → Calls Try.prog 23 #[.agg #[u.cv t, u.bv t, u.rv t, u.nv t]] X fun e w' => e = .returned (.int .i64 (t.ng : Nat)) ∧ Below X.heap.size X w') := fun X hX => rgroups_any _ t X (hl.below hX).tb hs
  have HWD : Hid (∀ (X : World) (i : Int), Below w.heap.size w X → 0 ≤ i → i ≤ 1000000000 → Calls Try.prog 91 #[wv, .int .i64 i] X fun e w' => e = .returned (.int .i64 (wordF nw z i)) ∧ X = w') := fun X i hX h1 h2 => word_any wv nw z i X (hw.below hX) hn h1 h2
  have HWB : Hid (∀ i, 0 ≤ wordF nw z i ∧ wordF nw z i ≤ 65535) := fun i => wordF_bd hw i
  have HPL : Hid (∀ (X : World) (c : Nat) (cc bc : Nat) (y : XV) (x : Tr), Below w.heap.size w X → c < t.nb → XL X y x → PlayOk (t.short c) x → Calls Try.prog 52 #[.agg #[.slice u.ca (c + 2 : Nat) cc, .slice u.ba (c + 1 : Nat) bc, u.rv t, u.nv t], .agg #[.slice y.fa x.nf y.fc, .slice y.ba x.nb y.bc, .slice y.da x.nd y.dc, .slice y.ma x.nm y.mc]] X fun e w' => ∃ v b, e = .returned (.tuple #[v, .bool b]) ∧ IRows w' v (c + 2) (fun _ => t.ng) (siz t.ng x) ∧ Below X.heap.size X w') := fun X c cc bc y x hX hc hx hp => by
    have hT := Okt.of_fault hf
    have hX' := hl.below hX
    have hnb := hT.nb
    have h := play_any { u with cc := cc, bc := bc } (t.short c) y x ⟨by show c + 2 ≤ 100000; have := hs.1; omega, hs.2.1, by show c + 1 ≤ 100000; have := hs.1; omega, hs.2.2.2.1, hs.2.2.2.2⟩ X ⟨hX'.1.take (by show c + 2 ≤ t.nc; omega), hX'.2.1.take (by show c + 1 ≤ t.nb; omega), hX'.2.2.1, hX'.2.2.2⟩ hx hp
    rw [short_ng hT] at h
    refine h.mono ?_
    rintro e w' ⟨v, h1, h2, h3, _⟩
    exact ⟨v, _, h1, h2, h3⟩
  have HT := Lib.hid (Okt.of_fault hf)
  obtain ⟨i1, hi1, hy0, hy1, hy2⟩ := info_parts Try.infoInt
  obtain ⟨i2, hi2, hx0, hx1, hx2⟩ := info_parts Try.infoInts
  obtain ⟨wa, wc, rfl⟩ := hw.len
  have ng2 := HT.out.ng2; have ng4 := HT.out.ng4; have nc1 := HT.out.nc1; have nc4 := HT.out.nc4; have nbc := HT.out.nb
  have HRC := Lib.hid hl.1; have HRB := Lib.hid hl.2.1; have HRR := Lib.hid hl.2.2.1; have HRN := Lib.hid hl.2.2.2
  have HNR := Lib.hid HT.out.nr; have HNN := Lib.hid HT.out.nn
  clear hs hf hl hw hn
  simp only [WV.cv, WV.bv, WV.rv, WV.nv] at HG HRC HRB HRR HRN HPL ⊢
  have HP0 := Lib.hid (PS.start w #[.slice u.ca t.nc u.cc, .slice u.ba t.nb u.bc, .slice u.ra t.nr u.rc, .slice u.na t.nn u.nc] (fun _ _ _ => 0))
  go_enter Try.func54, Try.ntmps54
  go_wp2_with fail
  unfold zT at HP0
  go_loopw [6] (fun i wr => ∃ (k : Nat) (rows : Nat → Nat → Value) (len : Nat → Nat → Nat) (val : Nat → Nat → Nat → Int), k ≤ t.ng ∧ i = .int .i64 k ∧ len 0 0 = k ∧ rows 1 0 = .slice none 0 0 ∧ len 1 0 = 0 ∧ PS w wr #[.slice u.ca t.nc u.cc, .slice u.ba t.nb u.bc, .slice u.ra t.nr u.rc, .slice u.na t.nn u.nc] #[rows 0 0, .slice none 0 0, .slice none 0 0, .slice none 0 0] (.slice none 0 0) 0 [] (.slice none 0 0) 0 [] 0 0 rows len val ∧ ∀ g, g < k → (t.ct 0 g).1 ≤ val 0 0 g ∧ val 0 0 g ≤ (t.ct 0 g).2) (fun i _ => t.ng - (intOf i).toNat)
  case atStart => exact ⟨0, fun _ _ => .slice none 0 0, fun _ _ => 0, fun _ _ _ => 0, Nat.zero_le _, rfl, rfl, rfl, rfl, HP0.out, fun _ h => absurd h (Nat.not_lt_zero _)⟩
  case round =>
    clear HP0
    obtain ⟨k, rows, len, val, hk, rfl, hlen, hr1, hl1, hps, hfit⟩ := hrel
    have HP := Lib.hid hps; have HL := Lib.hid hlen; have HR1 := Lib.hid hr1; have HL1 := Lib.hid hl1; have HF := Lib.hid hfit
    have ho := hps.ir.own 0 0 (.inl ⟨rfl, rfl⟩)
    rw [hlen] at ho
    obtain ⟨fa, fc, hr⟩ := own_slice' ho
    have HR := Lib.hid hr
    rw [hr] at ho HP
    have HO := Lib.hid ho
    clear hps hlen hr1 hl1 hfit hr ho
    have c0 := HP.out.bf.cell (.tail _ (.tail _ (.head _))) 0
    have c1 := HP.out.bf.cell (.tail _ (.tail _ (.head _))) 1
    have c2 := HP.out.bf.cell (.tail _ (.tail _ (.head _))) 2
    have c3 := HP.out.bf.cell (.tail _ (.tail _ (.head _))) 3
    have ki : (0 : Int) ≤ (k : Int) := by omega
    by_cases hlt : k < t.ng
    · have kj : (k : Int) < (t.ng : Int) := by omega
      go_wp2_with (go_at_call 23; refine (HG.out _ HP.out.bf.fr).mono ?_; rintro _ wr ⟨rfl, hb5⟩; have HP5 := Lib.hid (HP.out.below hb5); have HO5 := Lib.hid (own_below HO.out hb5); clear hb5)
      clear c0 c1 c2 c3 HP HO
      obtain ⟨bc, oc, br, rc, hca, hbc, hx, hrow⟩ := HRC.out.at (k := 0) (by omega)
      obtain ⟨bq, oq, rfl, hbq, x0, x1⟩ := hrow.at (k := k) (by rw [HT.out.rl 0 (by omega)]; exact hlt)
      rw [Nat.add_zero] at hx
      obtain ⟨p, q, HPQ⟩ : ∃ p q, Hid (t.ct 0 k = (p, q)) := ⟨_, _, rfl⟩
      have hpq := HT.out.ct 0 k (by omega) hlt
      rw [HPQ.out] at x0 x1 hpq
      simp only at x0 x1 hpq
      have krl : (k : Int) < (t.rl 0 : Int) := by rw [HT.out.rl 0 (by omega)]; omega
      have knc : 0 < t.nc := by omega
      have HCK : Hid (∀ X v1 v2 v3, BF w X [(w.heap.size + 2, #[.slice fa k fc, v1, v2, v3], 75), (w.heap.size + 1, zT, 75), (w.heap.size, #[.slice u.ca t.nc u.cc, .slice u.ba t.nb u.bc, .slice u.ra t.nr u.rc, .slice u.na t.nn u.nc], 25)] → X.cell? ⟨w.heap.size + 2, 0, none⟩ = some (.slice fa k fc) ∧ X.cell? ⟨w.heap.size, 0, none⟩ = some (.slice (some ⟨bc, oc, none⟩) t.nc u.cc) ∧ X.cell? ⟨bc, oc, none⟩ = some (.slice (some ⟨bq, oq, none⟩) (t.rl 0) rc) ∧ X.cell? ⟨bq, oq + k * 2, none⟩ = some (.int .i64 p) ∧ X.cell? ⟨bq, oq + k * 2 + 1, none⟩ = some (.int .i64 q)) := fun X v1 v2 v3 hX => ⟨hX.cell (.head _) 0, by rw [← hca]; exact hX.cell (.tail _ (.tail _ (.head _))) 0, kept hX.fr hbc hx, kept hX.fr hbq x0, kept hX.fr hbq x1⟩
      obtain ⟨wd, HWV⟩ : ∃ wd, Hid (wordF nw z (k : Int) = wd) := ⟨_, rfl⟩
      have hwd := HWB.out (k : Int)
      rw [HWV.out] at hwd
      obtain ⟨v, HV⟩ : ∃ v, Hid (pickI p q wd = v) := ⟨_, rfl⟩
      have hv := in_pick (v := wd) hpq.2.1
      rw [HV.out] at hv
      obtain ⟨hwd1, hwd2⟩ := hwd; obtain ⟨hpq1, hpq2, hpq3⟩ := hpq; obtain ⟨hv1, hv2⟩ := hv
      clear hca hbc hx hrow hbq x0 x1
      have HAX : Hid (Below wr.heap.size wr wr.drew) := (Below.refl _ _).drew
      refine wp_region_Z (S := fun X => X.cell? ⟨w.heap.size + 2, 0, none⟩ = some (.slice fa k fc) ∧ X.cell? ⟨w.heap.size, 0, none⟩ = some (.slice (some ⟨bc, oc, none⟩) t.nc u.cc) ∧ X.cell? ⟨bc, oc, none⟩ = some (.slice (some ⟨bq, oq, none⟩) (t.rl 0) rc) ∧ X.cell? ⟨bq, oq + k * 2, none⟩ = some (.int .i64 p) ∧ X.cell? ⟨bq, oq + k * 2 + 1, none⟩ = some (.int .i64 q)) (by kernel_rfl) (HCK.out _ _ _ _ (HP5.out.below HAX.out).bf) (fun hS => ?_)
      generalize wr.drew = X at *
      refine tk [0, 1, 2, 3, 4, 5, 6, 7, 8, 9, 10] ?_
      repeat (refine tkZ (oi := ⟨_, _, _, _, _, _⟩) (v := ?_) rfl (by kernel_rfl) (by rfl) (fun _ _ _ h => h) hS ?_ ?_; rotate_left; (· rintro W' ⟨z0, z1, z2, z3, z4⟩; go_simp; try with_reducible rfl); try simp only [Act.put, putA, putZ, putS])
      refine tk0 ?_
      refine wpAnyZ_next (rs := [11]) (by kernel_rfl) (by simp) ?_
      refine NextZ.cons (o := ⟨some 31, _, _, _, _, _⟩) rfl (fun K hK => ?_) NextZ.nil
      go_simp
      refine (HWD.out X ((k : Int)) (HP5.out.below HAX.out).bf.fr (by omega) (by omega)).mono ?_
      rw [HWV.out]
      rintro _ X0 ⟨rfl, rfl⟩
      (try go_wp2_with fail)
      refine hK.out _ _ (HCK.out X _ _ _ (HP5.out.below HAX.out).bf) (fun hS => ?_)
      clear hK K
      try simp only [Act.put, putA, putZ, putS]
      refine wpAnyZ_next (rs := [12]) (by kernel_rfl) (by simp) ?_
      refine NextZ.cons (o := ⟨some 32, _, _, _, _, _⟩) rfl (fun K hK => ?_) NextZ.nil
      go_simp
      refine (picked_any p q wd X hwd1 hwd2 hpq2 (by omega) (by omega)).mono ?_
      rw [HV.out]
      rintro _ X1 ⟨rfl, hb1⟩
      (try go_wp2_with fail)
      have HA1 : Hid (Below wr.heap.size wr X1) := below_step HAX.out hb1
      refine hK.out _ _ (HCK.out X1 _ _ _ (HP5.out.below HA1.out).bf) (fun hS => ?_)
      clear hK K
      try simp only [Act.put, putA, putZ, putS]
      clear hb1
      refine wpAnyZ_next (rs := [13]) (by kernel_rfl) (by simp) ?_
      refine NextZ.cons (o := ⟨some 33, _, _, _, _, _⟩) rfl (fun K hK => ?_) NextZ.nil
      go_simp
      have HB1 : Hid (Below wr.heap.size wr (X1.alloc (.cells #[.int .i64 v] 3))) := below_step HA1.out (below_alloc _ _)
      have HJ : Hid ((X1.alloc (.cells #[.int .i64 v] 3)).heap[X1.heap.size]? = some (.cells #[.int .i64 v] 3 (0, 0))) := heap_alloc_new _ _
      refine hK.out _ _ (HCK.out (X1.alloc (.cells #[.int .i64 v] 3)) _ _ _ (HP5.out.below HB1.out).bf) (fun hS => ?_)
      clear hK K
      try simp only [Act.put, putA, putZ, putS]
      generalize X1.heap.size = J at *
      generalize (X1.alloc (.cells #[.int .i64 v] 3)) = X1 at *
      refine wpAnyZ_next (rs := [14]) (by kernel_rfl) (by simp) ?_
      refine NextZ.cons (o := ⟨some 34, _, _, _, _, _⟩) rfl (fun K hK => ?_) NextZ.nil
      refine step_append_src X1 (by rfl) (.tmp 21) (.tmp 33) 72 (by rfl) w.heap.size 3 i1 (.int .i64 0) 1 8 Try.underlying72 hi1 hy0 hy1 hy2 rfl (by decide) (.slice fa k fc) (k) (iL (val 0 0) (k)) (by rfl) (own_below HO5.out HB1.out) (some ⟨J, 0, none⟩) 1 1 [.int .i64 v] (by rfl) ⟨rfl, fun j u hu => ⟨_, rfl, World.news_of_block HJ.out j u hu⟩⟩ (by simp [Value.oneCell']) (by unfold maxLen; omega) (by omega) (HP5.out.below HB1.out).bf.fr.size ?_
      intro v1 Y hown hgr hlt1
      have HPY := Lib.hid ((HP5.out.below HB1.out).grow (Y := Y) (k := 0) (j := 0) (u := v1) (v := v) (.inl ⟨rfl, rfl⟩) (by rw [HR.out]; exact hgr) (by rw [HL.out]; exact hown) (by rw [HR.out]; exact hlt1))
      obtain ⟨aa, ac, rfl⟩ := own_slice' hown
      clear hown hgr hlt1
      refine hK.out _ _ (HCK.out Y _ _ _ HPY.out.bf) (fun hS => ?_)
      clear hK K
      try simp only [Act.put, putA, putZ, putS]
      refine tZ 15 (oi := ⟨_, _, _, _, _, _⟩) (v := ?_) rfl (by kernel_rfl) (by rfl) (fun _ _ _ h => h) hS ?_ ?_
      rotate_left
      · rintro W' ⟨z0, z1, z2, z3, z4⟩; go_simp; try with_reducible rfl
      try simp only [Act.put, putA, putZ, putS]
      refine wpAnyZ_next (rs := [16]) (by kernel_rfl) (by simp) ?_
      refine NextZ.last (o := ⟨none, _, _, _, _, _⟩) rfl (by kernel_rfl) (fun K hK => ?_)
      have e0 := HPY.out.bf.cell (.head _) 0
      have f0 := HPY.out.bf.thaw (.head _) 0
      have HPN := Lib.hid (HPY.out.set (i := 0) (v := .slice aa (k + 1) ac) (hdr' := #[.slice aa (k + 1) ac, .slice none 0 0, .slice none 0 0, .slice none 0 0]) (by simp) rfl)
      go_simp
      refine hK.out _ _ ?_
      clear hK K e0 f0
      (try simp only [Act.put])
      refine wpAnyZ_done (by kernel_rfl) ?_ _
      go_wp2_with fail
      go_roundw
      case rel => exact ⟨k + 1, upd rows 0 0 (.slice aa (k + 1) ac), upd len 0 0 (len 0 0 + 1), upd val 0 0 (fun q => if q = len 0 0 then v else val 0 0 q), by omega, by go_num, by rw [upd_eq, HL.out], (upd_ne _ _ (by omega)).trans HR1.out, (upd_ne _ _ (by omega)).trans HL1.out, by rw [upd_eq]; exact HPN.out, fun g hg => by
        rw [upd_eq, HL.out]
        by_cases e : g = k
        · subst e; rw [if_pos rfl, HPQ.out]; exact ⟨hv1, hv2⟩
        · rw [if_neg e]; exact HF.out g (by omega)⟩
      case measure => simp [intOf]; omega
    · obtain rfl : k = t.ng := by omega
      go_wp2_with (go_at_call 23; refine (HG.out _ HP.out.bf.fr).mono ?_; rintro _ wr ⟨rfl, hb5⟩; have HP5 := Lib.hid (HP.out.below hb5); clear hb5)
      clear c0 c1 c2 c3 HP HO
      have HLf : Hid (len 0 0 = t.ng) := HL.out
      have HGT : Hid (Gt t (trOf 0 0 len val) 0) := ⟨⟨HF.out, fun q h => absurd h (Nat.not_lt_zero _), fun q h => absurd h (Nat.not_lt_zero _)⟩, fun q h => absurd h (Nat.not_lt_zero _), HL.out, fun q h => absurd h (Nat.not_lt_zero _), fun q h => absurd h (Nat.not_lt_zero _)⟩
      go_wp2_with fail
      go_loopw [7] (fun i wr => ∃ (c : Nat) (da : Option Addr) (dc : Nat) (ma : Option Addr) (mc : Nat) (rows : Nat → Nat → Value) (len : Nat → Nat → Nat) (val : Nat → Nat → Nat → Int), c ≤ t.nb ∧ i = .int .i64 c ∧ len 1 0 = c ∧ Gt t (trOf c c len val) c ∧
        PS w wr #[.slice u.ca t.nc u.cc, .slice u.ba t.nb u.bc, .slice u.ra t.nr u.rc, .slice u.na t.nn u.nc] #[rows 0 0, rows 1 0, .slice da c dc, .slice ma c mc] (.slice da c dc) c ((List.range c).map (rows 2)) (.slice ma c mc) c ((List.range c).map (rows 3)) c c rows len val) (fun i _ => t.nb - (intOf i).toNat)
      case atStart =>
        refine ⟨0, none, 0, none, 0, rows, len, val, Nat.zero_le _, rfl, HL1.out, HGT.out, ?_⟩
        have h := HP5.out
        rw [← HR1.out, ← HR.out] at h
        rw [HR1.out] at h ⊢
        exact h
      case round =>
        clear HP5 HLf HGT HL HL1 HR HR1 HF ki hlt hk
        clear rows len val fa fc
        obtain ⟨c, da, dc, ma, mc, rows, len, val, hc, rfl, hlen, hgt, hps⟩ := hrel
        have HL := Lib.hid hlen; have HGT := Lib.hid hgt
        have hof := hps.ir.own 0 0 (.inl ⟨rfl, rfl⟩)
        have ho := hps.ir.own 1 0 (.inr (.inl ⟨rfl, rfl⟩))
        rw [hlen] at ho
        rw [show len 0 0 = t.ng from hgt.nf] at hof
        obtain ⟨fa0, fc, hrf⟩ := own_slice' hof
        obtain ⟨ba, bc, hr⟩ := own_slice' ho
        have HR0 := Lib.hid hrf; have HR := Lib.hid hr
        rw [hr] at ho
        rw [hrf, hr] at hps
        have HP5 := Lib.hid hps; have HO5 := Lib.hid ho
        clear hps hlen hgt hof ho hrf hr
        have c0 := HP5.out.bf.cell (.tail _ (.tail _ (.head _))) 0
        have c1 := HP5.out.bf.cell (.tail _ (.tail _ (.head _))) 1
        have c2 := HP5.out.bf.cell (.tail _ (.tail _ (.head _))) 2
        have c3 := HP5.out.bf.cell (.tail _ (.tail _ (.head _))) 3
        have ki : (0 : Int) ≤ (c : Int) := by omega
        by_cases hlt : c < t.nb
        · have kj : (c : Int) < (t.nb : Int) := by omega
          obtain ⟨bq, oq, hba, hbq, x0, x1⟩ := HRB.out.at (k := c) hlt
          obtain ⟨p, q, HPQ⟩ : ∃ p q, Hid (t.b c = (p, q)) := ⟨_, _, rfl⟩
          have hpq := HT.out.b c hlt
          rw [HPQ.out] at x0 x1 hpq
          simp only at x0 x1 hpq
          have HCK : Hid (∀ X v0 v2 v3, BF w X [(w.heap.size + 2, #[v0, .slice ba c bc, v2, v3], 75), (w.heap.size + 1, zT, 75), (w.heap.size, #[.slice u.ca t.nc u.cc, .slice u.ba t.nb u.bc, .slice u.ra t.nr u.rc, .slice u.na t.nn u.nc], 25)] → X.cell? ⟨w.heap.size + 2, 1, none⟩ = some (.slice ba c bc) ∧ X.cell? ⟨w.heap.size, 1, none⟩ = some (.slice (some ⟨bq, oq, none⟩) t.nb u.bc) ∧ X.cell? ⟨bq, oq + c * 2, none⟩ = some (.int .i64 p) ∧ X.cell? ⟨bq, oq + c * 2 + 1, none⟩ = some (.int .i64 q)) := fun X v0 v2 v3 hX => ⟨hX.cell (.head _) 1, by rw [← hba]; exact hX.cell (.tail _ (.tail _ (.head _))) 1, kept hX.fr hbq x0, kept hX.fr hbq x1⟩
          obtain ⟨wd, HWV⟩ : ∃ wd, Hid (wordF nw z ((c : Int) + 4) = wd) := ⟨_, rfl⟩
          have hwd := HWB.out ((c : Int) + 4)
          rw [HWV.out] at hwd
          obtain ⟨v, HV⟩ : ∃ v, Hid (pickI p q wd = v) := ⟨_, rfl⟩
          have hv := in_pick (v := wd) hpq.2.1
          rw [HV.out] at hv
          obtain ⟨hwd1, hwd2⟩ := hwd; obtain ⟨hpq1, hpq2, hpq3⟩ := hpq; obtain ⟨hv1, hv2⟩ := hv
          have wi4 : IntKind.i64.wrap ((c : Int) + 4) = (c : Int) + 4 := IntWalk.i64_in _ (by omega)
          clear hba hbq x0 x1
          go_wp2_with fail
          clear c0 c1 c2 c3
          have HAX : Hid (Below wr.heap.size wr wr.drew) := (Below.refl _ _).drew
          go_cut [] (fun wx => ∃ ba' bc', PS w wx #[.slice u.ca t.nc u.cc, .slice u.ba t.nb u.bc, .slice u.ra t.nr u.rc, .slice u.na t.nn u.nc] #[.slice fa0 t.ng fc, .slice ba' (c + 1) bc', .slice da c dc, .slice ma c mc] (.slice da c dc) c ((List.range c).map (rows 2)) (.slice ma c mc) c ((List.range c).map (rows 3)) c c (upd rows 1 0 (.slice ba' (c + 1) bc')) (upd len 1 0 (c + 1)) (upd val 1 0 (fun q => if q = c then v else val 1 0 q)))
          case first =>
            refine wp_region_Z (S := fun X => X.cell? ⟨w.heap.size + 2, 1, none⟩ = some (.slice ba c bc) ∧ X.cell? ⟨w.heap.size, 1, none⟩ = some (.slice (some ⟨bq, oq, none⟩) t.nb u.bc) ∧ X.cell? ⟨bq, oq + c * 2, none⟩ = some (.int .i64 p) ∧ X.cell? ⟨bq, oq + c * 2 + 1, none⟩ = some (.int .i64 q)) (by kernel_rfl) (HCK.out _ _ _ _ (HP5.out.below HAX.out).bf) (fun hS => ?_)
            generalize wr.drew = X at *
            refine tk [0, 1, 2, 3, 4, 5, 6, 7, 8, 9] ?_
            repeat (refine tkZ (oi := ⟨_, _, _, _, _, _⟩) (v := ?_) rfl (by kernel_rfl) (by rfl) (fun _ _ _ h => h) hS ?_ ?_; rotate_left; (· rintro W' ⟨z0, z1, z2, z3⟩; go_simp; try with_reducible rfl); try simp only [Act.put, putA, putZ, putS])
            refine tk0 ?_
            refine wpAnyZ_next (rs := [10]) (by kernel_rfl) (by simp) ?_
            refine NextZ.cons (o := ⟨some 53, _, _, _, _, _⟩) rfl (fun K hK => ?_) NextZ.nil
            go_simp
            refine (HWD.out X ((c : Int) + 4) (HP5.out.below HAX.out).bf.fr (by omega) (by omega)).mono ?_
            rw [HWV.out]
            rintro _ X0 ⟨rfl, rfl⟩
            (try go_wp2_with fail)
            refine hK.out _ _ (HCK.out X _ _ _ (HP5.out.below HAX.out).bf) (fun hS => ?_)
            clear hK K
            try simp only [Act.put, putA, putZ, putS]
            refine wpAnyZ_next (rs := [11]) (by kernel_rfl) (by simp) ?_
            refine NextZ.cons (o := ⟨some 54, _, _, _, _, _⟩) rfl (fun K hK => ?_) NextZ.nil
            go_simp
            refine (picked_any p q wd X hwd1 hwd2 hpq2 (by omega) (by omega)).mono ?_
            rw [HV.out]
            rintro _ X1 ⟨rfl, hb1⟩
            (try go_wp2_with fail)
            have HA1 : Hid (Below wr.heap.size wr X1) := below_step HAX.out hb1
            refine hK.out _ _ (HCK.out X1 _ _ _ (HP5.out.below HA1.out).bf) (fun hS => ?_)
            clear hK K
            try simp only [Act.put, putA, putZ, putS]
            clear hb1
            refine wpAnyZ_next (rs := [12]) (by kernel_rfl) (by simp) ?_
            refine NextZ.cons (o := ⟨some 55, _, _, _, _, _⟩) rfl (fun K hK => ?_) NextZ.nil
            go_simp
            have HB1 : Hid (Below wr.heap.size wr (X1.alloc (.cells #[.int .i64 v] 3))) := below_step HA1.out (below_alloc _ _)
            have HJ : Hid ((X1.alloc (.cells #[.int .i64 v] 3)).heap[X1.heap.size]? = some (.cells #[.int .i64 v] 3 (0, 0))) := heap_alloc_new _ _
            refine hK.out _ _ (HCK.out (X1.alloc (.cells #[.int .i64 v] 3)) _ _ _ (HP5.out.below HB1.out).bf) (fun hS => ?_)
            clear hK K
            try simp only [Act.put, putA, putZ, putS]
            generalize X1.heap.size = J at *
            generalize (X1.alloc (.cells #[.int .i64 v] 3)) = X1 at *
            refine wpAnyZ_next (rs := [13]) (by kernel_rfl) (by simp) ?_
            refine NextZ.cons (o := ⟨some 56, _, _, _, _, _⟩) rfl (fun K hK => ?_) NextZ.nil
            refine step_append_src X1 (by rfl) (.tmp 44) (.tmp 55) 72 (by rfl) w.heap.size 3 i1 (.int .i64 0) 1 8 Try.underlying72 hi1 hy0 hy1 hy2 rfl (by decide) (.slice ba c bc) (c) (iL (val 1 0) (c)) (by rfl) (own_below HO5.out HB1.out) (some ⟨J, 0, none⟩) 1 1 [.int .i64 v] (by rfl) ⟨rfl, fun j u hu => ⟨_, rfl, World.news_of_block HJ.out j u hu⟩⟩ (by simp [Value.oneCell']) (by unfold maxLen; omega) (by omega) (HP5.out.below HB1.out).bf.fr.size ?_
            intro v1 Y hown hgr hlt1
            have HPY := Lib.hid ((HP5.out.below HB1.out).grow (Y := Y) (k := 1) (j := 0) (u := v1) (v := v) (.inr (.inl ⟨rfl, rfl⟩)) (by rw [HR.out]; exact hgr) (by rw [HL.out]; exact hown) (by rw [HR.out]; exact hlt1))
            obtain ⟨aa, ac, rfl⟩ := own_slice' hown
            clear hown hgr hlt1
            refine hK.out _ _ (HCK.out Y _ _ _ HPY.out.bf) (fun hS => ?_)
            clear hK K
            try simp only [Act.put, putA, putZ, putS]
            refine tZ 14 (oi := ⟨_, _, _, _, _, _⟩) (v := ?_) rfl (by kernel_rfl) (by rfl) (fun _ _ _ h => h) hS ?_ ?_
            rotate_left
            · rintro W' ⟨z0, z1, z2, z3⟩; go_simp; try with_reducible rfl
            try simp only [Act.put, putA, putZ, putS]
            refine wpAnyZ_next (rs := [15]) (by kernel_rfl) (by simp) ?_
            refine NextZ.last (o := ⟨none, _, _, _, _, _⟩) rfl (by kernel_rfl) (fun K hK => ?_)
            have e0 := HPY.out.bf.cell (.head _) 1
            have f0 := HPY.out.bf.thaw (.head _) 1
            have HPN := Lib.hid (HPY.out.set (i := 1) (v := .slice aa (c + 1) ac) (hdr' := #[.slice fa0 t.ng fc, .slice aa (c + 1) ac, .slice da c dc, .slice ma c mc]) (by simp) rfl)
            rw [HL.out] at HPN
            go_simp
            refine hK.out _ _ ?_
            clear hK K e0 f0
            (try simp only [Act.put])
            refine wpAnyZ_done (by kernel_rfl) ?_ _
            go_wp2_with fail
            go_meet
            exact ⟨aa, ac, HPN.out⟩
          case rest =>
            rename World => wx
            obtain ⟨ba', bc', hps⟩ := hcut
            clear HP5 HO5 HCK HAX wi4 HWV hwd1 hwd2
            have HP5 := Lib.hid hps
            have HLT : Hid (∀ q, (Value.slice da c dc).ownBlock = some q → q < wx.heap.size) := fun q e => own_lt hps.d e
            clear hps
            have HCK : Hid (∀ X v0 v1, BF w X [(w.heap.size + 2, #[v0, v1, .slice da c dc, .slice ma c mc], 75), (w.heap.size + 1, zT, 75), (w.heap.size, #[.slice u.ca t.nc u.cc, .slice u.ba t.nb u.bc, .slice u.ra t.nr u.rc, .slice u.na t.nn u.nc], 25)] → X.cell? ⟨w.heap.size + 2, 2, none⟩ = some (.slice da c dc) ∧ X.cell? ⟨w.heap.size + 2, 3, none⟩ = some (.slice ma c mc) ∧ X.cell? ⟨w.heap.size, 0, none⟩ = some (.slice u.ca t.nc u.cc) ∧ X.cell? ⟨w.heap.size, 1, none⟩ = some (.slice u.ba t.nb u.bc) ∧ X.cell? ⟨w.heap.size, 2, none⟩ = some (.slice u.ra t.nr u.rc) ∧ X.cell? ⟨w.heap.size, 3, none⟩ = some (.slice u.na t.nn u.nc)) := fun X v0 v1 hX => ⟨hX.cell (.head _) 2, hX.cell (.head _) 3, hX.cell (.tail _ (.tail _ (.head _))) 0, hX.cell (.tail _ (.tail _ (.head _))) 1, hX.cell (.tail _ (.tail _ (.head _))) 2, hX.cell (.tail _ (.tail _ (.head _))) 3⟩
            have HAX : Hid (PS w wx.drew #[.slice u.ca t.nc u.cc, .slice u.ba t.nb u.bc, .slice u.ra t.nr u.rc, .slice u.na t.nn u.nc] #[.slice fa0 t.ng fc, .slice ba' (c + 1) bc', .slice da c dc, .slice ma c mc] (.slice da c dc) c ((List.range c).map (rows 2)) (.slice ma c mc) c ((List.range c).map (rows 3)) c c (upd rows 1 0 (.slice ba' (c + 1) bc')) (upd len 1 0 (c + 1)) (upd val 1 0 (fun q => if q = c then v else val 1 0 q))) := HP5.out.below (Below.refl _ _).drew
            have HLX : Hid (wx.heap.size ≤ wx.drew.heap.size) := Nat.le_refl _
            have wn1 : IntKind.i64.wrap ((t.ng : Int) + 1) = (t.ng : Int) + 1 := IntWalk.i64_in _ (by omega)
            obtain ⟨rows1, HE1⟩ : ∃ r, Hid (upd rows 1 0 (.slice ba' (c + 1) bc') = r) := ⟨_, rfl⟩
            obtain ⟨len1, HE2⟩ : ∃ r, Hid (upd len 1 0 (c + 1) = r) := ⟨_, rfl⟩
            obtain ⟨val1, HE3⟩ : ∃ r, Hid (upd val 1 0 (fun q => if q = c then v else val 1 0 q) = r) := ⟨_, rfl⟩
            rw [HE1.out, HE2.out, HE3.out] at HP5 HAX
            go_wp2_with fail
            go_cut [] (fun wy => ∃ da' dc' ma' mc' dz, PS w wy #[.slice u.ca t.nc u.cc, .slice u.ba t.nb u.bc, .slice u.ra t.nr u.rc, .slice u.na t.nn u.nc] #[.slice fa0 t.ng fc, .slice ba' (c + 1) bc', .slice da' (c + 1) dc', .slice ma' (c + 1) mc'] (.slice da' (c + 1) dc') (c + 1) ((List.range c).map (rows 2) ++ [.slice (some ⟨dz, 0, none⟩) (t.ng + 1) (t.ng + 1)]) (.slice ma' (c + 1) mc') (c + 1) ((List.range c).map (rows 3) ++ [.slice none 0 0]) (c + 1) (c + 1) (upd (upd rows1 2 c (.slice (some ⟨dz, 0, none⟩) (t.ng + 1) (t.ng + 1))) 3 c (.slice none 0 0)) (upd (upd len1 2 c (t.ng + 1)) 3 c 0) (upd val1 2 c (fun _ => 0)))
            case first =>
              refine wp_region_E [13, 14, 15] (S := fun X => X.cell? ⟨w.heap.size + 2, 2, none⟩ = some (.slice da c dc) ∧ X.cell? ⟨w.heap.size + 2, 3, none⟩ = some (.slice ma c mc) ∧ X.cell? ⟨w.heap.size, 0, none⟩ = some (.slice u.ca t.nc u.cc) ∧ X.cell? ⟨w.heap.size, 1, none⟩ = some (.slice u.ba t.nb u.bc) ∧ X.cell? ⟨w.heap.size, 2, none⟩ = some (.slice u.ra t.nr u.rc) ∧ X.cell? ⟨w.heap.size, 3, none⟩ = some (.slice u.na t.nn u.nc)) (by kernel_rfl) (HCK.out _ _ _ HAX.out.bf) (fun hS => ?_)
              clear HP5
              generalize wx.drew = X at *
              refine tk [0, 1, 2, 8, 9] ?_
              repeat (refine tkE (oi := ⟨_, _, _, _, _, _⟩) (v := ?_) rfl (by kernel_rfl) (by rfl) (fun _ _ _ h => h) hS ?_ ?_; rotate_left; (· rintro W' ⟨z0, z1, z2, z3, z4, z5⟩; go_simp; try with_reducible rfl); try simp only [Act.put, putA, putZ, putS])
              refine tk0 ?_
              refine wpAnyE_next (rs := [3, 10]) (by kernel_rfl) (by simp) ?_
              refine NextE.cons (o := ⟨some 61, _, _, _, _, _⟩) rfl (fun K hK => ?_) ?_
              ·
               go_simp
               refine (HG.out _ HAX.out.bf.fr).mono ?_
               rintro _ X0 ⟨rfl, hb0⟩
               (try go_wp2_with fail)
               have HA0 := Lib.hid (HAX.out.below hb0)
               have HX0 : Hid (wx.heap.size ≤ X0.heap.size) := Nat.le_trans HLX.out hb0.size
               refine hK.out _ _ (HCK.out X0 _ _ HA0.out.bf) (fun hS => ?_)
               clear hK K
               try simp only [Act.put, putA, putZ, putS]
               clear hb0
               refine tE 4 (oi := ⟨_, _, _, _, _, _⟩) (v := ?_) rfl (by kernel_rfl) (by rfl) (fun _ _ _ h => h) hS ?_ ?_
               rotate_left
               · rintro W' ⟨z0, z1, z2, z3, z4, z5⟩; go_simp; try with_reducible rfl
               try simp only [Act.put, putA, putZ, putS]
               refine wpAnyE_next (rs := [5, 10]) (by kernel_rfl) (by simp) ?_
               refine NextE.cons (o := ⟨some 63, _, _, _, _, _⟩) rfl (fun K hK => ?_) ?_
               ·
                refine step_make_full X0 (by rfl) (.tmp 62) (.tmp 62) 72 (by rfl) X0.heap.size 3 i1 (.int .i64 0) 1 Try.underlying72 hi1 hy0 hy1 .i64 .i64 ((t.ng : Int) + 1) ((t.ng : Int) + 1) (t.ng + 1) (by rfl) (by rfl) (by omega) (by omega) (by rw [hy2]; omega) (by unfold maxLen; omega) (Nat.le_refl _) ?_
                intro X1 hob1 hg1
                rw [made_iL] at hob1
                have hb1 : Below X0.heap.size X0 X1 := (Fr.grown hg1).low (Nat.le_refl _) (fun k _ e => by cases e)
                have HA1 := Lib.hid (HA0.out.add2 hb1 hob1)
                have HX1 : Hid (wx.heap.size ≤ X1.heap.size) := Nat.le_trans HX0.out hb1.size
                obtain ⟨dz, HDZ⟩ : ∃ r, Hid (X0.heap.size = r) := ⟨_, rfl⟩
                rw [HDZ.out] at HA1 ⊢
                clear hob1 hg1
                refine hK.out _ _ (HCK.out X1 _ _ HA1.out.bf) (fun hS => ?_)
                clear hK K
                try simp only [Act.put, putA, putZ, putS]
                clear hb1
                refine wpAnyE_next (rs := [6, 10]) (by kernel_rfl) (by simp) ?_
                refine NextE.cons (o := ⟨some 64, _, _, _, _, _⟩) rfl (fun K hK => ?_) ?_
                ·
                 go_simp
                 have HA2 := Lib.hid (HA1.out.below (below_alloc X1 (.cells #[.slice (some ⟨dz, 0, none⟩) (t.ng + 1) (t.ng + 1)] 72)))
                 have HJ2 : Hid ((X1.alloc (.cells #[.slice (some ⟨dz, 0, none⟩) (t.ng + 1) (t.ng + 1)] 72)).heap[X1.heap.size]? = some (.cells #[.slice (some ⟨dz, 0, none⟩) (t.ng + 1) (t.ng + 1)] 72 (0, 0))) := heap_alloc_new _ _
                 have HJL2 : Hid (wx.heap.size ≤ X1.heap.size) := HX1.out
                 have HX2 : Hid (wx.heap.size ≤ (X1.alloc (.cells #[.slice (some ⟨dz, 0, none⟩) (t.ng + 1) (t.ng + 1)] 72)).heap.size) := Nat.le_trans HX1.out (below_alloc _ _).size
                 refine hK.out _ _ (HCK.out (X1.alloc (.cells #[.slice (some ⟨dz, 0, none⟩) (t.ng + 1) (t.ng + 1)] 72)) _ _ HA2.out.bf) (fun hS => ?_)
                 clear hK K
                 try simp only [Act.put, putA, putZ, putS]
                 generalize X1.heap.size = J2 at *
                 generalize (X1.alloc (.cells #[.slice (some ⟨dz, 0, none⟩) (t.ng + 1) (t.ng + 1)] 72)) = X2 at *
                 refine wpAnyE_next (rs := [7, 10]) (by kernel_rfl) (by simp) ?_
                 refine NextE.cons (o := ⟨some 65, _, _, _, _, _⟩) rfl (fun K hK => ?_) ?_
                 ·
                  refine step_append_src X2 (by rfl) (.tmp 59) (.tmp 64) 73 (by rfl) w.heap.size 72 i2 (.slice none 0 0) 1 24 Try.underlying73 hi2 hx0 hx1 hx2 rfl (by decide) (.slice da c dc) c ((List.range c).map (rows 2)) (by rfl) HA2.out.d (some ⟨J2, 0, none⟩) 1 1 [.slice (some ⟨dz, 0, none⟩) (t.ng + 1) (t.ng + 1)] (by rfl) ⟨rfl, fun j u hu => ⟨_, rfl, World.news_of_block HJ2.out j u hu⟩⟩ (by simp [Value.oneCell']) (by unfold maxLen; omega) (by omega) HA2.out.bf.fr.size ?_
                  intro v3 X3 hown3 hgr3 hlt3
                  have HA3 := Lib.hid (HA2.out.growD hgr3 hown3 hlt3)
                  obtain ⟨dD, dC, rfl⟩ := own_slice' hown3
                  have HX3 : Hid (wx.heap.size ≤ X3.heap.size) := Nat.le_trans HX2.out hgr3.size
                  clear hown3 hgr3 hlt3
                  refine hK.out _ _ (HCK.out X3 _ _ HA3.out.bf) (fun hS => ?_)
                  clear hK K
                  try simp only [Act.put, putA, putZ, putS]
                  refine tE 12 (oi := ⟨_, _, _, _, _, _⟩) (v := ?_) rfl (by kernel_rfl) (by rfl) (fun _ _ _ h => h) hS ?_ ?_
                  rotate_left
                  · rintro W' ⟨z0, z1, z2, z3, z4, z5⟩; go_simp; try with_reducible rfl
                  try simp only [Act.put, putA, putZ, putS]
                  refine wpAnyE_next (rs := [10]) (by kernel_rfl) (by simp) ?_
                  refine NextE.cons (o := ⟨some 68, _, _, _, _, _⟩) rfl (fun K hK => ?_) NextE.nil
                  go_simp
                  have HA4 := Lib.hid (HA3.out.below (below_alloc X3 (.cells #[.slice none 0 0] 72)))
                  have HJ4 : Hid ((X3.alloc (.cells #[.slice none 0 0] 72)).heap[X3.heap.size]? = some (.cells #[.slice none 0 0] 72 (0, 0))) := heap_alloc_new _ _
                  have HJL4 : Hid (wx.heap.size ≤ X3.heap.size) := HX3.out
                  have HX4 : Hid (wx.heap.size ≤ (X3.alloc (.cells #[.slice none 0 0] 72)).heap.size) := Nat.le_trans HX3.out (below_alloc _ _).size
                  refine hK.out _ _ (HCK.out (X3.alloc (.cells #[.slice none 0 0] 72)) _ _ HA4.out.bf) (fun hS => ?_)
                  clear hK K
                  try simp only [Act.put, putA, putZ, putS]
                  generalize X3.heap.size = J4 at *
                  generalize (X3.alloc (.cells #[.slice none 0 0] 72)) = X4 at *
                  refine wpAnyE_next (rs := [11]) (by kernel_rfl) (by simp) ?_
                  refine NextE.cons (o := ⟨some 69, _, _, _, _, _⟩) rfl (fun K hK => ?_) NextE.nil
                  refine step_append_src X4 (by rfl) (.tmp 67) (.tmp 68) 73 (by rfl) w.heap.size 72 i2 (.slice none 0 0) 1 24 Try.underlying73 hi2 hx0 hx1 hx2 rfl (by decide) (.slice ma c mc) c ((List.range c).map (rows 3)) (by rfl) HA4.out.m (some ⟨J4, 0, none⟩) 1 1 [.slice none 0 0] (by rfl) ⟨rfl, fun j u hu => ⟨_, rfl, World.news_of_block HJ4.out j u hu⟩⟩ (by simp [Value.oneCell']) (by unfold maxLen; omega) (by omega) HA4.out.bf.fr.size ?_
                  intro v5 X5 hown5 hgr5 hlt5
                  have HA5 := Lib.hid (HA4.out.growM hgr5 hown5 hlt5)
                  obtain ⟨mD, mC, rfl⟩ := own_slice' hown5
                  have HX5 : Hid (wx.heap.size ≤ X5.heap.size) := Nat.le_trans HX4.out hgr5.size
                  clear hown5 hgr5 hlt5
                  refine hK.out _ _ (HCK.out X5 _ _ HA5.out.bf) (fun hS => ?_)
                  clear hK K
                  try simp only [Act.put, putA, putZ, putS]
                  refine wpAnyE_next (rs := [13]) (by kernel_rfl) (by simp) ?_
                  refine NextE.skip (o := ⟨none, _, _, _, _, _⟩) rfl (by kernel_rfl) (fun K hK => ?_) NextE.nil
                  have e0 := HA5.out.bf.cell (.head _) 2
                  have f0 := HA5.out.bf.thaw (.head _) 2
                  have HA6 := Lib.hid (HA5.out.set (i := 2) (v := .slice dD (c + 1) dC) (hdr' := #[.slice fa0 t.ng fc, .slice ba' (c + 1) bc', .slice dD (c + 1) dC, .slice ma c mc]) (by simp) rfl)
                  go_simp
                  refine hK.out _ _ ?_
                  clear hK K
                  (try simp only [Act.put])
                  clear e0 f0
                  refine wpAnyE_next (rs := [14]) (by kernel_rfl) (by simp) ?_
                  refine NextE.skip (o := ⟨some 71, _, _, _, _, _⟩) rfl (by kernel_rfl) (fun K hK => ?_) NextE.nil
                  go_simp
                  refine hK.out _ _ ?_
                  clear hK K
                  try simp only [Act.put, putA, putZ, putS]
                  refine wpAnyE_next (rs := [15]) (by kernel_rfl) (by simp) ?_
                  refine NextE.skip (o := ⟨none, _, _, _, _, _⟩) rfl (by kernel_rfl) (fun K hK => ?_) NextE.nil
                  have e0 := HA6.out.bf.cell (.head _) 3
                  have f0 := HA6.out.bf.thaw (.head _) 3
                  have HA8 := Lib.hid (HA6.out.set (i := 3) (v := .slice mD (c + 1) mC) (hdr' := #[.slice fa0 t.ng fc, .slice ba' (c + 1) bc', .slice dD (c + 1) dC, .slice mD (c + 1) mC]) (by simp) rfl)
                  go_simp
                  refine hK.out _ _ ?_
                  clear hK K
                  (try simp only [Act.put])
                  clear e0 f0
                  refine wpAnyE_done (by kernel_rfl) ?_ _
                  go_wp2_with fail
                  go_meet
                  exact ⟨dD, dC, mD, mC, dz, HA8.out.nil3⟩
                 refine NextE.cons (o := ⟨some 68, _, _, _, _, _⟩) rfl (fun K hK => ?_) NextE.nil
                 go_simp
                 have HA9 := Lib.hid (HA2.out.below (below_alloc X2 (.cells #[.slice none 0 0] 72)))
                 have HJ9 : Hid ((X2.alloc (.cells #[.slice none 0 0] 72)).heap[X2.heap.size]? = some (.cells #[.slice none 0 0] 72 (0, 0))) := heap_alloc_new _ _
                 have HJL9 : Hid (wx.heap.size ≤ X2.heap.size) := HX2.out
                 have HX9 : Hid (wx.heap.size ≤ (X2.alloc (.cells #[.slice none 0 0] 72)).heap.size) := Nat.le_trans HX2.out (below_alloc _ _).size
                 have Hsix9 : Hid ((X2.alloc (.cells #[.slice none 0 0] 72)).heap[J2]? = some (.cells #[.slice (some ⟨dz, 0, none⟩) (t.ng + 1) (t.ng + 1)] 72 (0, 0))) := ((below_alloc X2 (.cells #[.slice none 0 0] 72)).block _ (Array.getElem?_eq_some_iff.1 HJ2.out).1).trans HJ2.out
                 refine hK.out _ _ (HCK.out (X2.alloc (.cells #[.slice none 0 0] 72)) _ _ HA9.out.bf) (fun hS => ?_)
                 clear hK K
                 try simp only [Act.put, putA, putZ, putS]
                 generalize X2.heap.size = J9 at *
                 generalize (X2.alloc (.cells #[.slice none 0 0] 72)) = X9 at *
                 refine wpAnyE_next (rs := [7]) (by kernel_rfl) (by simp) ?_
                 refine NextE.cons (o := ⟨some 65, _, _, _, _, _⟩) rfl (fun K hK => ?_) NextE.nil
                 refine step_append_src X9 (by rfl) (.tmp 59) (.tmp 64) 73 (by rfl) w.heap.size 72 i2 (.slice none 0 0) 1 24 Try.underlying73 hi2 hx0 hx1 hx2 rfl (by decide) (.slice da c dc) c ((List.range c).map (rows 2)) (by rfl) HA9.out.d (some ⟨J2, 0, none⟩) 1 1 [.slice (some ⟨dz, 0, none⟩) (t.ng + 1) (t.ng + 1)] (by rfl) ⟨rfl, fun j u hu => ⟨_, rfl, World.news_of_block Hsix9.out j u hu⟩⟩ (by simp [Value.oneCell']) (by unfold maxLen; omega) (by omega) HA9.out.bf.fr.size ?_
                 intro v10 X10 hown10 hgr10 hlt10
                 have HA10 := Lib.hid (HA9.out.growD hgr10 hown10 hlt10)
                 obtain ⟨dD, dC, rfl⟩ := own_slice' hown10
                 have HX10 : Hid (wx.heap.size ≤ X10.heap.size) := Nat.le_trans HX9.out hgr10.size
                 have Hten10 : Hid (X10.heap[J9]? = some (.cells #[.slice none 0 0] 72 (0, 0))) := (hgr10.block _ (Array.getElem?_eq_some_iff.1 HJ9.out).1 (fun e => by have h1 := HLT.out _ e.symm; have h2 := HJL9.out; omega)).trans HJ9.out
                 clear hown10 hgr10 hlt10
                 refine hK.out _ _ (HCK.out X10 _ _ HA10.out.bf) (fun hS => ?_)
                 clear hK K
                 try simp only [Act.put, putA, putZ, putS]
                 refine tE 12 (oi := ⟨_, _, _, _, _, _⟩) (v := ?_) rfl (by kernel_rfl) (by rfl) (fun _ _ _ h => h) hS ?_ ?_
                 rotate_left
                 · rintro W' ⟨z0, z1, z2, z3, z4, z5⟩; go_simp; try with_reducible rfl
                 try simp only [Act.put, putA, putZ, putS]
                 refine wpAnyE_next (rs := [11]) (by kernel_rfl) (by simp) ?_
                 refine NextE.cons (o := ⟨some 69, _, _, _, _, _⟩) rfl (fun K hK => ?_) NextE.nil
                 refine step_append_src X10 (by rfl) (.tmp 67) (.tmp 68) 73 (by rfl) w.heap.size 72 i2 (.slice none 0 0) 1 24 Try.underlying73 hi2 hx0 hx1 hx2 rfl (by decide) (.slice ma c mc) c ((List.range c).map (rows 3)) (by rfl) HA10.out.m (some ⟨J9, 0, none⟩) 1 1 [.slice none 0 0] (by rfl) ⟨rfl, fun j u hu => ⟨_, rfl, World.news_of_block Hten10.out j u hu⟩⟩ (by simp [Value.oneCell']) (by unfold maxLen; omega) (by omega) HA10.out.bf.fr.size ?_
                 intro v11 X11 hown11 hgr11 hlt11
                 have HA11 := Lib.hid (HA10.out.growM hgr11 hown11 hlt11)
                 obtain ⟨mD, mC, rfl⟩ := own_slice' hown11
                 have HX11 : Hid (wx.heap.size ≤ X11.heap.size) := Nat.le_trans HX10.out hgr11.size
                 clear hown11 hgr11 hlt11
                 refine hK.out _ _ (HCK.out X11 _ _ HA11.out.bf) (fun hS => ?_)
                 clear hK K
                 try simp only [Act.put, putA, putZ, putS]
                 refine wpAnyE_next (rs := [13]) (by kernel_rfl) (by simp) ?_
                 refine NextE.skip (o := ⟨none, _, _, _, _, _⟩) rfl (by kernel_rfl) (fun K hK => ?_) NextE.nil
                 have e0 := HA11.out.bf.cell (.head _) 2
                 have f0 := HA11.out.bf.thaw (.head _) 2
                 have HA12 := Lib.hid (HA11.out.set (i := 2) (v := .slice dD (c + 1) dC) (hdr' := #[.slice fa0 t.ng fc, .slice ba' (c + 1) bc', .slice dD (c + 1) dC, .slice ma c mc]) (by simp) rfl)
                 go_simp
                 refine hK.out _ _ ?_
                 clear hK K
                 (try simp only [Act.put])
                 clear e0 f0
                 refine wpAnyE_next (rs := [14]) (by kernel_rfl) (by simp) ?_
                 refine NextE.skip (o := ⟨some 71, _, _, _, _, _⟩) rfl (by kernel_rfl) (fun K hK => ?_) NextE.nil
                 go_simp
                 refine hK.out _ _ ?_
                 clear hK K
                 try simp only [Act.put, putA, putZ, putS]
                 refine wpAnyE_next (rs := [15]) (by kernel_rfl) (by simp) ?_
                 refine NextE.skip (o := ⟨none, _, _, _, _, _⟩) rfl (by kernel_rfl) (fun K hK => ?_) NextE.nil
                 have e0 := HA12.out.bf.cell (.head _) 3
                 have f0 := HA12.out.bf.thaw (.head _) 3
                 have HA14 := Lib.hid (HA12.out.set (i := 3) (v := .slice mD (c + 1) mC) (hdr' := #[.slice fa0 t.ng fc, .slice ba' (c + 1) bc', .slice dD (c + 1) dC, .slice mD (c + 1) mC]) (by simp) rfl)
                 go_simp
                 refine hK.out _ _ ?_
                 clear hK K
                 (try simp only [Act.put])
                 clear e0 f0
                 refine wpAnyE_done (by kernel_rfl) ?_ _
                 go_wp2_with fail
                 go_meet
                 exact ⟨dD, dC, mD, mC, dz, HA14.out.nil3⟩
                refine NextE.cons (o := ⟨some 68, _, _, _, _, _⟩) rfl (fun K hK => ?_) NextE.nil
                go_simp
                have HA15 := Lib.hid (HA1.out.below (below_alloc X1 (.cells #[.slice none 0 0] 72)))
                have HJ15 : Hid ((X1.alloc (.cells #[.slice none 0 0] 72)).heap[X1.heap.size]? = some (.cells #[.slice none 0 0] 72 (0, 0))) := heap_alloc_new _ _
                have HJL15 : Hid (wx.heap.size ≤ X1.heap.size) := HX1.out
                have HX15 : Hid (wx.heap.size ≤ (X1.alloc (.cells #[.slice none 0 0] 72)).heap.size) := Nat.le_trans HX1.out (below_alloc _ _).size
                refine hK.out _ _ (HCK.out (X1.alloc (.cells #[.slice none 0 0] 72)) _ _ HA15.out.bf) (fun hS => ?_)
                clear hK K
                try simp only [Act.put, putA, putZ, putS]
                generalize X1.heap.size = J15 at *
                generalize (X1.alloc (.cells #[.slice none 0 0] 72)) = X15 at *
                refine wpAnyE_next (rs := [6]) (by kernel_rfl) (by simp) ?_
                refine NextE.cons (o := ⟨some 64, _, _, _, _, _⟩) rfl (fun K hK => ?_) NextE.nil
                go_simp
                have HA16 := Lib.hid (HA15.out.below (below_alloc X15 (.cells #[.slice (some ⟨dz, 0, none⟩) (t.ng + 1) (t.ng + 1)] 72)))
                have HJ16 : Hid ((X15.alloc (.cells #[.slice (some ⟨dz, 0, none⟩) (t.ng + 1) (t.ng + 1)] 72)).heap[X15.heap.size]? = some (.cells #[.slice (some ⟨dz, 0, none⟩) (t.ng + 1) (t.ng + 1)] 72 (0, 0))) := heap_alloc_new _ _
                have HJL16 : Hid (wx.heap.size ≤ X15.heap.size) := HX15.out
                have HX16 : Hid (wx.heap.size ≤ (X15.alloc (.cells #[.slice (some ⟨dz, 0, none⟩) (t.ng + 1) (t.ng + 1)] 72)).heap.size) := Nat.le_trans HX15.out (below_alloc _ _).size
                have Hten16 : Hid ((X15.alloc (.cells #[.slice (some ⟨dz, 0, none⟩) (t.ng + 1) (t.ng + 1)] 72)).heap[J15]? = some (.cells #[.slice none 0 0] 72 (0, 0))) := ((below_alloc X15 (.cells #[.slice (some ⟨dz, 0, none⟩) (t.ng + 1) (t.ng + 1)] 72)).block _ (Array.getElem?_eq_some_iff.1 HJ15.out).1).trans HJ15.out
                refine hK.out _ _ (HCK.out (X15.alloc (.cells #[.slice (some ⟨dz, 0, none⟩) (t.ng + 1) (t.ng + 1)] 72)) _ _ HA16.out.bf) (fun hS => ?_)
                clear hK K
                try simp only [Act.put, putA, putZ, putS]
                generalize X15.heap.size = J16 at *
                generalize (X15.alloc (.cells #[.slice (some ⟨dz, 0, none⟩) (t.ng + 1) (t.ng + 1)] 72)) = X16 at *
                refine wpAnyE_next (rs := [7]) (by kernel_rfl) (by simp) ?_
                refine NextE.cons (o := ⟨some 65, _, _, _, _, _⟩) rfl (fun K hK => ?_) NextE.nil
                refine step_append_src X16 (by rfl) (.tmp 59) (.tmp 64) 73 (by rfl) w.heap.size 72 i2 (.slice none 0 0) 1 24 Try.underlying73 hi2 hx0 hx1 hx2 rfl (by decide) (.slice da c dc) c ((List.range c).map (rows 2)) (by rfl) HA16.out.d (some ⟨J16, 0, none⟩) 1 1 [.slice (some ⟨dz, 0, none⟩) (t.ng + 1) (t.ng + 1)] (by rfl) ⟨rfl, fun j u hu => ⟨_, rfl, World.news_of_block HJ16.out j u hu⟩⟩ (by simp [Value.oneCell']) (by unfold maxLen; omega) (by omega) HA16.out.bf.fr.size ?_
                intro v17 X17 hown17 hgr17 hlt17
                have HA17 := Lib.hid (HA16.out.growD hgr17 hown17 hlt17)
                obtain ⟨dD, dC, rfl⟩ := own_slice' hown17
                have HX17 : Hid (wx.heap.size ≤ X17.heap.size) := Nat.le_trans HX16.out hgr17.size
                have Hten17 : Hid (X17.heap[J15]? = some (.cells #[.slice none 0 0] 72 (0, 0))) := (hgr17.block _ (Array.getElem?_eq_some_iff.1 Hten16.out).1 (fun e => by have h1 := HLT.out _ e.symm; have h2 := HJL15.out; omega)).trans Hten16.out
                clear hown17 hgr17 hlt17
                refine hK.out _ _ (HCK.out X17 _ _ HA17.out.bf) (fun hS => ?_)
                clear hK K
                try simp only [Act.put, putA, putZ, putS]
                refine tE 12 (oi := ⟨_, _, _, _, _, _⟩) (v := ?_) rfl (by kernel_rfl) (by rfl) (fun _ _ _ h => h) hS ?_ ?_
                rotate_left
                · rintro W' ⟨z0, z1, z2, z3, z4, z5⟩; go_simp; try with_reducible rfl
                try simp only [Act.put, putA, putZ, putS]
                refine wpAnyE_next (rs := [11]) (by kernel_rfl) (by simp) ?_
                refine NextE.cons (o := ⟨some 69, _, _, _, _, _⟩) rfl (fun K hK => ?_) NextE.nil
                refine step_append_src X17 (by rfl) (.tmp 67) (.tmp 68) 73 (by rfl) w.heap.size 72 i2 (.slice none 0 0) 1 24 Try.underlying73 hi2 hx0 hx1 hx2 rfl (by decide) (.slice ma c mc) c ((List.range c).map (rows 3)) (by rfl) HA17.out.m (some ⟨J15, 0, none⟩) 1 1 [.slice none 0 0] (by rfl) ⟨rfl, fun j u hu => ⟨_, rfl, World.news_of_block Hten17.out j u hu⟩⟩ (by simp [Value.oneCell']) (by unfold maxLen; omega) (by omega) HA17.out.bf.fr.size ?_
                intro v18 X18 hown18 hgr18 hlt18
                have HA18 := Lib.hid (HA17.out.growM hgr18 hown18 hlt18)
                obtain ⟨mD, mC, rfl⟩ := own_slice' hown18
                have HX18 : Hid (wx.heap.size ≤ X18.heap.size) := Nat.le_trans HX17.out hgr18.size
                clear hown18 hgr18 hlt18
                refine hK.out _ _ (HCK.out X18 _ _ HA18.out.bf) (fun hS => ?_)
                clear hK K
                try simp only [Act.put, putA, putZ, putS]
                refine wpAnyE_next (rs := [13]) (by kernel_rfl) (by simp) ?_
                refine NextE.skip (o := ⟨none, _, _, _, _, _⟩) rfl (by kernel_rfl) (fun K hK => ?_) NextE.nil
                have e0 := HA18.out.bf.cell (.head _) 2
                have f0 := HA18.out.bf.thaw (.head _) 2
                have HA19 := Lib.hid (HA18.out.set (i := 2) (v := .slice dD (c + 1) dC) (hdr' := #[.slice fa0 t.ng fc, .slice ba' (c + 1) bc', .slice dD (c + 1) dC, .slice ma c mc]) (by simp) rfl)
                go_simp
                refine hK.out _ _ ?_
                clear hK K
                (try simp only [Act.put])
                clear e0 f0
                refine wpAnyE_next (rs := [14]) (by kernel_rfl) (by simp) ?_
                refine NextE.skip (o := ⟨some 71, _, _, _, _, _⟩) rfl (by kernel_rfl) (fun K hK => ?_) NextE.nil
                go_simp
                refine hK.out _ _ ?_
                clear hK K
                try simp only [Act.put, putA, putZ, putS]
                refine wpAnyE_next (rs := [15]) (by kernel_rfl) (by simp) ?_
                refine NextE.skip (o := ⟨none, _, _, _, _, _⟩) rfl (by kernel_rfl) (fun K hK => ?_) NextE.nil
                have e0 := HA19.out.bf.cell (.head _) 3
                have f0 := HA19.out.bf.thaw (.head _) 3
                have HA21 := Lib.hid (HA19.out.set (i := 3) (v := .slice mD (c + 1) mC) (hdr' := #[.slice fa0 t.ng fc, .slice ba' (c + 1) bc', .slice dD (c + 1) dC, .slice mD (c + 1) mC]) (by simp) rfl)
                go_simp
                refine hK.out _ _ ?_
                clear hK K
                (try simp only [Act.put])
                clear e0 f0
                refine wpAnyE_done (by kernel_rfl) ?_ _
                go_wp2_with fail
                go_meet
                exact ⟨dD, dC, mD, mC, dz, HA21.out.nil3⟩
               refine NextE.cons (o := ⟨some 68, _, _, _, _, _⟩) rfl (fun K hK => ?_) NextE.nil
               go_simp
               have HA22 := Lib.hid (HA0.out.below (below_alloc X0 (.cells #[.slice none 0 0] 72)))
               have HJ22 : Hid ((X0.alloc (.cells #[.slice none 0 0] 72)).heap[X0.heap.size]? = some (.cells #[.slice none 0 0] 72 (0, 0))) := heap_alloc_new _ _
               have HJL22 : Hid (wx.heap.size ≤ X0.heap.size) := HX0.out
               have HX22 : Hid (wx.heap.size ≤ (X0.alloc (.cells #[.slice none 0 0] 72)).heap.size) := Nat.le_trans HX0.out (below_alloc _ _).size
               refine hK.out _ _ (HCK.out (X0.alloc (.cells #[.slice none 0 0] 72)) _ _ HA22.out.bf) (fun hS => ?_)
               clear hK K
               try simp only [Act.put, putA, putZ, putS]
               generalize X0.heap.size = J22 at *
               generalize (X0.alloc (.cells #[.slice none 0 0] 72)) = X22 at *
               refine wpAnyE_next (rs := [5]) (by kernel_rfl) (by simp) ?_
               refine NextE.cons (o := ⟨some 63, _, _, _, _, _⟩) rfl (fun K hK => ?_) NextE.nil
               refine step_make_full X22 (by rfl) (.tmp 62) (.tmp 62) 72 (by rfl) X22.heap.size 3 i1 (.int .i64 0) 1 Try.underlying72 hi1 hy0 hy1 .i64 .i64 ((t.ng : Int) + 1) ((t.ng : Int) + 1) (t.ng + 1) (by rfl) (by rfl) (by omega) (by omega) (by rw [hy2]; omega) (by unfold maxLen; omega) (Nat.le_refl _) ?_
               intro X23 hob23 hg23
               rw [made_iL] at hob23
               have hb23 : Below X22.heap.size X22 X23 := (Fr.grown hg23).low (Nat.le_refl _) (fun k _ e => by cases e)
               have HA23 := Lib.hid (HA22.out.add2 hb23 hob23)
               have HX23 : Hid (wx.heap.size ≤ X23.heap.size) := Nat.le_trans HX22.out hb23.size
               have Hten23 : Hid (X23.heap[J22]? = some (.cells #[.slice none 0 0] 72 (0, 0))) := (hb23.block _ (Array.getElem?_eq_some_iff.1 HJ22.out).1).trans HJ22.out
               obtain ⟨dz, HDZ⟩ : ∃ r, Hid (X22.heap.size = r) := ⟨_, rfl⟩
               rw [HDZ.out] at HA23 ⊢
               clear hob23 hg23
               refine hK.out _ _ (HCK.out X23 _ _ HA23.out.bf) (fun hS => ?_)
               clear hK K
               try simp only [Act.put, putA, putZ, putS]
               clear hb23
               refine wpAnyE_next (rs := [6]) (by kernel_rfl) (by simp) ?_
               refine NextE.cons (o := ⟨some 64, _, _, _, _, _⟩) rfl (fun K hK => ?_) NextE.nil
               go_simp
               have HA24 := Lib.hid (HA23.out.below (below_alloc X23 (.cells #[.slice (some ⟨dz, 0, none⟩) (t.ng + 1) (t.ng + 1)] 72)))
               have HJ24 : Hid ((X23.alloc (.cells #[.slice (some ⟨dz, 0, none⟩) (t.ng + 1) (t.ng + 1)] 72)).heap[X23.heap.size]? = some (.cells #[.slice (some ⟨dz, 0, none⟩) (t.ng + 1) (t.ng + 1)] 72 (0, 0))) := heap_alloc_new _ _
               have HJL24 : Hid (wx.heap.size ≤ X23.heap.size) := HX23.out
               have HX24 : Hid (wx.heap.size ≤ (X23.alloc (.cells #[.slice (some ⟨dz, 0, none⟩) (t.ng + 1) (t.ng + 1)] 72)).heap.size) := Nat.le_trans HX23.out (below_alloc _ _).size
               have Hten24 : Hid ((X23.alloc (.cells #[.slice (some ⟨dz, 0, none⟩) (t.ng + 1) (t.ng + 1)] 72)).heap[J22]? = some (.cells #[.slice none 0 0] 72 (0, 0))) := ((below_alloc X23 (.cells #[.slice (some ⟨dz, 0, none⟩) (t.ng + 1) (t.ng + 1)] 72)).block _ (Array.getElem?_eq_some_iff.1 Hten23.out).1).trans Hten23.out
               refine hK.out _ _ (HCK.out (X23.alloc (.cells #[.slice (some ⟨dz, 0, none⟩) (t.ng + 1) (t.ng + 1)] 72)) _ _ HA24.out.bf) (fun hS => ?_)
               clear hK K
               try simp only [Act.put, putA, putZ, putS]
               generalize X23.heap.size = J24 at *
               generalize (X23.alloc (.cells #[.slice (some ⟨dz, 0, none⟩) (t.ng + 1) (t.ng + 1)] 72)) = X24 at *
               refine wpAnyE_next (rs := [7]) (by kernel_rfl) (by simp) ?_
               refine NextE.cons (o := ⟨some 65, _, _, _, _, _⟩) rfl (fun K hK => ?_) NextE.nil
               refine step_append_src X24 (by rfl) (.tmp 59) (.tmp 64) 73 (by rfl) w.heap.size 72 i2 (.slice none 0 0) 1 24 Try.underlying73 hi2 hx0 hx1 hx2 rfl (by decide) (.slice da c dc) c ((List.range c).map (rows 2)) (by rfl) HA24.out.d (some ⟨J24, 0, none⟩) 1 1 [.slice (some ⟨dz, 0, none⟩) (t.ng + 1) (t.ng + 1)] (by rfl) ⟨rfl, fun j u hu => ⟨_, rfl, World.news_of_block HJ24.out j u hu⟩⟩ (by simp [Value.oneCell']) (by unfold maxLen; omega) (by omega) HA24.out.bf.fr.size ?_
               intro v25 X25 hown25 hgr25 hlt25
               have HA25 := Lib.hid (HA24.out.growD hgr25 hown25 hlt25)
               obtain ⟨dD, dC, rfl⟩ := own_slice' hown25
               have HX25 : Hid (wx.heap.size ≤ X25.heap.size) := Nat.le_trans HX24.out hgr25.size
               have Hten25 : Hid (X25.heap[J22]? = some (.cells #[.slice none 0 0] 72 (0, 0))) := (hgr25.block _ (Array.getElem?_eq_some_iff.1 Hten24.out).1 (fun e => by have h1 := HLT.out _ e.symm; have h2 := HJL22.out; omega)).trans Hten24.out
               clear hown25 hgr25 hlt25
               refine hK.out _ _ (HCK.out X25 _ _ HA25.out.bf) (fun hS => ?_)
               clear hK K
               try simp only [Act.put, putA, putZ, putS]
               refine tE 12 (oi := ⟨_, _, _, _, _, _⟩) (v := ?_) rfl (by kernel_rfl) (by rfl) (fun _ _ _ h => h) hS ?_ ?_
               rotate_left
               · rintro W' ⟨z0, z1, z2, z3, z4, z5⟩; go_simp; try with_reducible rfl
               try simp only [Act.put, putA, putZ, putS]
               refine wpAnyE_next (rs := [11]) (by kernel_rfl) (by simp) ?_
               refine NextE.cons (o := ⟨some 69, _, _, _, _, _⟩) rfl (fun K hK => ?_) NextE.nil
               refine step_append_src X25 (by rfl) (.tmp 67) (.tmp 68) 73 (by rfl) w.heap.size 72 i2 (.slice none 0 0) 1 24 Try.underlying73 hi2 hx0 hx1 hx2 rfl (by decide) (.slice ma c mc) c ((List.range c).map (rows 3)) (by rfl) HA25.out.m (some ⟨J22, 0, none⟩) 1 1 [.slice none 0 0] (by rfl) ⟨rfl, fun j u hu => ⟨_, rfl, World.news_of_block Hten25.out j u hu⟩⟩ (by simp [Value.oneCell']) (by unfold maxLen; omega) (by omega) HA25.out.bf.fr.size ?_
               intro v26 X26 hown26 hgr26 hlt26
               have HA26 := Lib.hid (HA25.out.growM hgr26 hown26 hlt26)
               obtain ⟨mD, mC, rfl⟩ := own_slice' hown26
               have HX26 : Hid (wx.heap.size ≤ X26.heap.size) := Nat.le_trans HX25.out hgr26.size
               clear hown26 hgr26 hlt26
               refine hK.out _ _ (HCK.out X26 _ _ HA26.out.bf) (fun hS => ?_)
               clear hK K
               try simp only [Act.put, putA, putZ, putS]
               refine wpAnyE_next (rs := [13]) (by kernel_rfl) (by simp) ?_
               refine NextE.skip (o := ⟨none, _, _, _, _, _⟩) rfl (by kernel_rfl) (fun K hK => ?_) NextE.nil
               have e0 := HA26.out.bf.cell (.head _) 2
               have f0 := HA26.out.bf.thaw (.head _) 2
               have HA27 := Lib.hid (HA26.out.set (i := 2) (v := .slice dD (c + 1) dC) (hdr' := #[.slice fa0 t.ng fc, .slice ba' (c + 1) bc', .slice dD (c + 1) dC, .slice ma c mc]) (by simp) rfl)
               go_simp
               refine hK.out _ _ ?_
               clear hK K
               (try simp only [Act.put])
               clear e0 f0
               refine wpAnyE_next (rs := [14]) (by kernel_rfl) (by simp) ?_
               refine NextE.skip (o := ⟨some 71, _, _, _, _, _⟩) rfl (by kernel_rfl) (fun K hK => ?_) NextE.nil
               go_simp
               refine hK.out _ _ ?_
               clear hK K
               try simp only [Act.put, putA, putZ, putS]
               refine wpAnyE_next (rs := [15]) (by kernel_rfl) (by simp) ?_
               refine NextE.skip (o := ⟨none, _, _, _, _, _⟩) rfl (by kernel_rfl) (fun K hK => ?_) NextE.nil
               have e0 := HA27.out.bf.cell (.head _) 3
               have f0 := HA27.out.bf.thaw (.head _) 3
               have HA29 := Lib.hid (HA27.out.set (i := 3) (v := .slice mD (c + 1) mC) (hdr' := #[.slice fa0 t.ng fc, .slice ba' (c + 1) bc', .slice dD (c + 1) dC, .slice mD (c + 1) mC]) (by simp) rfl)
               go_simp
               refine hK.out _ _ ?_
               clear hK K
               (try simp only [Act.put])
               clear e0 f0
               refine wpAnyE_done (by kernel_rfl) ?_ _
               go_wp2_with fail
               go_meet
               exact ⟨dD, dC, mD, mC, dz, HA29.out.nil3⟩
              refine NextE.cons (o := ⟨some 68, _, _, _, _, _⟩) rfl (fun K hK => ?_) NextE.nil
              go_simp
              have HA30 := Lib.hid (HAX.out.below (below_alloc X (.cells #[.slice none 0 0] 72)))
              have HJ30 : Hid ((X.alloc (.cells #[.slice none 0 0] 72)).heap[X.heap.size]? = some (.cells #[.slice none 0 0] 72 (0, 0))) := heap_alloc_new _ _
              have HJL30 : Hid (wx.heap.size ≤ X.heap.size) := HLX.out
              have HX30 : Hid (wx.heap.size ≤ (X.alloc (.cells #[.slice none 0 0] 72)).heap.size) := Nat.le_trans HLX.out (below_alloc _ _).size
              refine hK.out _ _ (HCK.out (X.alloc (.cells #[.slice none 0 0] 72)) _ _ HA30.out.bf) (fun hS => ?_)
              clear hK K
              try simp only [Act.put, putA, putZ, putS]
              generalize X.heap.size = J30 at *
              generalize (X.alloc (.cells #[.slice none 0 0] 72)) = X30 at *
              refine wpAnyE_next (rs := [3]) (by kernel_rfl) (by simp) ?_
              refine NextE.cons (o := ⟨some 61, _, _, _, _, _⟩) rfl (fun K hK => ?_) NextE.nil
              go_simp
              refine (HG.out _ HA30.out.bf.fr).mono ?_
              rintro _ X31 ⟨rfl, hb31⟩
              (try go_wp2_with fail)
              have HA31 := Lib.hid (HA30.out.below hb31)
              have HX31 : Hid (wx.heap.size ≤ X31.heap.size) := Nat.le_trans HX30.out hb31.size
              have Hten31 : Hid (X31.heap[J30]? = some (.cells #[.slice none 0 0] 72 (0, 0))) := (hb31.block _ (Array.getElem?_eq_some_iff.1 HJ30.out).1).trans HJ30.out
              refine hK.out _ _ (HCK.out X31 _ _ HA31.out.bf) (fun hS => ?_)
              clear hK K
              try simp only [Act.put, putA, putZ, putS]
              clear hb31
              refine tE 4 (oi := ⟨_, _, _, _, _, _⟩) (v := ?_) rfl (by kernel_rfl) (by rfl) (fun _ _ _ h => h) hS ?_ ?_
              rotate_left
              · rintro W' ⟨z0, z1, z2, z3, z4, z5⟩; go_simp; try with_reducible rfl
              try simp only [Act.put, putA, putZ, putS]
              refine wpAnyE_next (rs := [5]) (by kernel_rfl) (by simp) ?_
              refine NextE.cons (o := ⟨some 63, _, _, _, _, _⟩) rfl (fun K hK => ?_) NextE.nil
              refine step_make_full X31 (by rfl) (.tmp 62) (.tmp 62) 72 (by rfl) X31.heap.size 3 i1 (.int .i64 0) 1 Try.underlying72 hi1 hy0 hy1 .i64 .i64 ((t.ng : Int) + 1) ((t.ng : Int) + 1) (t.ng + 1) (by rfl) (by rfl) (by omega) (by omega) (by rw [hy2]; omega) (by unfold maxLen; omega) (Nat.le_refl _) ?_
              intro X32 hob32 hg32
              rw [made_iL] at hob32
              have hb32 : Below X31.heap.size X31 X32 := (Fr.grown hg32).low (Nat.le_refl _) (fun k _ e => by cases e)
              have HA32 := Lib.hid (HA31.out.add2 hb32 hob32)
              have HX32 : Hid (wx.heap.size ≤ X32.heap.size) := Nat.le_trans HX31.out hb32.size
              have Hten32 : Hid (X32.heap[J30]? = some (.cells #[.slice none 0 0] 72 (0, 0))) := (hb32.block _ (Array.getElem?_eq_some_iff.1 Hten31.out).1).trans Hten31.out
              obtain ⟨dz, HDZ⟩ : ∃ r, Hid (X31.heap.size = r) := ⟨_, rfl⟩
              rw [HDZ.out] at HA32 ⊢
              clear hob32 hg32
              refine hK.out _ _ (HCK.out X32 _ _ HA32.out.bf) (fun hS => ?_)
              clear hK K
              try simp only [Act.put, putA, putZ, putS]
              clear hb32
              refine wpAnyE_next (rs := [6]) (by kernel_rfl) (by simp) ?_
              refine NextE.cons (o := ⟨some 64, _, _, _, _, _⟩) rfl (fun K hK => ?_) NextE.nil
              go_simp
              have HA33 := Lib.hid (HA32.out.below (below_alloc X32 (.cells #[.slice (some ⟨dz, 0, none⟩) (t.ng + 1) (t.ng + 1)] 72)))
              have HJ33 : Hid ((X32.alloc (.cells #[.slice (some ⟨dz, 0, none⟩) (t.ng + 1) (t.ng + 1)] 72)).heap[X32.heap.size]? = some (.cells #[.slice (some ⟨dz, 0, none⟩) (t.ng + 1) (t.ng + 1)] 72 (0, 0))) := heap_alloc_new _ _
              have HJL33 : Hid (wx.heap.size ≤ X32.heap.size) := HX32.out
              have HX33 : Hid (wx.heap.size ≤ (X32.alloc (.cells #[.slice (some ⟨dz, 0, none⟩) (t.ng + 1) (t.ng + 1)] 72)).heap.size) := Nat.le_trans HX32.out (below_alloc _ _).size
              have Hten33 : Hid ((X32.alloc (.cells #[.slice (some ⟨dz, 0, none⟩) (t.ng + 1) (t.ng + 1)] 72)).heap[J30]? = some (.cells #[.slice none 0 0] 72 (0, 0))) := ((below_alloc X32 (.cells #[.slice (some ⟨dz, 0, none⟩) (t.ng + 1) (t.ng + 1)] 72)).block _ (Array.getElem?_eq_some_iff.1 Hten32.out).1).trans Hten32.out
              refine hK.out _ _ (HCK.out (X32.alloc (.cells #[.slice (some ⟨dz, 0, none⟩) (t.ng + 1) (t.ng + 1)] 72)) _ _ HA33.out.bf) (fun hS => ?_)
              clear hK K
              try simp only [Act.put, putA, putZ, putS]
              generalize X32.heap.size = J33 at *
              generalize (X32.alloc (.cells #[.slice (some ⟨dz, 0, none⟩) (t.ng + 1) (t.ng + 1)] 72)) = X33 at *
              refine wpAnyE_next (rs := [7]) (by kernel_rfl) (by simp) ?_
              refine NextE.cons (o := ⟨some 65, _, _, _, _, _⟩) rfl (fun K hK => ?_) NextE.nil
              refine step_append_src X33 (by rfl) (.tmp 59) (.tmp 64) 73 (by rfl) w.heap.size 72 i2 (.slice none 0 0) 1 24 Try.underlying73 hi2 hx0 hx1 hx2 rfl (by decide) (.slice da c dc) c ((List.range c).map (rows 2)) (by rfl) HA33.out.d (some ⟨J33, 0, none⟩) 1 1 [.slice (some ⟨dz, 0, none⟩) (t.ng + 1) (t.ng + 1)] (by rfl) ⟨rfl, fun j u hu => ⟨_, rfl, World.news_of_block HJ33.out j u hu⟩⟩ (by simp [Value.oneCell']) (by unfold maxLen; omega) (by omega) HA33.out.bf.fr.size ?_
              intro v34 X34 hown34 hgr34 hlt34
              have HA34 := Lib.hid (HA33.out.growD hgr34 hown34 hlt34)
              obtain ⟨dD, dC, rfl⟩ := own_slice' hown34
              have HX34 : Hid (wx.heap.size ≤ X34.heap.size) := Nat.le_trans HX33.out hgr34.size
              have Hten34 : Hid (X34.heap[J30]? = some (.cells #[.slice none 0 0] 72 (0, 0))) := (hgr34.block _ (Array.getElem?_eq_some_iff.1 Hten33.out).1 (fun e => by have h1 := HLT.out _ e.symm; have h2 := HJL30.out; omega)).trans Hten33.out
              clear hown34 hgr34 hlt34
              refine hK.out _ _ (HCK.out X34 _ _ HA34.out.bf) (fun hS => ?_)
              clear hK K
              try simp only [Act.put, putA, putZ, putS]
              refine tE 12 (oi := ⟨_, _, _, _, _, _⟩) (v := ?_) rfl (by kernel_rfl) (by rfl) (fun _ _ _ h => h) hS ?_ ?_
              rotate_left
              · rintro W' ⟨z0, z1, z2, z3, z4, z5⟩; go_simp; try with_reducible rfl
              try simp only [Act.put, putA, putZ, putS]
              refine wpAnyE_next (rs := [11]) (by kernel_rfl) (by simp) ?_
              refine NextE.cons (o := ⟨some 69, _, _, _, _, _⟩) rfl (fun K hK => ?_) NextE.nil
              refine step_append_src X34 (by rfl) (.tmp 67) (.tmp 68) 73 (by rfl) w.heap.size 72 i2 (.slice none 0 0) 1 24 Try.underlying73 hi2 hx0 hx1 hx2 rfl (by decide) (.slice ma c mc) c ((List.range c).map (rows 3)) (by rfl) HA34.out.m (some ⟨J30, 0, none⟩) 1 1 [.slice none 0 0] (by rfl) ⟨rfl, fun j u hu => ⟨_, rfl, World.news_of_block Hten34.out j u hu⟩⟩ (by simp [Value.oneCell']) (by unfold maxLen; omega) (by omega) HA34.out.bf.fr.size ?_
              intro v35 X35 hown35 hgr35 hlt35
              have HA35 := Lib.hid (HA34.out.growM hgr35 hown35 hlt35)
              obtain ⟨mD, mC, rfl⟩ := own_slice' hown35
              have HX35 : Hid (wx.heap.size ≤ X35.heap.size) := Nat.le_trans HX34.out hgr35.size
              clear hown35 hgr35 hlt35
              refine hK.out _ _ (HCK.out X35 _ _ HA35.out.bf) (fun hS => ?_)
              clear hK K
              try simp only [Act.put, putA, putZ, putS]
              refine wpAnyE_next (rs := [13]) (by kernel_rfl) (by simp) ?_
              refine NextE.skip (o := ⟨none, _, _, _, _, _⟩) rfl (by kernel_rfl) (fun K hK => ?_) NextE.nil
              have e0 := HA35.out.bf.cell (.head _) 2
              have f0 := HA35.out.bf.thaw (.head _) 2
              have HA36 := Lib.hid (HA35.out.set (i := 2) (v := .slice dD (c + 1) dC) (hdr' := #[.slice fa0 t.ng fc, .slice ba' (c + 1) bc', .slice dD (c + 1) dC, .slice ma c mc]) (by simp) rfl)
              go_simp
              refine hK.out _ _ ?_
              clear hK K
              (try simp only [Act.put])
              clear e0 f0
              refine wpAnyE_next (rs := [14]) (by kernel_rfl) (by simp) ?_
              refine NextE.skip (o := ⟨some 71, _, _, _, _, _⟩) rfl (by kernel_rfl) (fun K hK => ?_) NextE.nil
              go_simp
              refine hK.out _ _ ?_
              clear hK K
              try simp only [Act.put, putA, putZ, putS]
              refine wpAnyE_next (rs := [15]) (by kernel_rfl) (by simp) ?_
              refine NextE.skip (o := ⟨none, _, _, _, _, _⟩) rfl (by kernel_rfl) (fun K hK => ?_) NextE.nil
              have e0 := HA36.out.bf.cell (.head _) 3
              have f0 := HA36.out.bf.thaw (.head _) 3
              have HA38 := Lib.hid (HA36.out.set (i := 3) (v := .slice mD (c + 1) mC) (hdr' := #[.slice fa0 t.ng fc, .slice ba' (c + 1) bc', .slice dD (c + 1) dC, .slice mD (c + 1) mC]) (by simp) rfl)
              go_simp
              refine hK.out _ _ ?_
              clear hK K
              (try simp only [Act.put])
              clear e0 f0
              refine wpAnyE_done (by kernel_rfl) ?_ _
              go_wp2_with fail
              go_meet
              exact ⟨dD, dC, mD, mC, dz, HA38.out.nil3⟩
            case rest =>
              rename World => wy
              obtain ⟨da', dc', ma', mc', dz, hps⟩ := hcut
              obtain rfl := HE1.out
              obtain rfl := HE2.out
              obtain rfl := HE3.out
              obtain ⟨R, L, V, eR, eL, eV, r00, r10, r2, r3, l00, l10, l2, l3, v1, e2, e3, hgt⟩ := round_names t c rows len val (.slice ba' (c + 1) bc') (.slice (some ⟨dz, 0, none⟩) (t.ng + 1) (t.ng + 1)) v HGT.out
              rw [eR, eL, eV, ← e2, ← e3] at hps
              obtain ⟨db, rfl⟩ := own_some hps.d
              obtain ⟨mb, rfl⟩ := own_some hps.m
              obtain ⟨bb, rfl⟩ : ∃ bb, ba' = some ⟨bb, 0, none⟩ := by
                have h := hps.ir.own 1 0 (.inr (.inl ⟨rfl, rfl⟩))
                rw [r10, l10] at h
                exact own_some h
              have HP6 := Lib.hid hps; have HR10 := Lib.hid r10; have HR00 := Lib.hid (r00.trans HR0.out); have HR2 := Lib.hid r2; have HL00 := Lib.hid (l00.trans HGT.out.nf); have HL10 := Lib.hid l10; have HL2 := Lib.hid l2; have HV1 := Lib.hid v1; have HGT2 := Lib.hid hgt
              have HL3 := Lib.hid l3
              clear HP5 HLT HCK HAX HLX wn1 hps eR eL eV r00 r10 r2 r3 l00 l10 l2 l3 v1 e2 e3 hgt HE1 HE2 HE3 HL HR HR0 HGT
              clear rows len val ba bc da dc ma mc
              go_wp2_with fail
              go_loopw [8] (fun i wr => ∃ (g : Nat) (R' : Nat → Nat → Value) (L' : Nat → Nat → Nat) (V' : Nat → Nat → Nat → Int), g ≤ t.ng ∧ i = .int .i64 g ∧ L' 3 c = g ∧ (∀ k j, ¬ (k = 3 ∧ j = c) → R' k j = R k j ∧ L' k j = L k j ∧ V' k j = V k j) ∧ (∀ q, q < g → (t.n q).1 ≤ V' 3 c q ∧ V' 3 c q ≤ (t.n q).2) ∧ PS w wr #[.slice u.ca t.nc u.cc, .slice u.ba t.nb u.bc, .slice u.ra t.nr u.rc, .slice u.na t.nn u.nc] #[.slice fa0 t.ng fc, .slice (some ⟨bb, 0, none⟩) (c + 1) bc', .slice (some ⟨db, 0, none⟩) (c + 1) dc', .slice (some ⟨mb, 0, none⟩) (c + 1) mc'] (.slice (some ⟨db, 0, none⟩) (c + 1) dc') (c + 1) ((List.range (c + 1)).map (R 2)) (.slice (some ⟨mb, 0, none⟩) (c + 1) mc') (c + 1) ((List.range (c + 1)).map (R' 3)) (c + 1) (c + 1) R' L' V') (fun i _ => t.ng - (intOf i).toNat)
              case atStart => exact ⟨0, R, L, V, Nat.zero_le _, rfl, HL3.out, fun _ _ _ => ⟨rfl, rfl, rfl⟩, fun _ h => absurd h (Nat.not_lt_zero _), HP6.out⟩
              case round =>
                clear HP6 HL3
                obtain ⟨g, R', L', V', hg, rfl, hl3, hsame, hfit, hps⟩ := hrel
                have HSM := Lib.hid hsame; have HFT := Lib.hid hfit; have HL3 := Lib.hid hl3; have HP4 := Lib.hid hps
                have ho := hps.ir.own 3 c (.inr (.inr (.inr ⟨rfl, by omega⟩)))
                rw [hl3] at ho
                obtain ⟨ra, rc, hr3⟩ := own_slice' ho
                rw [hr3] at ho
                have HR3 := Lib.hid hr3; have HO4 := Lib.hid ho
                clear hsame hfit hl3 hps ho hr3
                have c0 := HP4.out.bf.cell (.tail _ (.tail _ (.head _))) 0
                have c1 := HP4.out.bf.cell (.tail _ (.tail _ (.head _))) 1
                have c2 := HP4.out.bf.cell (.tail _ (.tail _ (.head _))) 2
                have c3 := HP4.out.bf.cell (.tail _ (.tail _ (.head _))) 3
                have gi : (0 : Int) ≤ (g : Int) := by omega
                by_cases hlg : g < t.ng
                · have gj : (g : Int) < (t.ng : Int) := by omega
                  go_wp2_with (go_at_call 23; refine (HG.out _ HP4.out.bf.fr).mono ?_; rintro _ wr ⟨rfl, hb5⟩; have HP5 := Lib.hid (HP4.out.below hb5); have HO5 := Lib.hid (own_below HO4.out hb5); clear hb5)
                  clear c0 c1 c2 c3 HP4 HO4
                  obtain ⟨bq, oq, hna, hbq, x0, x1⟩ := HRN.out.at (k := g) (by rw [HNN.out]; exact hlg)
                  obtain ⟨p, q, HPN0⟩ : ∃ p q, Hid (t.n g = (p, q)) := ⟨_, _, rfl⟩
                  have hpq := HT.out.n g (by rw [HNN.out]; exact hlg)
                  rw [HPN0.out] at x0 x1 hpq
                  simp only at x0 x1 hpq
                  have knn : (g : Int) < (t.nn : Int) := by rw [HNN.out]; exact gj
                  have ko : (c : Int) < (c : Int) + 1 := by omega
                  have HCK : Hid (∀ X v0 v1 v2, BF w X [(w.heap.size + 2, #[v0, v1, v2, .slice (some ⟨mb, 0, none⟩) (c + 1) mc'], 75), (w.heap.size + 1, zT, 75), (w.heap.size, #[.slice u.ca t.nc u.cc, .slice u.ba t.nb u.bc, .slice u.ra t.nr u.rc, .slice u.na t.nn u.nc], 25)] → X.ownsRow w.heap.size 72 1 (.slice (some ⟨mb, 0, none⟩) (c + 1) mc') (c + 1) ((List.range (c + 1)).map (R' 3)) → X.cell? ⟨w.heap.size + 2, 3, none⟩ = some (.slice (some ⟨mb, 0, none⟩) (c + 1) mc') ∧ X.cell? ⟨mb, c, none⟩ = some (.slice ra g rc) ∧ X.cell? ⟨w.heap.size, 3, none⟩ = some (.slice (some ⟨bq, oq, none⟩) t.nn u.nc) ∧ X.cell? ⟨bq, oq + g * 2, none⟩ = some (.int .i64 p) ∧ X.cell? ⟨bq, oq + g * 2 + 1, none⟩ = some (.int .i64 q)) := fun X v0 v1 v2 hX hm => ⟨hX.cell (.head _) 3, (hm.cellAt c (by omega)).trans (by rw [map_get (by omega), HR3.out]), by rw [← hna]; exact hX.cell (.tail _ (.tail _ (.head _))) 3, kept hX.fr hbq x0, kept hX.fr hbq x1⟩
                  obtain ⟨wd, HWV⟩ : ∃ wd, Hid (wordF nw z (3 * (c : Int) + (g : Int) + 7) = wd) := ⟨_, rfl⟩
                  have hwd := HWB.out (3 * (c : Int) + (g : Int) + 7)
                  rw [HWV.out] at hwd
                  obtain ⟨v, HV⟩ : ∃ v, Hid (pickI p q wd = v) := ⟨_, rfl⟩
                  have hv := in_pick (v := wd) hpq.2.1
                  rw [HV.out] at hv
                  obtain ⟨hwd1, hwd2⟩ := hwd; obtain ⟨hpq1, hpq2, hpq3⟩ := hpq; obtain ⟨hv1, hv2⟩ := hv
                  have wi1 : IntKind.i64.wrap (3 * (c : Int)) = 3 * (c : Int) := IntWalk.i64_in _ (by omega)
                  have wi2 : IntKind.i64.wrap (3 * (c : Int) + (g : Int)) = 3 * (c : Int) + (g : Int) := IntWalk.i64_in _ (by omega)
                  have wi3 : IntKind.i64.wrap (3 * (c : Int) + (g : Int) + 7) = 3 * (c : Int) + (g : Int) + 7 := IntWalk.i64_in _ (by omega)
                  clear hna hbq x0 x1
                  have HAX : Hid (Below wr.heap.size wr wr.drew) := (Below.refl _ _).drew
                  refine wp_region_Z (S := fun X => X.cell? ⟨w.heap.size + 2, 3, none⟩ = some (.slice (some ⟨mb, 0, none⟩) (c + 1) mc') ∧ X.cell? ⟨mb, c, none⟩ = some (.slice ra g rc) ∧ X.cell? ⟨w.heap.size, 3, none⟩ = some (.slice (some ⟨bq, oq, none⟩) t.nn u.nc) ∧ X.cell? ⟨bq, oq + g * 2, none⟩ = some (.int .i64 p) ∧ X.cell? ⟨bq, oq + g * 2 + 1, none⟩ = some (.int .i64 q)) (by kernel_rfl) (HCK.out _ _ _ _ (HP5.out.below HAX.out).bf (HP5.out.below HAX.out).m) (fun hS => ?_)
                  generalize wr.drew = X at *
                  refine tk [0, 1, 2, 3, 4, 5, 6, 7, 8, 9, 10, 11, 12, 13, 14, 15, 16, 17, 18] ?_
                  repeat (refine tkZ (oi := ⟨_, _, _, _, _, _⟩) (v := ?_) rfl (by kernel_rfl) (by rfl) (fun _ _ _ h => h) hS ?_ ?_; rotate_left; (· rintro W' ⟨z0, z1, z2, z3, z4⟩; go_simp; try with_reducible rfl); try simp only [Act.put, putA, putZ, putS])
                  refine tk0 ?_
                  refine wpAnyZ_next (rs := [19]) (by kernel_rfl) (by simp) ?_
                  refine NextZ.cons (o := ⟨some 97, _, _, _, _, _⟩) rfl (fun K hK => ?_) NextZ.nil
                  go_simp
                  refine (HWD.out X (3 * (c : Int) + (g : Int) + 7) (HP5.out.below HAX.out).bf.fr (by omega) (by omega)).mono ?_
                  rw [HWV.out]
                  rintro _ X0 ⟨rfl, rfl⟩
                  (try go_wp2_with fail)
                  refine hK.out _ _ (HCK.out X _ _ _ (HP5.out.below HAX.out).bf (HP5.out.below HAX.out).m) (fun hS => ?_)
                  clear hK K
                  try simp only [Act.put, putA, putZ, putS]
                  refine wpAnyZ_next (rs := [20]) (by kernel_rfl) (by simp) ?_
                  refine NextZ.cons (o := ⟨some 98, _, _, _, _, _⟩) rfl (fun K hK => ?_) NextZ.nil
                  go_simp
                  refine (picked_any p q wd X hwd1 hwd2 hpq2 (by omega) (by omega)).mono ?_
                  rw [HV.out]
                  rintro _ X1 ⟨rfl, hb1⟩
                  (try go_wp2_with fail)
                  have HA1 : Hid (Below wr.heap.size wr X1) := below_step HAX.out hb1
                  refine hK.out _ _ (HCK.out X1 _ _ _ (HP5.out.below HA1.out).bf (HP5.out.below HA1.out).m) (fun hS => ?_)
                  clear hK K
                  try simp only [Act.put, putA, putZ, putS]
                  clear hb1
                  refine wpAnyZ_next (rs := [21]) (by kernel_rfl) (by simp) ?_
                  refine NextZ.cons (o := ⟨some 99, _, _, _, _, _⟩) rfl (fun K hK => ?_) NextZ.nil
                  go_simp
                  have HB1 : Hid (Below wr.heap.size wr (X1.alloc (.cells #[.int .i64 v] 3))) := below_step HA1.out (below_alloc _ _)
                  have HJ : Hid ((X1.alloc (.cells #[.int .i64 v] 3)).heap[X1.heap.size]? = some (.cells #[.int .i64 v] 3 (0, 0))) := heap_alloc_new _ _
                  refine hK.out _ _ (HCK.out (X1.alloc (.cells #[.int .i64 v] 3)) _ _ _ (HP5.out.below HB1.out).bf (HP5.out.below HB1.out).m) (fun hS => ?_)
                  clear hK K
                  try simp only [Act.put, putA, putZ, putS]
                  generalize X1.heap.size = J at *
                  generalize (X1.alloc (.cells #[.int .i64 v] 3)) = X1 at *
                  refine wpAnyZ_next (rs := [22]) (by kernel_rfl) (by simp) ?_
                  refine NextZ.cons (o := ⟨some 100, _, _, _, _, _⟩) rfl (fun K hK => ?_) NextZ.nil
                  refine step_append_src X1 (by rfl) (.tmp 85) (.tmp 99) 72 (by rfl) w.heap.size 3 i1 (.int .i64 0) 1 8 Try.underlying72 hi1 hy0 hy1 hy2 rfl (by decide) (.slice ra g rc) (g) (iL (V' 3 c) (g)) (by rfl) (own_below HO5.out HB1.out) (some ⟨J, 0, none⟩) 1 1 [.int .i64 v] (by rfl) ⟨rfl, fun j u hu => ⟨_, rfl, World.news_of_block HJ.out j u hu⟩⟩ (by simp [Value.oneCell']) (by unfold maxLen; omega) (by omega) (HP5.out.below HB1.out).bf.fr.size ?_
                  intro v1 Y hown hgr hlt1
                  have HPY := Lib.hid ((HP5.out.below HB1.out).grow (Y := Y) (k := 3) (j := c) (u := v1) (v := v) (.inr (.inr (.inr ⟨rfl, by omega⟩))) (by rw [HR3.out]; exact hgr) (by rw [HL3.out]; exact hown) (by rw [HR3.out]; exact hlt1))
                  obtain ⟨aa, ac, rfl⟩ := own_slice' hown
                  clear hown hgr hlt1
                  refine hK.out _ _ (HCK.out Y _ _ _ HPY.out.bf HPY.out.m) (fun hS => ?_)
                  clear hK K
                  try simp only [Act.put, putA, putZ, putS]
                  refine tZ 23 (oi := ⟨_, _, _, _, _, _⟩) (v := ?_) rfl (by kernel_rfl) (by rfl) (fun _ _ _ h => h) hS ?_ ?_
                  rotate_left
                  · rintro W' ⟨z0, z1, z2, z3, z4⟩; go_simp; try with_reducible rfl
                  try simp only [Act.put, putA, putZ, putS]
                  refine wpAnyZ_next (rs := [24]) (by kernel_rfl) (by simp) ?_
                  refine NextZ.last (o := ⟨none, _, _, _, _, _⟩) rfl (by kernel_rfl) (fun K hK => ?_)
                  have e0 := hS.2.1
                  have f0 := HPY.out.m.frozenAt c
                  have HPN := Lib.hid (HPY.out.storeM (c := c) (rv := .slice aa (g + 1) ac))
                  rw [← map_upd (c + 1) (by omega)] at HPN
                  go_simp
                  refine hK.out _ _ ?_
                  clear hK K e0 f0
                  (try simp only [Act.put])
                  refine wpAnyZ_done (by kernel_rfl) ?_ _
                  go_wp2_with fail
                  go_roundw
                  case rel => exact ⟨g + 1, upd R' 3 c (.slice aa (g + 1) ac), upd L' 3 c (L' 3 c + 1), upd V' 3 c (fun q => if q = L' 3 c then v else V' 3 c q), by omega, by go_num, by rw [upd_eq, HL3.out], fun k j hkj => by rw [upd_ne _ _ hkj, upd_ne _ _ hkj, upd_ne _ _ hkj]; exact HSM.out k j hkj, fun q hq => by
                    rw [upd_eq, HL3.out]
                    by_cases e : q = g
                    · subst e; rw [if_pos rfl, HPN0.out]; exact ⟨hv1, hv2⟩
                    · rw [if_neg e]; exact HFT.out q (by omega), HPN.out⟩
                  case measure => simp [intOf]; omega
                · obtain rfl : g = t.ng := by omega
                  have HGT3 := Lib.hid (round_mid HGT2.out (fun k j h => (HSM.out k j h).2))
                  have HR00' := Lib.hid ((HSM.out 0 0 (by omega)).1.trans HR00.out)
                  have HR10' := Lib.hid ((HSM.out 1 0 (by omega)).1.trans HR10.out)
                  have HR2' := Lib.hid ((HSM.out 2 c (by omega)).1.trans HR2.out)
                  have HL00' := Lib.hid ((HSM.out 0 0 (by omega)).2.1.trans HL00.out)
                  have HL10' := Lib.hid ((HSM.out 1 0 (by omega)).2.1.trans HL10.out)
                  have HL2' := Lib.hid ((HSM.out 2 c (by omega)).2.1.trans HL2.out)
                  have HVB : Hid ((t.b c).1 ≤ V' 1 0 c ∧ V' 1 0 c ≤ (t.b c).2) := by
                    unfold Hid
                    rw [(HSM.out 1 0 (by omega)).2.2, HV1.out, HPQ.out]
                    exact ⟨hv1, hv2⟩
                  have hmap : (List.range (c + 1)).map (R 2) = (List.range (c + 1)).map (R' 2) := List.map_congr_left (fun j _ => (HSM.out 2 j (by omega)).1.symm)
                  rw [hmap] at HP4
                  clear hmap HSM HGT2 HR00 HR10 HR2 HL00 HL10 HL2 HV1 HO4
                  go_wp2_with (go_at_call 23; refine (HG.out _ HP4.out.bf.fr).mono ?_; rintro _ wq ⟨rfl, hb5⟩; have HP5 := Lib.hid (HP4.out.below hb5); clear hb5; have d0 := HP5.out.bf.cell (.tail _ (.tail _ (.head _))) 0; have d1 := HP5.out.bf.cell (.tail _ (.tail _ (.head _))) 1; have d2 := HP5.out.bf.cell (.tail _ (.tail _ (.head _))) 2; have d3 := HP5.out.bf.cell (.tail _ (.tail _ (.head _))) 3)
                  clear c0 c1 c2 c3 d0 d1 d2 d3 HP4
                  have HSB : Hid ((wq.alloc (.cells #[.slice u.ca t.nc u.cc, .slice u.ba t.nb u.bc, .slice u.ra t.nr u.rc, .slice u.na t.nn u.nc] 25)).heap[wq.heap.size]? = some (.cells #[.slice u.ca t.nc u.cc, .slice u.ba t.nb u.bc, .slice u.ra t.nr u.rc, .slice u.na t.nn u.nc] 25 (0, 0))) := heap_alloc_new _ _
                  have HBB : Hid (Below wq.heap.size wq (wq.alloc (.cells #[.slice u.ca t.nc u.cc, .slice u.ba t.nb u.bc, .slice u.ra t.nr u.rc, .slice u.na t.nn u.nc] 25))) := below_alloc _ _
                  go_cut [] (fun wx => wx.heap[wq.heap.size]? = some (.cells #[.slice u.ca (c + 2) u.cc, .slice u.ba (c + 1) u.bc, .slice u.ra t.nr u.rc, .slice u.na t.nn u.nc] 25 (0, 0)) ∧ Below wq.heap.size wq wx)
                  case first =>
                    generalize (wq.alloc (.cells #[.slice u.ca t.nc u.cc, .slice u.ba t.nb u.bc, .slice u.ra t.nr u.rc, .slice u.na t.nn u.nc] 25)) = wm at *
                    obtain ⟨b0, o0, _, _, hca, _, _, _⟩ := HRC.out.at (k := 0) (by omega)
                    obtain ⟨b1, o1, hba, _, _, _⟩ := HRB.out.at (k := 0) (by omega)
                    have HAX : Hid (Below wq.heap.size wq wm.drew) := HBB.out.trans ((Below.refl _ _).drew)
                    have HDX : Hid (wm.drew.heap[wq.heap.size]? = some (.cells #[.slice u.ca t.nc u.cc, .slice u.ba t.nb u.bc, .slice u.ra t.nr u.rc, .slice u.na t.nn u.nc] 25 (0, 0))) := HSB.out
                    have HCK : Hid (∀ X, Below wq.heap.size wq X → X.cell? ⟨w.heap.size, 0, none⟩ = some (.slice (some ⟨b0, o0, none⟩) t.nc u.cc) ∧ X.cell? ⟨w.heap.size, 1, none⟩ = some (.slice (some ⟨b1, o1, none⟩) t.nb u.bc)) := fun X hX => ⟨by rw [← hca]; exact (HP5.out.below hX).bf.cell (.tail _ (.tail _ (.head _))) 0, by rw [← hba]; exact (HP5.out.below hX).bf.cell (.tail _ (.tail _ (.head _))) 1⟩
                    have HCA := Lib.hid hca; have HBA := Lib.hid hba
                    have kb : (c : Int) + 1 ≤ (u.bc : Int) := by omega
                    have kc : (c : Int) + 2 ≤ (u.cc : Int) := by omega
                    have k1 : 0 ≤ (c : Int) + 1 := by omega
                    have k2 : 0 ≤ (c : Int) + 2 := by omega
                    have k3 : ((c : Int) + 2).toNat = c + 2 := by omega
                    have wi1 : IntKind.i64.wrap ((c : Int) + 1) = (c : Int) + 1 := IntWalk.i64_in _ (by omega)
                    have wi2 : IntKind.i64.wrap ((c : Int) + 2) = (c : Int) + 2 := IntWalk.i64_in _ (by omega)
                    clear hca hba HSB HBB
                    refine wp_region_held_drew (S := fun X => X.cell? ⟨w.heap.size, 0, none⟩ = some (.slice (some ⟨b0, o0, none⟩) t.nc u.cc) ∧ X.cell? ⟨w.heap.size, 1, none⟩ = some (.slice (some ⟨b1, o1, none⟩) t.nb u.bc)) (by kernel_rfl) (HCK.out _ HAX.out) (fun hS => ?_)
                    generalize wm.drew = X at *
                    refine tk [0, 1, 2, 3, 4, 5, 6, 7, 8, 9, 10] ?_
                    repeat (refine tkH (oi := ⟨_, _, _, _, _, _⟩) (v := ?_) rfl (by kernel_rfl) (by rfl) (fun _ _ _ h => h) hS ?_ ?_; rotate_left; (· rintro W' ⟨z0, z1⟩; go_simp; try with_reducible rfl); try simp only [Act.put, putA, putZ, putS])
                    refine tk0 ?_
                    refine wpAnyH_ready (rs := [11]) (by kernel_rfl) (by simp) ?_
                    refine AllReadyH.cons (o := ⟨none, _, _, _, _, _⟩) rfl (fun K hK => ?_) AllReadyH.nil
                    have e0 := cell_of_row _ _ 1 _ _ _ HDX.out
                    have f0 := frozen_of_row _ _ 1 _ _ HDX.out
                    have hst := set1h (i := 1) HDX.out (.slice (some ⟨b1, o1, none⟩) (c + 1) u.bc) (cs' := #[.slice u.ca t.nc u.cc, .slice (some ⟨b1, o1, none⟩) (c + 1) u.bc, .slice u.ra t.nr u.rc, .slice u.na t.nn u.nc]) rfl
                    have HD0 := Lib.hid hst.1
                    have HA0 : Hid (Below wq.heap.size wq (X.setCell ⟨wq.heap.size, 1, none⟩ (.slice (some ⟨b1, o1, none⟩) (c + 1) u.bc))) := HAX.out.trans (hst.2.low HAX.out.size (fun q hq e => by omega))
                    clear hst
                    go_simp
                    refine hK.out _ _ (HCK.out (X.setCell ⟨wq.heap.size, 1, none⟩ (.slice (some ⟨b1, o1, none⟩) (c + 1) u.bc)) HA0.out) (fun hS => ?_)
                    clear hK K
                    (try simp only [Act.put])
                    clear e0 f0
                    refine tH 12 (oi := ⟨_, _, _, _, _, _⟩) (v := ?_) rfl (by kernel_rfl) (by rfl) (fun _ _ _ h => h) hS ?_ ?_
                    rotate_left
                    · rintro W' ⟨z0, z1⟩; go_simp; try with_reducible rfl
                    try simp only [Act.put, putA, putZ, putS]
                    refine wpAnyH_ready (rs := [13]) (by kernel_rfl) (by simp) ?_
                    refine AllReadyH.cons (o := ⟨none, _, _, _, _, _⟩) rfl (fun K hK => ?_) AllReadyH.nil
                    have e0 := cell_of_row _ _ 0 _ _ _ HD0.out
                    have f0 := frozen_of_row _ _ 0 _ _ HD0.out
                    have hst := set1h (i := 0) HD0.out (.slice (some ⟨b0, o0, none⟩) (c + 2) u.cc) (cs' := #[.slice (some ⟨b0, o0, none⟩) (c + 2) u.cc, .slice (some ⟨b1, o1, none⟩) (c + 1) u.bc, .slice u.ra t.nr u.rc, .slice u.na t.nn u.nc]) rfl
                    have HD1 := Lib.hid hst.1
                    have HA1 : Hid (Below wq.heap.size wq ((X.setCell ⟨wq.heap.size, 1, none⟩ (.slice (some ⟨b1, o1, none⟩) (c + 1) u.bc)).setCell ⟨wq.heap.size, 0, none⟩ (.slice (some ⟨b0, o0, none⟩) (c + 2) u.cc))) := HA0.out.trans (hst.2.low HA0.out.size (fun q hq e => by omega))
                    clear hst
                    go_simp
                    refine hK.out _ _ (HCK.out ((X.setCell ⟨wq.heap.size, 1, none⟩ (.slice (some ⟨b1, o1, none⟩) (c + 1) u.bc)).setCell ⟨wq.heap.size, 0, none⟩ (.slice (some ⟨b0, o0, none⟩) (c + 2) u.cc)) HA1.out) (fun hS => ?_)
                    clear hK K
                    (try simp only [Act.put])
                    clear e0 f0
                    refine wpAnyH_done (by kernel_rfl) ?_ _
                    go_wp2_with fail
                    go_meet
                    exact ⟨by rw [HCA.out, HBA.out]; exact HD1.out, HA1.out⟩
                  case rest =>
                    rename World => wx
                    obtain ⟨hsb, hbb⟩ := hcut
                    clear HSB HBB
                    have HP6 := Lib.hid (HP5.out.below hbb)
                    have HPL2 : Hid (Calls Try.prog 52 #[.agg #[.slice u.ca (c + 2) u.cc, .slice u.ba (c + 1) u.bc, .slice u.ra t.nr u.rc, .slice u.na t.nn u.nc], .agg #[.slice fa0 t.ng fc, .slice (some ⟨bb, 0, none⟩) (c + 1) bc', .slice (some ⟨db, 0, none⟩) (c + 1) dc', .slice (some ⟨mb, 0, none⟩) (c + 1) mc']] wx fun e w' => ∃ v b, e = .returned (.tuple #[v, .bool b]) ∧ IRows w' v (c + 2) (fun _ => t.ng) (siz t.ng (trOf (c + 1) (c + 1) L' V')) ∧ Below wx.heap.size wx w') := by
                      have h := HPL.out wx c u.cc u.bc _ _ HP6.out.bf.fr hlt (HP6.out.xl (HR00'.out.trans (by rw [HL00'.out])) (HR10'.out.trans (by rw [HL10'.out]))) (play_short HT.out hlt HGT3.out HL10'.out HL2'.out HL3.out)
                      rw [show (trOf (c + 1) (c + 1) L' V').nf = t.ng from HL00'.out, show (trOf (c + 1) (c + 1) L' V').nb = c + 1 from HL10'.out] at h
                      exact h
                    have s0 := cell_of_row _ _ 0 _ _ _ hsb
                    have s1 := cell_of_row _ _ 1 _ _ _ hsb
                    have s2 := cell_of_row _ _ 2 _ _ _ hsb
                    have s3 := cell_of_row _ _ 3 _ _ _ hsb
                    have d0 : wx.cell? ⟨w.heap.size + 1 + 1, 0, none⟩ = some (.slice fa0 t.ng fc) := HP6.out.bf.cell (.head _) 0
                    have d1 : wx.cell? ⟨w.heap.size + 1 + 1, 1, none⟩ = some (.slice (some ⟨bb, 0, none⟩) (c + 1) bc') := HP6.out.bf.cell (.head _) 1
                    have d2 : wx.cell? ⟨w.heap.size + 1 + 1, 2, none⟩ = some (.slice (some ⟨db, 0, none⟩) (c + 1) dc') := HP6.out.bf.cell (.head _) 2
                    have d3 : wx.cell? ⟨w.heap.size + 1 + 1, 3, none⟩ = some (.slice (some ⟨mb, 0, none⟩) (c + 1) mc') := HP6.out.bf.cell (.head _) 3
                    clear HP5 hbb
                    go_wp2_with (go_at_call 52; refine HPL2.out.mono ?_; rintro _ wz ⟨sv, pb, rfl, hi, hbz⟩; have HP5 := Lib.hid (HP6.out.below hbz); have HSI := Lib.hid hi; obtain ⟨sa, sc, rfl⟩ := hi.slice; clear hi hbz)
                    clear s0 s1 s2 s3 d0 d1 d2 d3 hsb HPL2 HP6
                    obtain ⟨so, oo, ra', rc', rfl, hso, hx0, hrow⟩ := HSI.out.at (k := c) (by omega)
                    have HROW := Lib.hid hrow
                    have HCK : Hid (∀ X, Below wz.heap.size wz X → X.cell? ⟨w.heap.size + 2, 1, none⟩ = some (.slice (some ⟨bb, 0, none⟩) (c + 1) bc') ∧ X.cell? ⟨bb, c, none⟩ = some (.int .i64 (V' 1 0 c)) ∧ X.cell? ⟨so, oo + c, none⟩ = some (.slice ra' t.ng rc')) := fun X hX => by
                      have h1 := (HP5.out.below hX).ir.own 1 0 (.inr (.inl ⟨rfl, rfl⟩))
                      rw [HR10'.out, HL10'.out] at h1
                      exact ⟨(HP5.out.below hX).bf.cell (.head _) 1, (h1.cellAt c (by omega)).trans (iL_get _ (by omega)), kept hX hso hx0⟩
                    have ko : (c : Int) < (c : Int) + 1 := by omega
                    have ko2 : (c : Int) < (c : Int) + 2 := by omega
                    clear hso hx0 hrow
                    have HAX : Hid (Below wz.heap.size wz wz.drew) := (Below.refl _ _).drew
                    go_cut [12] (fun s12 wx => ∃ aa ac, s12 = .slice aa (t.ng + 1) ac ∧ Below wz.heap.size wz wx ∧ wx.ownsRow wz.heap.size 3 1 (.slice aa (t.ng + 1) ac) (t.ng + 1) (iL (allS (V' 1 0 c) (siz t.ng (trOf (c + 1) (c + 1) L' V') c)) (t.ng + 1)))
                    case first =>
                      refine wp_region_held_drew (S := fun X => X.cell? ⟨w.heap.size + 2, 1, none⟩ = some (.slice (some ⟨bb, 0, none⟩) (c + 1) bc') ∧ X.cell? ⟨bb, c, none⟩ = some (.int .i64 (V' 1 0 c)) ∧ X.cell? ⟨so, oo + c, none⟩ = some (.slice ra' t.ng rc')) (by kernel_rfl) (HCK.out _ HAX.out) (fun hS => ?_)
                      generalize wz.drew = X at *
                      refine tk [0, 1, 2, 3, 4, 6, 7, 8, 9] ?_
                      repeat (refine tkH (oi := ⟨_, _, _, _, _, _⟩) (v := ?_) rfl (by kernel_rfl) (by rfl) (fun _ _ _ h => h) hS ?_ ?_; rotate_left; (· rintro W' ⟨z0, z1, z2⟩; go_simp; try with_reducible rfl); try simp only [Act.put, putA, putZ, putS])
                      refine tk0 ?_
                      refine wpAnyH_ready (rs := [5]) (by kernel_rfl) (by simp) ?_
                      refine AllReadyH.cons (o := ⟨some 126, _, _, _, _, _⟩) rfl (fun K hK => ?_) AllReadyH.nil
                      go_simp
                      have HB1 : Hid (Below wz.heap.size wz (X.alloc (.cells #[.int .i64 (V' 1 0 c)] 3))) := below_step HAX.out (below_alloc _ _)
                      have HJ : Hid ((X.alloc (.cells #[.int .i64 (V' 1 0 c)] 3)).heap[X.heap.size]? = some (.cells #[.int .i64 (V' 1 0 c)] 3 (0, 0))) := heap_alloc_new _ _
                      have HJL : Hid (wz.heap.size ≤ X.heap.size) := HAX.out.size
                      refine hK.out _ _ (HCK.out (X.alloc (.cells #[.int .i64 (V' 1 0 c)] 3)) HB1.out) (fun hS => ?_)
                      clear hK K
                      try simp only [Act.put, putA, putZ, putS]
                      generalize X.heap.size = J at *
                      generalize (X.alloc (.cells #[.int .i64 (V' 1 0 c)] 3)) = X1 at *
                      refine wpAnyH_ready (rs := [10]) (by kernel_rfl) (by simp) ?_
                      refine AllReadyH.cons (o := ⟨some 131, _, _, _, _, _⟩) rfl (fun K hK => ?_) AllReadyH.nil
                      refine step_append_src X1 (by rfl) (.tmp 126) (.tmp 130) 72 (by rfl) wz.heap.size 3 i1 (.int .i64 0) 1 8 Try.underlying72 hi1 hy0 hy1 hy2 rfl (by decide) (.slice (some ⟨J, 0, none⟩) 1 1) 1 [.int .i64 (V' 1 0 c)] (by rfl) ⟨rfl, .inr ⟨J, 1, #[.int .i64 (V' 1 0 c)], rfl, HJL.out, HJ.out, Nat.le_refl _, by unfold maxLen; omega, rfl, rfl⟩⟩ ra' t.ng rc' (iL (siz t.ng (trOf (c + 1) (c + 1) L' V') c) t.ng) (by rfl) ((HROW.out.below HB1.out).src) (by intro q hq; unfold iL at hq; simp only [List.mem_map] at hq; obtain ⟨j, _, rfl⟩ := hq; rfl) (by unfold maxLen; omega) (by omega) HB1.out.size ?_
                      intro v1 Y hown hgr hlt1
                      rw [iL_cons, Nat.add_comm 1 t.ng] at hown
                      obtain ⟨aa, ac, rfl⟩ := own_slice' hown
                      have HBY : Hid (Below wz.heap.size wz Y) := HB1.out.trans ((Fr.grown hgr).low HB1.out.size (fun q hq e => by have := Option.some.inj e; simp only at this; have := HJL.out; omega))
                      have HOY := Lib.hid hown
                      clear hown hgr hlt1
                      refine hK.out _ _ (HCK.out Y HBY.out) (fun hS => ?_)
                      clear hK K
                      try simp only [Act.put, putA, putZ, putS]
                      refine tH 11 (oi := ⟨_, _, _, _, _, _⟩) (v := ?_) rfl (by kernel_rfl) (by rfl) (fun _ _ _ h => h) hS ?_ ?_
                      rotate_left
                      · rintro W' ⟨z0, z1, z2⟩; go_simp; try with_reducible rfl
                      try simp only [Act.put, putA, putZ, putS]
                      refine wpAnyH_done (by kernel_rfl) ?_ _
                      go_wp2_with fail
                      go_meet
                      exact ⟨aa, ac, rfl, HBY.out, HOY.out⟩
                    case rest =>
                      rename World => wx
                      obtain ⟨aa, ac, rfl, hbw, how⟩ := hcut
                      have HP6 := Lib.hid (HP5.out.below hbw)
                      have HDZ : Hid (dz < wz.heap.size) := by
                        have h := HP5.out.ir.own 2 c (.inr (.inr (.inl ⟨rfl, by omega⟩)))
                        rw [HR2'.out] at h
                        exact own_lt h rfl
                      obtain ⟨ab, rfl⟩ := own_some how
                      have HAB := Lib.hid (all_bd HT.out hlt HGT3.out HVB.out)
                      have HAE0 : Hid (∀ V4 : Nat → Nat → Nat → Int, (∀ k j, ¬ (k = 2 ∧ j = c) → V4 k j = V' k j) → (∀ j, j < t.ng + 1 → 0 ≤ V4 2 c j ∧ V4 2 c j ≤ max 0 (allS (V' 1 0 c) (siz t.ng (trOf (c + 1) (c + 1) L' V') c) j)) → Gt t (trOf (c + 1) (c + 1) L' V4) (c + 1)) := fun V4 h2 hd => round_end HGT3.out h2 HVB.out HFT.out hd HL2'.out HL3.out
                      obtain ⟨A, HAE⟩ : ∃ A, Hid (allS (V' 1 0 c) (siz t.ng (trOf (c + 1) (c + 1) L' V') c) = A) := ⟨_, rfl⟩
                      rw [HAE.out] at how HAB HAE0
                      have HW := Lib.hid how
                      clear how hbw HP5 HCK HAX HROW HSI HAE HGT3 HVB HFT
                      go_wp2_with fail
                      go_loopw [13] (fun i wr => ∃ (k : Nat) (V4 : Nat → Nat → Nat → Int), k ≤ t.ng + 1 ∧ i = .int .i64 k ∧ PS w wr #[.slice u.ca t.nc u.cc, .slice u.ba t.nb u.bc, .slice u.ra t.nr u.rc, .slice u.na t.nn u.nc] #[.slice fa0 t.ng fc, .slice (some ⟨bb, 0, none⟩) (c + 1) bc', .slice (some ⟨db, 0, none⟩) (c + 1) dc', .slice (some ⟨mb, 0, none⟩) (c + 1) mc'] (.slice (some ⟨db, 0, none⟩) (c + 1) dc') (c + 1) ((List.range (c + 1)).map (R' 2)) (.slice (some ⟨mb, 0, none⟩) (c + 1) mc') (c + 1) ((List.range (c + 1)).map (R' 3)) (c + 1) (c + 1) R' L' V4 ∧ (∀ k j, ¬ (k = 2 ∧ j = c) → V4 k j = V' k j) ∧ (∀ j, j < k → 0 ≤ V4 2 c j ∧ V4 2 c j ≤ max 0 (A j)) ∧ wr.ownsRow wz.heap.size 3 1 (.slice (some ⟨ab, 0, none⟩) (t.ng + 1) ac) (t.ng + 1) (iL A (t.ng + 1))) (fun i _ => t.ng + 1 - (intOf i).toNat)
                      case atStart => exact ⟨0, V', Nat.zero_le _, rfl, HP6.out, fun _ _ _ => rfl, fun _ h => absurd h (Nat.not_lt_zero _), HW.out⟩
                      case round =>
                        clear HP6 HW
                        obtain ⟨k, V4, hk, rfl, hps, hsame, hfit, how⟩ := hrel
                        have HP5 := Lib.hid hps; have HSM := Lib.hid hsame; have HFT := Lib.hid hfit; have HW := Lib.hid how
                        clear hps hsame hfit how
                        have ki' : (0 : Int) ≤ (k : Int) := by omega
                        by_cases hlk : k < t.ng + 1
                        · have kj' : (k : Int) < (t.ng : Int) + 1 := by omega
                          have kjn : (k : Int) < ((t.ng + 1 : Nat) : Int) := by omega
                          obtain ⟨br, or', hra, hbr, x0, x1⟩ := HRR.out.at (k := k) (by rw [HNR.out]; exact hlk)
                          obtain ⟨p', q', HPQ2⟩ : ∃ p q, Hid (t.r k = (p, q)) := ⟨_, _, rfl⟩
                          have hpq := HT.out.r k (by rw [HNR.out]; exact hlk)
                          rw [HPQ2.out] at x0 x1 hpq
                          simp only at x0 x1 hpq
                          obtain ⟨hpq1, hpq2, hpq3⟩ := hpq
                          have kr : (k : Int) < (t.nr : Int) := by rw [HNR.out]; omega
                          obtain ⟨a, HA0⟩ : ∃ a, Hid (A k = a) := ⟨_, rfl⟩
                          have hab := HAB.out k hlk
                          rw [HA0.out] at hab
                          obtain ⟨m, hmx⟩ : ∃ m, max 0 a = m := ⟨_, rfl⟩
                          have hm1 : 0 ≤ m := by omega
                          have hm2 : m ≤ 1000000 := by omega
                          obtain ⟨e1, e2, HDE⟩ : ∃ e1 e2, Hid (deadT (p', q') m = (e1, e2)) := ⟨_, _, rfl⟩
                          have hde := deadR_le (r := (p', q')) (n := m) hpq1 hpq2 hpq3 hm1
                          rw [← deadT_pos (r := (p', q')) hm1 hpq1 (show 0 ≤ q' by omega), HDE.out] at hde
                          simp only at hde
                          obtain ⟨hde1, hde2, hde3⟩ := hde
                          obtain ⟨wd, HWV⟩ : ∃ wd, Hid (wordF nw z (5 * (c : Int) + (k : Int) + 11) = wd) := ⟨_, rfl⟩
                          have hwd := HWB.out (5 * (c : Int) + (k : Int) + 11)
                          rw [HWV.out] at hwd
                          obtain ⟨v', HV⟩ : ∃ v, Hid (pickI e1 e2 wd = v) := ⟨_, rfl⟩
                          have hv := in_pick (v := wd) hde2
                          rw [HV.out] at hv
                          obtain ⟨hwd1, hwd2⟩ := hwd; obtain ⟨hv1', hv2'⟩ := hv
                          have wi1 : IntKind.i64.wrap (5 * (c : Int)) = 5 * (c : Int) := IntWalk.i64_in _ (by omega)
                          have wi2 : IntKind.i64.wrap (5 * (c : Int) + (k : Int)) = 5 * (c : Int) + (k : Int) := IntWalk.i64_in _ (by omega)
                          have wi3 : IntKind.i64.wrap (5 * (c : Int) + (k : Int) + 11) = 5 * (c : Int) + (k : Int) + 11 := IntWalk.i64_in _ (by omega)
                          have ko : (c : Int) < (c : Int) + 1 := by omega
                          have HCK : Hid (∀ X, Below wr.heap.size wr X → X.cell? ⟨w.heap.size + 2, 2, none⟩ = some (.slice (some ⟨db, 0, none⟩) (c + 1) dc') ∧ X.cell? ⟨db, c, none⟩ = some (.slice (some ⟨dz, 0, none⟩) (t.ng + 1) (t.ng + 1)) ∧ X.cell? ⟨ab, k, none⟩ = some (.int .i64 a) ∧ X.cell? ⟨w.heap.size, 2, none⟩ = some (.slice (some ⟨br, or', none⟩) t.nr u.rc) ∧ X.cell? ⟨br, or' + k * 2, none⟩ = some (.int .i64 p') ∧ X.cell? ⟨br, or' + k * 2 + 1, none⟩ = some (.int .i64 q')) := fun X hX => ⟨(HP5.out.below hX).bf.cell (.head _) 2, ((HP5.out.below hX).d.cellAt c (by omega)).trans (by rw [map_get (by omega), HR2'.out]), ((own_below HW.out hX).cellAt k (by omega)).trans (by rw [iL_get _ hlk, HA0.out]), by rw [← hra]; exact (HP5.out.below hX).bf.cell (.tail _ (.tail _ (.head _))) 2, kept (HP5.out.below hX).bf.fr hbr x0, kept (HP5.out.below hX).bf.fr hbr x1⟩
                          clear hra hbr x0 x1
                          go_wp2_with fail
                          have HAX : Hid (Below wr.heap.size wr wr.drew) := (Below.refl _ _).drew
                          refine wp_region_Z (S := fun X => X.cell? ⟨w.heap.size + 2, 2, none⟩ = some (.slice (some ⟨db, 0, none⟩) (c + 1) dc') ∧ X.cell? ⟨db, c, none⟩ = some (.slice (some ⟨dz, 0, none⟩) (t.ng + 1) (t.ng + 1)) ∧ X.cell? ⟨ab, k, none⟩ = some (.int .i64 a) ∧ X.cell? ⟨w.heap.size, 2, none⟩ = some (.slice (some ⟨br, or', none⟩) t.nr u.rc) ∧ X.cell? ⟨br, or' + k * 2, none⟩ = some (.int .i64 p') ∧ X.cell? ⟨br, or' + k * 2 + 1, none⟩ = some (.int .i64 q')) (by kernel_rfl) (HCK.out _ HAX.out) (fun hS => ?_)
                          generalize wr.drew = X at *
                          refine tk [0, 1, 2, 3, 4, 5, 6, 7, 8, 9] ?_
                          repeat (refine tkZ (oi := ⟨_, _, _, _, _, _⟩) (v := ?_) rfl (by kernel_rfl) (by rfl) (fun _ _ _ h => h) hS ?_ ?_; rotate_left; (· rintro W' ⟨z0, z1, z2, z3, z4, z5⟩; go_simp; try with_reducible rfl); try simp only [Act.put, putA, putZ, putS])
                          refine tk0 ?_
                          refine tZ 10 (oi := ⟨_, _, _, _, _, _⟩) (v := .int .i64 m) rfl (by kernel_rfl) (by rfl) (fun _ _ _ h => h) hS ?_ ?_
                          · intro W' hSw; (try dsimp only at hSw); obtain ⟨z0, z1, z2, z3, z4, z5⟩ := hSw; go_simp; (try (split <;> omega))
                          try simp only [Act.put, putA, putZ, putS]
                          refine tk [11, 12, 13, 14, 15, 17, 18, 19, 20, 21, 22] ?_
                          repeat (refine tkZ (oi := ⟨_, _, _, _, _, _⟩) (v := ?_) rfl (by kernel_rfl) (by rfl) (fun _ _ _ h => h) hS ?_ ?_; rotate_left; (· rintro W' ⟨z0, z1, z2, z3, z4, z5⟩; go_simp; try with_reducible rfl); try simp only [Act.put, putA, putZ, putS])
                          refine tk0 ?_
                          refine wpAnyZ_next (rs := [16]) (by kernel_rfl) (by simp) ?_
                          refine NextZ.cons (o := ⟨some 154, _, _, _, _, _⟩) rfl (fun K hK => ?_) NextZ.nil
                          go_simp
                          refine (rDead_any m p' q' X (by omega) (by omega) hpq1 (by omega) (by omega) hpq3).mono ?_
                          rw [show deadT (p', q') m = (e1, e2) from HDE.out]
                          rintro _ X0 ⟨rfl, hb0⟩
                          (try go_wp2_with fail)
                          have HA0 : Hid (Below wr.heap.size wr X0) := below_step HAX.out hb0
                          refine hK.out _ _ (HCK.out X0 HA0.out) (fun hS => ?_)
                          clear hK K
                          try simp only [Act.put, putA, putZ, putS]
                          clear hb0
                          refine wpAnyZ_next (rs := [23]) (by kernel_rfl) (by simp) ?_
                          refine NextZ.cons (o := ⟨some 161, _, _, _, _, _⟩) rfl (fun K hK => ?_) NextZ.nil
                          go_simp
                          refine (HWD.out X0 (5 * (c : Int) + (k : Int) + 11) (HP5.out.below HA0.out).bf.fr (by omega) (by omega)).mono ?_
                          rw [HWV.out]
                          rintro _ X1 ⟨rfl, rfl⟩
                          (try go_wp2_with fail)
                          refine hK.out _ _ (HCK.out X0 HA0.out) (fun hS => ?_)
                          clear hK K
                          try simp only [Act.put, putA, putZ, putS]
                          refine wpAnyZ_next (rs := [24]) (by kernel_rfl) (by simp) ?_
                          refine NextZ.cons (o := ⟨some 162, _, _, _, _, _⟩) rfl (fun K hK => ?_) NextZ.nil
                          go_simp
                          refine (picked_any e1 e2 wd X0 hwd1 hwd2 hde2 (by omega) (by omega)).mono ?_
                          rw [HV.out]
                          rintro _ X2 ⟨rfl, hb2⟩
                          (try go_wp2_with fail)
                          have HA2 : Hid (Below wr.heap.size wr X2) := below_step HA0.out hb2
                          refine hK.out _ _ (HCK.out X2 HA2.out) (fun hS => ?_)
                          clear hK K
                          try simp only [Act.put, putA, putZ, putS]
                          clear hb2
                          refine tZ 25 (oi := ⟨_, _, _, _, _, _⟩) (v := ?_) rfl (by kernel_rfl) (by rfl) (fun _ _ _ h => h) hS ?_ ?_
                          rotate_left
                          · rintro W' ⟨z0, z1, z2, z3, z4, z5⟩; go_simp; try with_reducible rfl
                          try simp only [Act.put, putA, putZ, putS]
                          refine wpAnyZ_next (rs := [26]) (by kernel_rfl) (by simp) ?_
                          refine NextZ.last (o := ⟨none, _, _, _, _, _⟩) rfl (by kernel_rfl) (fun K hK => ?_)
                          have hrow := (HP5.out.below HA2.out).ir.own 2 c (.inr (.inr (.inl ⟨rfl, by omega⟩)))
                          rw [HR2'.out, HL2'.out] at hrow
                          have e0 := (hrow.cellAt k (by omega)).trans (iL_get _ hlk)
                          have f0 := hrow.frozenAt k
                          have HPN := Lib.hid ((HP5.out.below HA2.out).storeD (k := 2) (j := c) (i := k) (v := v') (.inr (.inr (.inl ⟨rfl, by omega⟩))) HR2'.out (by rw [HL2'.out]; exact hlk))
                          have HWN : Hid ((X2.setCell ⟨dz, k, none⟩ (.int .i64 v')).ownsRow wz.heap.size 3 1 (.slice (some ⟨ab, 0, none⟩) (t.ng + 1) ac) (t.ng + 1) (iL A (t.ng + 1))) := own_fr (own_below HW.out HA2.out) (Fr.set X2 dz k (.int .i64 v')) (fun g cur _ hb _ e => by have := HDZ.out; omega)
                          clear hrow
                          go_simp
                          refine hK.out _ _ ?_
                          clear hK K e0 f0
                          (try simp only [Act.put])
                          refine wpAnyZ_done (by kernel_rfl) ?_ _
                          go_wp2_with fail
                          go_roundw
                          case rel => exact ⟨k + 1, upd V4 2 c (fun q => if q = k then v' else V4 2 c q), by omega, by go_num, HPN.out, fun k' j' h => (upd_ne _ _ h).trans (HSM.out k' j' h), fun j hj => by
                            rw [upd_eq]
                            by_cases e : j = k
                            · subst e; rw [if_pos rfl, HA0.out]; omega
                            · rw [if_neg e]; exact HFT.out j (by omega), HWN.out⟩
                          case measure => simp [intOf]; omega
                        · obtain rfl : k = t.ng + 1 := by omega
                          rw [show ((t.ng + 1 : Nat) : Int) = (t.ng : Int) + 1 from by omega]
                          go_wp2_with fail
                          go_roundw
                          case rel => exact ⟨c + 1, some ⟨db, 0, none⟩, dc', some ⟨mb, 0, none⟩, mc', R', L', V4, by omega, by go_num, HL10'.out, HAE0.out V4 HSM.out HFT.out, by rw [HR00'.out, HR10'.out]; exact HP5.out⟩
                          case measure => simp [intOf]; omega
        · obtain rfl : c = t.nb := by omega
          have d0 : wr.cell? ⟨w.heap.size + 1 + 1, 0, none⟩ = some (.slice fa0 t.ng fc) := HP5.out.bf.cell (.head _) 0
          have d1 : wr.cell? ⟨w.heap.size + 1 + 1, 1, none⟩ = some (.slice ba t.nb bc) := HP5.out.bf.cell (.head _) 1
          have d2 : wr.cell? ⟨w.heap.size + 1 + 1, 2, none⟩ = some (.slice da t.nb dc) := HP5.out.bf.cell (.head _) 2
          have d3 : wr.cell? ⟨w.heap.size + 1 + 1, 3, none⟩ = some (.slice ma t.nb mc) := HP5.out.bf.cell (.head _) 3
          have r0 : wr.cell? ⟨w.heap.size + 1, 0, none⟩ = some (.slice none 0 0) := HP5.out.bf.cell (.tail _ (.head _)) 0
          have r1 : wr.cell? ⟨w.heap.size + 1, 1, none⟩ = some (.slice none 0 0) := HP5.out.bf.cell (.tail _ (.head _)) 1
          have r2 : wr.cell? ⟨w.heap.size + 1, 2, none⟩ = some (.slice none 0 0) := HP5.out.bf.cell (.tail _ (.head _)) 2
          have r3 : wr.cell? ⟨w.heap.size + 1, 3, none⟩ = some (.slice none 0 0) := HP5.out.bf.cell (.tail _ (.head _)) 3
          have f0 := HP5.out.bf.thaw (.tail _ (.head _)) 0
          have f1 := HP5.out.bf.thaw (.tail _ (.head _)) 1
          have f2 := HP5.out.bf.thaw (.tail _ (.head _)) 2
          have f3 := HP5.out.bf.thaw (.tail _ (.head _)) 3
          go_wp2_with fail
          have hst := set4h (HP5.out.bf.bk _ _ _ (.tail _ (.head _))).2 (.slice fa0 t.ng fc) (.slice ba t.nb bc) (.slice da t.nb dc) (.slice ma t.nb mc)
          have hfin := HP5.out.final (HR0.out.trans (by rw [show len 0 0 = t.ng from HGT.out.nf])) (HR.out.trans (by rw [HL.out])) hst.2
          have q0 := cell_of_row _ _ 0 _ _ _ hst.1
          have q1 := cell_of_row _ _ 1 _ _ _ hst.1
          have q2 := cell_of_row _ _ 2 _ _ _ hst.1
          have q3 := cell_of_row _ _ 3 _ _ _ hst.1
          have HFX := Lib.hid hfin
          clear hst hfin d0 d1 d2 d3 r0 r1 r2 r3 f0 f1 f2 f3 c0 c1 c2 c3 HO5 HP5
          generalize ((((wr.setCell ⟨w.heap.size + 1, 0, none⟩ (.slice fa0 t.ng fc)).setCell ⟨w.heap.size + 1, 1, none⟩ (.slice ba t.nb bc)).setCell ⟨w.heap.size + 1, 2, none⟩ (.slice da t.nb dc)).setCell ⟨w.heap.size + 1, 3, none⟩ (.slice ma t.nb mc)) = wf at *
          refine bodyPost_ret (v := .agg #[.slice fa0 t.ng fc, .slice ba t.nb bc, .slice da t.nb dc, .slice ma t.nb mc]) (by simp [results, Try.results54, go_sem, q0, q1, q2, q3]) rfl ⟨⟨fa0, fc, ba, bc, da, dc, ma, mc⟩, trOf t.nb t.nb len val, ?_, HFX.out.1 _ (Abv.refl _ _), HGT.out, HL.out, rfl, rfl, HFX.out.2, HFX.out.1⟩
          show Ending.returned (.agg #[.slice fa0 t.ng fc, .slice ba t.nb bc, .slice da t.nb dc, .slice ma t.nb mc]) = Ending.returned (.agg #[.slice fa0 (len 0 0) fc, .slice ba (len 1 0) bc, .slice da t.nb dc, .slice ma t.nb mc])
          rw [HL.out, show len 0 0 = t.ng from HGT.out.nf]

end Go.Proofs.Ytjaoflfophcibaa
