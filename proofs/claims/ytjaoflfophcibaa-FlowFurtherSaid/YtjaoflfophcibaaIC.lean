/- Own rows beside each other; a narrower table as FlowNarrower makes it. -/
import Derived.Test.YtjaoflfophcibaaHU
import Derived.Test.YtjaoflfophcibaaHZ
import Derived.Test.YtjaoflfophcibaaIB
namespace Go.Proofs.Ytjaoflfophcibaa
open Go.RowKit Go.Shelf

/-- Own rows. -/
structure OR where
  T : TypeId
  sz : Nat
  v : Value
  n : Nat
  xs : List Value
structure Rws (base : Nat) (X : World) (L : List OR) : Prop where
  own : ∀ (i : Nat) (p : OR), L[i]? = some p → X.ownsRow base p.T p.sz p.v p.n p.xs
  dis : ∀ (i j : Nat) (p q : OR), i ≠ j → L[i]? = some p → L[j]? = some q → ∀ k, p.v.ownBlock = some k → q.v.ownBlock ≠ some k
section
variable {base : Nat} {w X Y : World} {L : List OR} {Lb : List (Nat × Array Value × TypeId)}
theorem Rws.below (h : Rws base X L) (hb : Below X.heap.size X Y) : Rws base Y L := ⟨fun i p hp => own_below (h.own i p hp) hb, h.dis⟩
theorem Rws.fro {ex : Nat → Prop} (h : Rws base X L) (hf : Fr ex X Y) (hx : ∀ (i : Nat) (p : OR), L[i]? = some p → ∀ k, p.v.ownBlock = some k → ¬ ex k) : Rws base Y L :=
  ⟨fun i p hp => own_fr (h.own i p hp) hf (fun g _ e _ _ => hx i p hp g e), h.dis⟩
theorem Rws.tab {B : Nat} {cs : Array Value} {T : TypeId} (h : Rws base X L) (hB : X.heap[B]? = some (.cells cs T (0, 0))) (hT : ∀ p, p ∈ L → T ≠ p.T) (hf : Fr (fun k => k = B) X Y) : Rws base Y L :=
  h.fro hf (fun i p hp k e1 e2 => by subst e2; exact own_type_ne (h.own i p hp) hB (hT p (List.mem_of_getElem? hp)) e1)
theorem Rws.made (h : Rws base X L) (hb : base ≤ X.heap.size) (i : Nat) (T : TypeId) (sz : Nat) : Rws base (X.alloc (.cells #[] T)) (L.set i ⟨T, sz, .slice (some ⟨X.heap.size, 0, none⟩) 0 0, 0, []⟩) := by
  have h1 := h.below (below_alloc X (.cells #[] T))
  have hlt : ∀ (j : Nat) (p : OR), L[j]? = some p → ∀ k, p.v.ownBlock = some k → k < X.heap.size := fun j p hp k e => own_lt (h.own j p hp) e
  refine ⟨fun j p hp => ?_, fun j j' p q hne hp hq k e1 e2 => ?_⟩
  · rw [List.getElem?_set] at hp
    by_cases e : i = j
    · rw [if_pos e] at hp
      split at hp
      · cases hp
        exact ⟨by simp, .inr ⟨X.heap.size, 0, #[], rfl, hb, heap_alloc_new _ _, Nat.le_refl _, by unfold maxLen; omega, by simp, by simp⟩⟩
      · cases hp
    · rw [if_neg e] at hp
      exact h1.own j p hp
  · rw [List.getElem?_set] at hp hq
    by_cases e : i = j
    · rw [if_pos e] at hp
      rw [if_neg (show ¬ i = j' by omega)] at hq
      split at hp
      · cases hp
        have e1 : X.heap.size = k := Option.some.inj e1
        have := hlt j' q hq k e2
        omega
      · cases hp
    · rw [if_neg e] at hp
      by_cases e' : i = j'
      · rw [if_pos e'] at hq
        split at hq
        · cases hq
          have e2 : X.heap.size = k := Option.some.inj e2
          have := hlt j p hp k e1
          omega
        · cases hq
      · rw [if_neg e'] at hq
        exact h.dis j j' p q hne hp hq k e1 e2
theorem Rws.app {i sz n : Nat} {T : TypeId} {v v' : Value} {xs : List Value} (h : Rws base X L) (hi : L[i]? = some ⟨T, sz, v, 0, []⟩) (ho : Y.ownsRow base T sz v' n xs) (hg : X.grownBy Y v.ownBlock) (hl : v'.ownBlock = v.ownBlock ∨ v'.ownBlock = some X.heap.size) :
    Rws base Y (L.set i ⟨T, sz, v', n, xs⟩) := by
  have hlt : ∀ (j : Nat) (p : OR), L[j]? = some p → ∀ k, p.v.ownBlock = some k → k < X.heap.size := fun j p hp k e => own_lt (h.own j p hp) e
  have hne : ∀ (j : Nat) (p : OR), i ≠ j → L[j]? = some p → ∀ k, p.v.ownBlock = some k → v'.ownBlock ≠ some k := fun j p hne hp k e1 e2 => by
    rcases hl with e | e
    · exact h.dis i j _ p hne hi hp k (by rw [← e]; exact e2) e1
    · rw [e] at e2
      have e2 := Option.some.inj e2
      have := hlt j p hp k e1
      omega
  refine ⟨fun j p hp => ?_, fun j j' p q hjj hp hq k e1 e2 => ?_⟩
  · rw [List.getElem?_set] at hp
    by_cases e : i = j
    · rw [if_pos e] at hp
      split at hp
      · cases hp; exact ho
      · cases hp
    · rw [if_neg e] at hp
      exact own_fr (h.own j p hp) (Fr.grown hg) (fun k _ e1 _ _ e2 => h.dis i j _ p e hi hp k e2 e1)
  · rw [List.getElem?_set] at hp hq
    by_cases e : i = j
    · rw [if_pos e] at hp
      rw [if_neg (show ¬ i = j' by omega)] at hq
      split at hp
      · cases hp; exact hne j' q (by omega) hq k e2 e1
      · cases hp
    · rw [if_neg e] at hp
      by_cases e' : i = j'
      · rw [if_pos e'] at hq
        split at hq
        · cases hq; exact hne j p e hp k e1 e2
        · cases hq
      · rw [if_neg e'] at hq
        exact h.dis j j' p q hjj hp hq k e1 e2
theorem Rws.put {i sz b c n j : Nat} {T : TypeId} {xs : List Value} (h : Rws base X L) (hi : L[i]? = some ⟨T, sz, .slice (some ⟨b, 0, none⟩) n c, n, xs⟩) (u : Value) :
    Rws base (X.setCell ⟨b, j, none⟩ u) (L.set i ⟨T, sz, .slice (some ⟨b, 0, none⟩) n c, n, xs.set j u⟩) := by
  refine ⟨fun q p hp => ?_, fun q q' p p' hqq hp hp' k e1 e2 => ?_⟩
  · rw [List.getElem?_set] at hp
    by_cases e : i = q
    · rw [if_pos e] at hp
      split at hp
      · cases hp; exact ((h.own i _ hi).stored j u).1
      · cases hp
    · rw [if_neg e] at hp
      exact own_fr (h.own q p hp) (Fr.set X b j u) (fun k _ e1 _ _ e2 => by subst e2; exact h.dis i q _ p e hi hp k rfl e1)
  · rw [List.getElem?_set] at hp hp'
    by_cases e : i = q
    · rw [if_pos e] at hp
      rw [if_neg (show ¬ i = q' by omega)] at hp'
      split at hp
      · cases hp; exact h.dis i q' _ p' (by omega) hi hp' k e1 e2
      · cases hp
    · rw [if_neg e] at hp
      by_cases e' : i = q'
      · rw [if_pos e'] at hp'
        split at hp'
        · cases hp'; exact h.dis q i p _ (by omega) hp hi k e1 e2
        · cases hp'
      · rw [if_neg e'] at hp'
        exact h.dis q q' p p' hqq hp hp' k e1 e2
theorem BF.grow {i sz n : Nat} {T : TypeId} {v : Value} {xs : List Value} (hA : BF w X Lb) (h : Rws base X L) (hi : L[i]? = some ⟨T, sz, v, n, xs⟩) (hT : ∀ p, p ∈ Lb → p.2.2 ≠ T) (hw : w.heap.size ≤ base) (hg : X.grownBy Y v.ownBlock) : BF w Y Lb :=
  hA.fro (Fr.grown hg) (fun q hq e => by have := own_low (h.own i _ hi) e; omega) (fun p hp e => own_type_ne (h.own i _ hi) (hA.bk p.1 p.2.1 p.2.2 hp).2 (hT p hp) e)
theorem BF.put {i sz b c n j : Nat} {T : TypeId} {xs : List Value} {u : Value} (hA : BF w X Lb) (h : Rws base X L) (hi : L[i]? = some ⟨T, sz, .slice (some ⟨b, 0, none⟩) n c, n, xs⟩) (hT : ∀ p, p ∈ Lb → p.2.2 ≠ T) (hw : w.heap.size ≤ base) : BF w (X.setCell ⟨b, j, none⟩ u) Lb :=
  hA.fro (Fr.set X b j u) (fun q hq e => by have := own_low (h.own i _ hi) (q := b) rfl; subst e; omega) (fun p hp e => own_type_ne (h.own i _ hi) (hA.bk p.1 p.2.1 p.2.2 hp).2 (hT p hp) (show some b = some p.1 by rw [e]))
end
theorem Rws.start {base : Nat} {X : World} {T T' : TypeId} {sz sz' n n' : Nat} {v v' : Value} {xs xs' : List Value} (h : X.ownsRow base T sz v n xs) (h' : X.ownsRow base T' sz' v' n' xs') (hT : T ≠ T') :
    Rws base X [⟨T, sz, v, n, xs⟩, ⟨T, sz, .slice none 0 0, 0, []⟩, ⟨T, sz, .slice none 0 0, 0, []⟩, ⟨T, sz, .slice none 0 0, 0, []⟩, ⟨T', sz', v', n', xs'⟩] := by
  have hn : X.ownsRow base T sz (.slice none 0 0) 0 [] := ⟨by simp, .inl ⟨rfl, rfl⟩⟩
  have hd : ∀ k, v.ownBlock = some k → v'.ownBlock ≠ some k := fun k e1 e2 => by
    rcases h.2 with ⟨rfl, _⟩ | ⟨g, cap, cur, rfl, _, hc, _⟩
    · cases e1
    · cases e1; exact own_type_ne h' hc hT e2
  refine ⟨fun i p hp => ?_, fun i j p q hne hp hq k e1 e2 => ?_⟩
  · match i, hp with
    | 0, hp => cases hp; exact h
    | 1, hp => cases hp; exact hn
    | 2, hp => cases hp; exact hn
    | 3, hp => cases hp; exact hn
    | 4, hp => cases hp; exact h'
    | i + 5, hp => cases hp
  · match i, hp with
    | 0, hp =>
      cases hp
      match j, hq with
      | 0, _ => exact hne rfl
      | 1, hq => cases hq; cases e2
      | 2, hq => cases hq; cases e2
      | 3, hq => cases hq; cases e2
      | 4, hq => cases hq; exact hd k e1 e2
      | j + 5, hq => cases hq
    | 1, hp => cases hp; cases e1
    | 2, hp => cases hp; cases e1
    | 3, hp => cases hp; cases e1
    | 4, hp =>
      cases hp
      match j, hq with
      | 0, hq => cases hq; exact hd k e2 e1
      | 1, hq => cases hq; cases e2
      | 2, hq => cases hq; cases e2
      | 3, hq => cases hq; cases e2
      | 4, _ => exact hne rfl
      | j + 5, hq => cases hq
    | i + 5, hp => cases hp
theorem inside_of {r : R2} {a b : Int} (h : a ≤ r.1 ∧ r.1 ≤ r.2 ∧ r.2 ≤ b) : insideR r a b = true := by
  unfold insideR
  rw [decide_eq_true h.1, decide_eq_true h.2.1, decide_eq_true h.2.2]; rfl
theorem Okt.fault0 {t : Tb} (h : Okt t) : t.fault = 0 := by
  have := h.nc4; have := h.ng4; have := h.nb
  have hrow : ∀ q, q < t.nc → t.rowOk q = true := fun q hq => by
    unfold Tb.rowOk
    rw [h.rl q hq, allB_true (p := fun g => isCountR (t.ct q g)) (fun g hg => inside_of (h.ct q g hq hg))]
    simp
  unfold Tb.fault
  rw [if_neg (by omega), if_pos]
  unfold Tb.okAll
  rw [allB_true hrow, allB_true (p := fun j => isCountR (t.b j)) (fun j hj => inside_of (h.b j hj)), allB_true (p := fun j => isRateR (t.r j)) (fun j hj => inside_of (h.r j hj)), allB_true (p := fun j => isNetR (t.n j)) (fun j hj => inside_of (h.n j hj)), decide_eq_true h.ng2, decide_eq_true (by omega : (t.nb : Int) = t.nc - 1), decide_eq_true h.nr, decide_eq_true h.nn]
  rfl
/-- A table with other rows. -/
def Tb.with4 (y : Tb) (R0 Rb Rr Rn : Nat → R2) : Tb := { y with ct := fun c g => if c = 0 then R0 g else y.ct c g, b := Rb, r := Rr, n := Rn }
def NarR (n : Nat) (R S : Nat → R2) : Prop := ∀ g, subI (R g) (S g) ∧ (g < n → (R g).1 ≤ (R g).2)
theorem nar_with4 {y : Tb} {R0 Rb Rr Rn : Nat → R2} (hy : Okt y) (h0 : NarR y.ng R0 (y.ct 0)) (hb : NarR y.nb Rb y.b) (hr : NarR y.nr Rr y.r) (hn : NarR y.nn Rn y.n) : Nar (y.with4 R0 Rb Rr Rn) y ∧ Okt (y.with4 R0 Rb Rr Rn) := by
  have hct : ∀ c g, subI (if c = 0 then R0 g else y.ct c g) (y.ct c g) := fun c g => by
    by_cases e : c = 0
    · subst e; rw [if_pos rfl]; exact (h0 g).1
    · rw [if_neg e]; exact ⟨Int.le_refl _, Int.le_refl _⟩
  refine ⟨⟨rfl, rfl, hct, fun c => (hb c).1, fun c => (hr c).1, fun c => (hn c).1⟩, ⟨hy.nc1, hy.nc4, hy.ng2, hy.ng4, hy.nb, hy.nr, hy.nn, hy.rl, fun c g hc hg => ?_, fun c hc => ?_, fun c hc => ?_, fun c hc => ?_⟩⟩
  · have h1 := hy.ct c g hc hg
    have h2 := hct c g
    show 0 ≤ (if c = 0 then R0 g else y.ct c g).1 ∧ (if c = 0 then R0 g else y.ct c g).1 ≤ (if c = 0 then R0 g else y.ct c g).2 ∧ (if c = 0 then R0 g else y.ct c g).2 ≤ 500
    unfold subI at h2
    by_cases e : c = 0
    · have h3 := (h0 g).2 hg
      rw [if_pos e] at h2 ⊢
      omega
    · rw [if_neg e]; exact h1
  · have h1 := hy.b c hc
    obtain ⟨h2, h3⟩ := hb c
    have h3 := h3 hc
    unfold subI at h2
    show 0 ≤ (Rb c).1 ∧ (Rb c).1 ≤ (Rb c).2 ∧ (Rb c).2 ≤ 500
    omega
  · have h1 := hy.r c hc
    obtain ⟨h2, h3⟩ := hr c
    have h3 := h3 hc
    unfold subI at h2
    show 0 ≤ (Rr c).1 ∧ (Rr c).1 ≤ (Rr c).2 ∧ (Rr c).2 ≤ 1000
    omega
  · have h1 := hy.n c hc
    obtain ⟨h2, h3⟩ := hn c
    have h3 := h3 hc
    unfold subI at h2
    show -50 ≤ (Rn c).1 ∧ (Rn c).1 ≤ (Rn c).2 ∧ (Rn c).2 ≤ 50
    omega
theorem NarR.refl {n : Nat} {R : Nat → R2} (h : ∀ g, g < n → (R g).1 ≤ (R g).2) : NarR n R R := fun g => ⟨⟨Int.le_refl _, Int.le_refl _⟩, h g⟩
theorem NarR.upd {n j : Nat} {R : Nat → R2} (h : ∀ g, g < n → (R g).1 ≤ (R g).2) {a b : Int} (h1 : (R j).1 ≤ a) (h2 : a ≤ b) (h3 : b ≤ (R j).2) : NarR n (fun g => if g = j then (a, b) else R g) R := fun g => by
  simp only
  by_cases e : g = j
  · subst e; rw [if_pos rfl]; exact ⟨⟨h1, h3⟩, fun _ => h2⟩
  · rw [if_neg e]; exact ⟨⟨Int.le_refl _, Int.le_refl _⟩, h g⟩
/-- The rows of a copy: row 0, those of the other lists, the header. -/
def rows5 (y : Tb) (vb vc nb nc2 : Nat) (F : Nat → Value) (v1 v2 v3 : Value) (n1 n2 n3 : Nat) (x1 x2 x3 : List Value) (R0 : List Value) : List OR :=
  [⟨43, 2, .slice (some ⟨nb, 0, none⟩) y.ng nc2, y.ng, R0⟩, ⟨43, 2, v1, n1, x1⟩, ⟨43, 2, v2, n2, x2⟩, ⟨43, 2, v3, n3, x3⟩, ⟨23, 1, .slice (some ⟨vb, 0, none⟩) y.nc vc, y.nc, ((List.range y.nc).map F).set 0 (.slice (some ⟨nb, 0, none⟩) y.ng nc2)⟩]
theorem with_same (v : WV) (y : Tb) (o1 o2 : Int) (w0 w : World) (hl : WLi w0 v y) (hw : Below w0.heap.size w0 w) (hy : Okt y) (ho : y.ct 0 0 = (o1, o2)) :
    Calls Try.prog 40 #[.agg #[v.cv y, v.bv y, v.rv y, v.nv y], .int .i64 0, .int .i64 0, .agg #[.int .i64 o1, .int .i64 o2]] w fun e w' => ∃ vb vc nb nc2 F, e = .returned (.agg #[.slice (some ⟨vb, 0, none⟩) y.nc vc, v.bv y, v.rv y, v.nv y]) ∧
      Rws w0.heap.size w' (rows5 y vb vc nb nc2 F (.slice none 0 0) (.slice none 0 0) (.slice none 0 0) 0 0 0 [] [] [] (flatR (y.ct 0) y.ng)) ∧ (∀ j, j < y.nc → RsIn w0 (F j) y.ng (y.ct j)) ∧ Below w.heap.size w w' := by
  have h1 := hy.nc1; have h2 := hy.nc4; have h3 := hy.ng2; have h4 := hy.ng4
  have h5 := hy.rl 0 (by omega)
  refine (with_row v y 0 0 o1 o2 w0 w hl hw (by omega) (by omega) (by omega) (by omega)).mono ?_
  rintro _ w' ⟨vb, vc, nb, nc2, F, rfl, ho', hn, hF, hb⟩
  have e : (fun g' => if g' = 0 then (o1, o2) else y.ct 0 g') = y.ct 0 := by
    funext g'
    by_cases e : g' = 0
    · subst e; rw [if_pos rfl]; exact ho.symm
    · rw [if_neg e]
  rw [e, h5] at hn
  rw [h5] at ho'
  exact ⟨vb, vc, nb, nc2, F, rfl, Rws.start (own_mono hn hw.size) (own_mono ho' hw.size) (by decide), fun j hj => by have := hF j hj; rw [hy.rl j hj] at this; exact this, hb⟩
/-- The table of such rows. -/
theorem rows5_wli {w0 X : World} {y : Tb} {vb vc nb nc2 : Nat} {F : Nat → Value} {a1 a2 a3 : Option Addr} {c1 c2 c3 : Nat} {R0 Rb Rr Rn : Nat → R2} (hy : Okt y)
    (h : Rws w0.heap.size X (rows5 y vb vc nb nc2 F (.slice a1 y.nb c1) (.slice a2 y.nr c2) (.slice a3 y.nn c3) y.nb y.nr y.nn (flatR Rb y.nb) (flatR Rr y.nr) (flatR Rn y.nn) (flatR R0 y.ng))) (hF : ∀ j, j < y.nc → RsIn w0 (F j) y.ng (y.ct j)) (hX : Below w0.heap.size w0 X) :
    WLi X ⟨some ⟨vb, 0, none⟩, vc, a1, c1, a2, c2, a3, c3⟩ (y.with4 R0 Rb Rr Rn) := by
  have h1 := hy.nc1
  have h5 := hy.rl 0 (by omega)
  have o4 := h.own 4 _ rfl
  simp only at o4
  rw [← h5] at o4
  have o0 := (RsAt.ownT (h.own 0 _ rfl)).toIn
  simp only at o0
  rw [← h5] at o0
  exact ⟨WithR.wli (t := y) (c := 0) hX o4 o0 (fun j hj => by rw [hy.rl j hj]; exact hF j hj) (by omega), (RsAt.ownT (h.own 1 _ rfl)).toIn, (RsAt.ownT (h.own 2 _ rfl)).toIn, (RsAt.ownT (h.own 3 _ rfl)).toIn⟩
def rowF (y : Tb) : Nat → Nat → R2
  | 0 => y.ct 0
  | 1 => y.b
  | 2 => y.r
  | _ => y.n
/-- The row that is made narrower. -/
structure Pick (y : Tb) (L : List OR) (i b j n c : Nat) (R : Nat → R2) : Prop where
  i4 : i < 4
  req : R = rowF y i
  row : L[i]? = some ⟨43, 2, .slice (some ⟨b, 0, none⟩) n c, n, flatR R n⟩
  lt : j < n
  bd : -50 ≤ (R j).1 ∧ (R j).1 ≤ (R j).2 ∧ (R j).2 ≤ 1000
theorem pick_narrow {w0 X : World} {y : Tb} {vb vc nb nc2 : Nat} {F : Nat → Value} {a1 a2 a3 : Option Addr} {c1 c2 c3 : Nat} (hy : Okt y) {L : List OR} (hL : L = rows5 y vb vc nb nc2 F (.slice a1 y.nb c1) (.slice a2 y.nr c2) (.slice a3 y.nn c3) y.nb y.nr y.nn (flatR y.b y.nb) (flatR y.r y.nr) (flatR y.n y.nn) (flatR (y.ct 0) y.ng))
    {i b j n c : Nat} {R : Nat → R2} (hp : Pick y L i b j n c R) {p q : Int} (h1 : (R j).1 ≤ p) (h2 : p ≤ q) (h3 : q ≤ (R j).2)
    (h : Rws w0.heap.size X (L.set i ⟨43, 2, .slice (some ⟨b, 0, none⟩) n c, n, ((flatR R n).set (j * 2) (.int .i64 p)).set (j * 2 + 1) (.int .i64 q)⟩)) (hF : ∀ j, j < y.nc → RsIn w0 (F j) y.ng (y.ct j)) (hX : Below w0.heap.size w0 X) :
    ∃ x : Tb, Nar x y ∧ Okt x ∧ WLi X ⟨some ⟨vb, 0, none⟩, vc, a1, c1, a2, c2, a3, c3⟩ x ∧ x.nb = y.nb ∧ x.nr = y.nr ∧ x.nn = y.nn ∧ x.small = y.small := by
  rw [flatR_upd R p q n j hp.lt] at h
  have hk := hp.row
  have hlt := hp.lt
  have k0 : ∀ g, g < y.ng → (y.ct 0 g).1 ≤ (y.ct 0 g).2 := fun g hg => (hy.ct 0 g hy.nc1 hg).2.1
  have k1 : ∀ g, g < y.nb → (y.b g).1 ≤ (y.b g).2 := fun g hg => (hy.b g hg).2.1
  have k2 : ∀ g, g < y.nr → (y.r g).1 ≤ (y.r g).2 := fun g hg => (hy.r g hg).2.1
  have k3 : ∀ g, g < y.nn → (y.n g).1 ≤ (y.n g).2 := fun g hg => (hy.n g hg).2.1
  have hfin : ∀ R0 Rb Rr Rn, NarR y.ng R0 (y.ct 0) → NarR y.nb Rb y.b → NarR y.nr Rr y.r → NarR y.nn Rn y.n → Rws w0.heap.size X (rows5 y vb vc nb nc2 F (.slice a1 y.nb c1) (.slice a2 y.nr c2) (.slice a3 y.nn c3) y.nb y.nr y.nn (flatR Rb y.nb) (flatR Rr y.nr) (flatR Rn y.nn) (flatR R0 y.ng)) → ∃ x : Tb, Nar x y ∧ Okt x ∧ WLi X ⟨some ⟨vb, 0, none⟩, vc, a1, c1, a2, c2, a3, c3⟩ x ∧ x.nb = y.nb ∧ x.nr = y.nr ∧ x.nn = y.nn ∧ x.small = y.small := fun R0 Rb Rr Rn h0 h1 h2 h3 h => by
    obtain ⟨a, b⟩ := nar_with4 hy h0 h1 h2 h3
    exact ⟨_, a, b, rows5_wli hy h hF hX, rfl, rfl, rfl, rfl⟩
  have i4 := hp.i4
  have e : i = 0 ∨ i = 1 ∨ i = 2 ∨ i = 3 := by omega
  subst hL
  have hr := hp.req
  rcases e with rfl | rfl | rfl | rfl
  · subst hr
    simp only [rows5, List.getElem?_cons_zero, Option.some.injEq, OR.mk.injEq, Value.slice.injEq, true_and] at hk
    obtain ⟨⟨ea, _, ec⟩, en, _⟩ := hk
    subst en
    subst ec
    cases ea
    exact hfin _ _ _ _ (NarR.upd k0 h1 h2 h3) (NarR.refl k1) (NarR.refl k2) (NarR.refl k3) h
  · subst hr
    simp only [rows5, List.getElem?_cons_zero, List.getElem?_cons_succ, Option.some.injEq, OR.mk.injEq, Value.slice.injEq, true_and] at hk
    obtain ⟨⟨ea, _, ec⟩, en, _⟩ := hk
    subst en
    subst ec
    subst ea
    exact hfin _ _ _ _ (NarR.refl k0) (NarR.upd k1 h1 h2 h3) (NarR.refl k2) (NarR.refl k3) h
  · subst hr
    simp only [rows5, List.getElem?_cons_zero, List.getElem?_cons_succ, Option.some.injEq, OR.mk.injEq, Value.slice.injEq, true_and] at hk
    obtain ⟨⟨ea, _, ec⟩, en, _⟩ := hk
    subst en
    subst ec
    subst ea
    exact hfin _ _ _ _ (NarR.refl k0) (NarR.refl k1) (NarR.upd k2 h1 h2 h3) (NarR.refl k3) h
  · subst hr
    simp only [rows5, List.getElem?_cons_zero, List.getElem?_cons_succ, Option.some.injEq, OR.mk.injEq, Value.slice.injEq, true_and] at hk
    obtain ⟨⟨ea, _, ec⟩, en, _⟩ := hk
    subst en
    subst ec
    subst ea
    exact hfin _ _ _ _ (NarR.refl k0) (NarR.refl k1) (NarR.refl k2) (NarR.upd k3 h1 h2 h3) h
/-- What the bounds of a narrower table tell. -/
theorem nar_wide {x y : Tb} (hN : Nar x y) (hx : Okt x) (hy : Okt y) (ha : x.agree off0 = true) : y.agree off0 = true ∧ widerB x.nc y.nc (fun _ => x.ng) (fun _ => y.ng) (bndR x off0) (bndR y off0) = true := by
  refine ⟨nar_agree hN hx hy ha, ?_⟩
  have e := hN.nc; have e2 := hN.ng
  rw [← e, ← e2]
  refine widerB_of (fun i hi => ⟨rfl, fun k hk => ?_⟩)
  have h := nar_bnd hN hx hy ha (c := i) (g := k) hi hk
  exact ⟨h.1, h.2⟩
end Go.Proofs.Ytjaoflfophcibaa
