/- file: a person with the days of birth that its records allow. -/
import Derived.Test.YtagfcfojfjkmbaaC1
namespace Go.Proofs.Ytagfcfojfjkmbaa
open Go.RowKit Go.Shelf

/-- The days of birth that some ages allow on a day, the greatest ages first. -/
def foldR (day : Int) (xs : List BR) : RL := xs.foldl (fun l x => ext l (day - 365 * x.1.2 - 364) (day - 365 * x.1.1)) []
theorem foldR_snoc (day : Int) (xs : List BR) (x : BR) : foldR day (xs ++ [x]) = ext (foldR day xs) (day - 365 * x.1.2 - 364) (day - 365 * x.1.1) := by simp [foldR]
def Pers.rl (p : Pers) (j : Nat) : Rl := p.R (p.C j).rule.toNat
def Pers.allow (p : Pers) (j : Nat) : RL := foldR (p.C j).day (yearsL (ageRs (p.rl j).f (p.rl j).b (p.rl j).m (p.rl j).e (p.C j).num))

theorem ext_bdS (l : RL) (lo hi B : Int) (h : ∀ r ∈ l, -B ≤ r.1 ∧ r.1 ≤ B ∧ -B ≤ r.2 ∧ r.2 ≤ B) (h0 : -B ≤ lo) (h1 : lo ≤ B) (h2 : -B ≤ hi) (h3 : hi ≤ B) : ∀ r ∈ ext l lo hi, -B ≤ r.1 ∧ r.1 ≤ B ∧ -B ≤ r.2 ∧ r.2 ≤ B := by
  intro r hr
  rcases List.eq_nil_or_concat l with rfl | ⟨l0, ⟨a, b⟩, rfl⟩
  · simp [ext] at hr; subst hr; exact ⟨h0, h1, h2, h3⟩
  · rw [List.concat_eq_append] at *
    have hb := h (a, b) (by simp)
    simp only at hb
    have he : ext (l0 ++ [(a, b)]) lo hi = if lo ≤ b + 1 then l0 ++ [(a, max b hi)] else (l0 ++ [(a, b)]) ++ [(lo, hi)] := by simp [ext]
    rw [he] at hr
    split at hr
    · rcases List.mem_append.1 hr with h4 | h4
      · exact h r (by simp [h4])
      · simp at h4; subst h4; simp only; omega
    · rcases List.mem_append.1 hr with h4 | h4
      · exact h r h4
      · simp at h4; subst h4; exact ⟨h0, h1, h2, h3⟩
theorem foldR_facts (day : Int) (h1 : -50000 ≤ day) (h2 : day ≤ 50000) (n : Nat) : ∀ xs : List BR, xs.length = n → (foldR day xs).length ≤ n ∧ ∀ r ∈ foldR day xs, -900000000 ≤ r.1 ∧ r.1 ≤ 900000000 ∧ -900000000 ≤ r.2 ∧ r.2 ≤ 900000000 := by
  induction n with
  | zero => intro xs hx; have : xs = [] := List.eq_nil_of_length_eq_zero hx
            subst this; simp [foldR]
  | succ n ih =>
    intro xs hx
    rcases List.eq_nil_or_concat xs with rfl | ⟨l0, x, rfl⟩
    · simp at hx
    · rw [List.concat_eq_append] at *
      obtain ⟨i1, i2⟩ := ih l0 (by simpa using hx)
      rw [foldR_snoc]
      have hb := x.2
      refine ⟨by have := ext_length (foldR day l0) (day - 365 * x.1.2 - 364) (day - 365 * x.1.1); omega, ext_bdS _ _ _ _ i2 (by omega) (by omega) (by omega) (by omega)⟩

/-- Worlds that agree but for some blocks and new ones. -/
structure Fr (ex : Nat → Prop) (W W' : World) : Prop where
  os : W'.os = W.os
  tape : W'.tape = W.tape
  output : W'.output = W.output
  size : W.heap.size ≤ W'.heap.size
  block : ∀ k, k < W.heap.size → ¬ ex k → W'.heap[k]? = W.heap[k]?
theorem Fr.refl (ex : Nat → Prop) (W : World) : Fr ex W W := ⟨rfl, rfl, rfl, Nat.le_refl _, fun _ _ _ => rfl⟩
theorem Fr.trans {ex : Nat → Prop} {A B C : World} (h : Fr ex A B) (k : Fr ex B C) : Fr ex A C :=
  ⟨k.os.trans h.os, k.tape.trans h.tape, k.output.trans h.output, Nat.le_trans h.size k.size, fun q hq he => (k.block q (Nat.lt_of_lt_of_le hq h.size) he).trans (h.block q hq he)⟩
theorem Fr.mono {ex ex' : Nat → Prop} {A B : World} (h : Fr ex A B) (hx : ∀ k, k < A.heap.size → ex k → ex' k) : Fr ex' A B :=
  ⟨h.os, h.tape, h.output, h.size, fun q hq he => h.block q hq (fun e => he (hx q hq e))⟩
theorem Fr.below {A B : World} (h : Below A.heap.size A B) (ex : Nat → Prop) : Fr ex A B := ⟨h.os, h.tape, h.output, h.size, fun q hq _ => h.block q hq⟩
theorem Fr.grown {A B : World} {row : Option Nat} (h : A.grownBy B row) : Fr (fun k => row = some k) A B := ⟨h.os, h.tape, h.output, h.size, fun q hq he => h.block q hq (fun e => he e.symm)⟩
theorem Fr.put (A : World) (l : Nat) (o : Obj) : Fr (fun k => k = l) A (A.putObj l o) := ⟨rfl, rfl, rfl, by simp, fun _ _ he => World.putObj_heap_other he⟩
theorem Fr.set (A : World) (b : Nat) (off : Nat) (v : Value) : Fr (fun k => k = b) A (A.setCell ⟨b, off, none⟩ v) := by
  refine ⟨rfl, rfl, rfl, by simp, fun k hk he => ?_⟩
  simp only [World.setCell]
  rw [Array.getElem?_modify, if_neg (fun e => he e.symm)]
theorem Fr.low {ex : Nat → Prop} {A B : World} {n : Nat} (h : Fr ex A B) (hn : n ≤ A.heap.size) (hx : ∀ k, k < n → ¬ ex k) : Below n A B := ⟨h.os, h.tape, h.output, h.size, fun q hq => h.block q (by omega) (hx q hq)⟩

/-- The marks of loops that are over, on the way out: the last one first. -/
def Marks (W : World) (B : Nat) : Nat → List Deferred → Prop
  | _, [] => True
  | U, d :: ds => ∃ D, B ≤ D ∧ D < U ∧ d = { target := .collected D, args := #[] } ∧ W.heap[D]? = some (.deferred (some [])) ∧ Marks W B D ds
theorem Marks.mono {W W' : World} {B : Nat} : ∀ (ds : List Deferred) {U U' : Nat}, Marks W B U ds → U ≤ U' → (∀ D, D < U → W.heap[D]? = some (.deferred (some [])) → W'.heap[D]? = some (.deferred (some []))) → Marks W' B U' ds
  | [], _, _, _, _, _ => trivial
  | _ :: ds, _, _, ⟨D, h1, h2, h3, h4, h5⟩, hU, hk => ⟨D, h1, by omega, h3, hk D h2 h4, Marks.mono ds h5 (Nat.le_refl _) (fun E hE => hk E (by omega))⟩
theorem leaves_marks {P : Program} {n : Nat} {fn : Func} {tmps : Array Value} {R : Ending → World → Prop} {B : Nat} (I : World → Prop)
    (hI : ∀ W l o', I W → B ≤ l → W.heap[l]? = some (.deferred (some [])) → I (W.putObj l o')) (hend : ∀ W, I W → LeavesInM Fence.wide n P fn tmps R [] .returning W) :
    ∀ (ds : List Deferred) (U : Nat) (W : World), Marks W B U ds → I W → LeavesInM Fence.wide n P fn tmps R ds .returning W
  | [], _, W, _, hw => hend W hw
  | _ :: ds, _, W, ⟨D, h1, h2, h3, h4, h5⟩, hw => by
    subst h3
    refine ⟨by simp, .inl ⟨_, _, rfl, run_takeDeferred h4, ?_⟩⟩
    refine leaves_marks I hI hend ds D _ (Marks.mono ds h5 (Nat.le_refl _) (fun E hE hd => ?_)) (hI W D _ hw h1 h4)
    rw [World.putObj_heap_other (by omega)]; exact hd

/-- Before the k-th record. -/
def FI (w : World) (p : Pers) (rv cv : Value) (k : Nat) (ds : List Deferred) (W : World) : Prop :=
  Below w.heap.size w W ∧ W.heap[w.heap.size]? = some (.cells #[.int .i64 p.lo, .int .i64 p.hi, rv, cv] 45 (0, 0)) ∧ Marks W (w.heap.size + 2) W.heap.size ds ∧
  ∃ av svs, W.heap[w.heap.size + 1]? = some (.cells #[.int .i64 p.lo, .int .i64 p.hi, rv, cv, av] 124 (0, 0)) ∧ W.ownsRow (w.heap.size + 2) 38 1 av k ((List.range k).map svs) ∧ ∀ j, j < k → RS W (w.heap.size + 2) (svs j) (p.allow j)

theorem RS.fr {ex : Nat → Prop} {W W' : World} {base : Nat} {v : Value} {l : RL} (h : RS W base v l) (hf : Fr ex W W') (hx : ∀ g cur, v.ownBlock = some g → base ≤ g → W.heap[g]? = some (.cells cur 41 (0, 0)) → ¬ ex g) : RS W' base v l := by
  unfold RS at *
  refine ⟨h.1, ?_⟩
  rcases h.2 with h | ⟨g, cap, cur, rfl, hg, hc, r⟩
  · exact .inl h
  · exact .inr ⟨g, cap, cur, rfl, hg, (hf.block _ (Array.getElem?_eq_some_iff.1 hc).1 (hx g cur rfl hg hc)).trans hc, r⟩

theorem FI.next {w : World} {p : Pers} {rv cv : Value} {k : Nat} {ds : List Deferred} {W W' : World} {av av' lv : Value} {svs : Nat → Value} {D : Nat}
    (h1 : Below w.heap.size w W) (h2 : W.heap[w.heap.size]? = some (.cells #[.int .i64 p.lo, .int .i64 p.hi, rv, cv] 45 (0, 0))) (h3 : Marks W (w.heap.size + 2) W.heap.size ds)
    (h4 : W.heap[w.heap.size + 1]? = some (.cells #[.int .i64 p.lo, .int .i64 p.hi, rv, cv, av] 124 (0, 0))) (h5 : W.ownsRow (w.heap.size + 2) 38 1 av k ((List.range k).map svs)) (h6 : ∀ j, j < k → RS W (w.heap.size + 2) (svs j) (p.allow j))
    (hf : Fr (fun q => q = w.heap.size + 1 ∨ av.ownBlock = some q) W W') (hF : W'.heap[w.heap.size + 1]? = some (.cells #[.int .i64 p.lo, .int .i64 p.hi, rv, cv, av'] 124 (0, 0)))
    (ho : W'.ownsRow (w.heap.size + 2) 38 1 av' (k + 1) ((List.range k).map svs ++ [lv])) (hl : RS W' (w.heap.size + 2) lv (p.allow k))
    (hD : W.heap.size ≤ D) (hD' : W'.heap[D]? = some (.deferred (some []))) : FI w p rv cv (k + 1) ({ target := .collected D, args := #[] } :: ds) W' := by
  have hav : ∀ q, av.ownBlock = some q → w.heap.size + 2 ≤ q ∧ ∃ cur, W.heap[q]? = some (.cells cur 38 (0, 0)) := fun q hq => by
    rcases h5.2 with ⟨rfl, _⟩ | ⟨g, cap, cur, rfl, hg, hc, _⟩
    · cases hq
    · cases hq; exact ⟨hg, cur, hc⟩
  have hs2 := (Array.getElem?_eq_some_iff.1 h4).1
  refine ⟨h1.trans (hf.low (by omega) ?_), ?_, ?_, av', fun j => if j < k then svs j else lv, hF, ?_, ?_⟩
  · rintro q hq (rfl | h)
    · omega
    · have := (hav q h).1; omega
  · refine (hf.block _ (by omega) ?_).trans h2
    rintro (h | h)
    · omega
    · have := (hav _ h).1; omega
  · refine ⟨D, by omega, (Array.getElem?_eq_some_iff.1 hD').1, rfl, hD', Marks.mono ds h3 hD (fun E hE hd => (hf.block E hE ?_).trans hd)⟩
    rintro (rfl | h)
    · rw [h4] at hd; cases hd
    · obtain ⟨_, cur, hc⟩ := hav _ h; rw [hc] at hd; cases hd
  · have e : (List.range (k + 1)).map (fun j => if j < k then svs j else lv) = (List.range k).map svs ++ [lv] := by
      rw [List.range_succ, List.map_append]
      congr 1
      · exact List.map_congr_left fun j hj => by rw [if_pos (by simpa using hj)]
      · simp
    rw [e]; exact ho
  · intro j hj
    by_cases hjk : j < k
    · simp only [if_pos hjk]
      refine (h6 j hjk).fr hf ?_
      rintro g cur _ hg hc (rfl | h)
      · omega
      · obtain ⟨_, cur', hc'⟩ := hav _ h; rw [hc] at hc'; injection hc' with e; injection e with _ e2; exact absurd e2 (by decide)
    · obtain rfl : j = k := by omega
      simp only [if_neg hjk]; exact hl

/-- What the file of a person is. -/
def FileAt (W : World) (F : Nat) (p : Pers) : Prop :=
  ∃ rv cv av svs, W.heap[F]? = some (.cells #[.int .i64 p.lo, .int .i64 p.hi, rv, cv, av] 124 (0, 0)) ∧ (∃ a cap, cv = .slice a p.nc cap) ∧ W.ownsRow 0 38 1 av p.nc ((List.range p.nc).map svs) ∧ ∀ j, j < p.nc → RS W 0 (svs j) (p.allow j)
def GivesFile (w : World) (p : Pers) (e : Ending) (w' : World) : Prop := ∃ F, e = .returned (.pointer (some ⟨F, 0, none⟩)) ∧ FileAt w' F p ∧ Below w.heap.size w w'

/-- In the rounds over the ages of a record. -/
def YI (Bl : Nat) (day : Int) (Wb : World) (pre : List BR) (W : World) : Prop :=
  ∃ lv, W.heap[Bl]? = some (.cells #[lv] 38 (0, 0)) ∧ RS W Wb.heap.size lv (foldR day pre) ∧ Fr (fun q => q = Bl) Wb W
theorem YI.own (Bl : Nat) (day : Int) (Wb : World) : OwnFrom Wb.heap.size (YI Bl day Wb) := by
  rintro s W W' row ⟨lv, h1, h2, h3⟩ hg hr
  have hne : ∀ q c t fr, W.heap[q]? = some (.cells c t fr) → ¬ row = some q := fun q c t fr hq e => by
    obtain ⟨_, o, ho, hc⟩ := hr q e; rw [hq] at ho; cases ho; cases hc
  have hg' := Fr.grown hg
  refine ⟨lv, (hg'.block _ (Array.getElem?_eq_some_iff.1 h1).1 (hne _ _ _ _ h1)).trans h1, h2.fr hg' (fun g cur _ _ hc => hne _ _ _ _ hc), ?_⟩
  refine ⟨hg'.os.trans h3.os, hg'.tape.trans h3.tape, hg'.output.trans h3.output, Nat.le_trans h3.size hg'.size, fun q hq he => ?_⟩
  exact (hg'.block q (Nat.lt_of_lt_of_le hq h3.size) (fun e => by have := (hr q e).1; omega)).trans (h3.block q hq he)
end Go.Proofs.Ytagfcfojfjkmbaa
