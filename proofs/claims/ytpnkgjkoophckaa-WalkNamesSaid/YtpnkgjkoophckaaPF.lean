/- Walk: plans in memory; what is wrong with a plan (plain). By hand. | Walk, plain: a route takes at least as long as the quickest tour; right plans are divisions; the best plan is right. By hand. | Walk: the law's Plan and Backs, small, Short. Printed by gen_zi.py. | Walk: the reference's Faults. Printed by gen_zj.py. | Walk: the program's plan, Faults, ProvePlan. Printed by gen_zk.py. -/
import Derived.Test.YtpnkgjkoophckaaPD
import Derived.Test.YtpnkgjkoophckaaPC
namespace Go.Proofs.Ytpnkgjkoophckaa
open Go.RowKit Go.Shelf

/-- Walks in memory. -/
def PsIn (w : World) (sv : Value) (n : Nat) (U : Nat → LV) (Y : Nat → Wl) : Prop :=
  (∃ a cap, sv = .slice a 0 cap ∧ n = 0) ∨ ∃ b off cap, sv = .slice (some ⟨b, off, none⟩) n cap ∧ b < w.heap.size ∧ ∀ j, j < n →
    w.cell? ⟨b, off + j * 2, none⟩ = some (.slice (U j).ra (Y j).nl (U j).rc) ∧ w.cell? ⟨b, off + j * 2 + 1, none⟩ = some (.slice (U j).ca (Y j).nc (U j).cc)
theorem PsIn.below {w w' : World} {sv : Value} {n : Nat} {U : Nat → LV} {Y : Nat → Wl} (h : PsIn w sv n U Y) (hB : Below w.heap.size w w') : PsIn w' sv n U Y := by
  rcases h with h | ⟨b, off, cap, rfl, hb, hz⟩
  · exact .inl h
  · exact .inr ⟨b, off, cap, rfl, Nat.lt_of_lt_of_le hb hB.size, fun j hj => ⟨kept hB hb (hz j hj).1, kept hB hb (hz j hj).2⟩⟩
theorem PsIn.at {w : World} {a : Option Addr} {n cap : Nat} {U : Nat → LV} {Y : Nat → Wl} (h : PsIn w (.slice a n cap) n U Y) {k : Nat} (hk : k < n) : ∃ b off, a = some ⟨b, off, none⟩ ∧ b < w.heap.size ∧ w.cell? ⟨b, off + k * 2, none⟩ = some (.slice (U k).ra (Y k).nl (U k).rc) ∧ w.cell? ⟨b, off + k * 2 + 1, none⟩ = some (.slice (U k).ca (Y k).nc (U k).cc) := by
  rcases h with ⟨_, _, _, h⟩ | ⟨b', o', c', e, hb, hz⟩
  · omega
  · cases e; exact ⟨_, _, rfl, hb, hz k hk⟩
/-- A plan in memory. -/
structure PlIn (w : World) (sv : Value) (n : Nat) (U : Nat → LV) (Y : Nat → Wl) : Prop where
  ps : PsIn w sv n U Y
  wl : ∀ k, k < n → WlIn w (U k) (Y k)
theorem PlIn.below {w w' : World} {sv : Value} {n : Nat} {U : Nat → LV} {Y : Nat → Wl} (h : PlIn w sv n U Y) (hB : Below w.heap.size w w') : PlIn w' sv n U Y := ⟨h.ps.below hB, fun k hk => (h.wl k hk).below hB⟩
theorem PlIn.congr {w : World} {sv : Value} {n : Nat} {U : Nat → LV} {Y Y' : Nat → Wl} (h : PlIn w sv n U Y) (he : ∀ k, k < n → Y k = Y' k) : PlIn w sv n U Y' := by
  refine ⟨?_, fun k hk => he k hk ▸ h.wl k hk⟩
  rcases h.ps with h | ⟨b, off, cap, e, hb, hz⟩
  · exact .inl h
  · exact .inr ⟨b, off, cap, e, hb, fun j hj => he j hj ▸ hz j hj⟩
/-- The cells of a plan that was made. -/
def flU (U : Nat → LV) (Y : Nat → Wl) (n : Nat) : List Value := (List.range n).flatMap fun k => [.slice (U k).ra (Y k).nl (U k).rc, .slice (U k).ca (Y k).nc (U k).cc]
theorem flU_succ (U : Nat → LV) (Y : Nat → Wl) (n : Nat) : flU U Y (n + 1) = flU U Y n ++ [.slice (U n).ra (Y n).nl (U n).rc, .slice (U n).ca (Y n).nc (U n).cc] := by
  unfold flU; rw [List.range_succ, List.flatMap_append]; rfl
theorem flU_length (U : Nat → LV) (Y : Nat → Wl) (n : Nat) : (flU U Y n).length = n * 2 := by
  induction n with
  | zero => rfl
  | succ n ih => rw [flU_succ, List.length_append, ih]; simp; omega
theorem flU_get (U : Nat → LV) (Y : Nat → Wl) (n k : Nat) (h : k < n) : (flU U Y n)[k * 2]? = some (.slice (U k).ra (Y k).nl (U k).rc) ∧ (flU U Y n)[k * 2 + 1]? = some (.slice (U k).ca (Y k).nc (U k).cc) := by
  induction n with
  | zero => omega
  | succ n ih =>
    rw [flU_succ]
    have hl := flU_length U Y n
    rcases Nat.lt_succ_iff_lt_or_eq.1 h with h | rfl
    · rw [List.getElem?_append_left (by omega), List.getElem?_append_left (by omega)]; exact ih h
    · rw [List.getElem?_append_right (by omega), List.getElem?_append_right (by omega), hl]
      simp
theorem flU_congr {U U' : Nat → LV} {Y Y' : Nat → Wl} {n : Nat} (h : ∀ k, k < n → U k = U' k ∧ Y k = Y' k) : flU U Y n = flU U' Y' n := by
  induction n with
  | zero => rfl
  | succ n ih => rw [flU_succ, flU_succ, ih (fun k hk => h k (by omega)), (h n (by omega)).1, (h n (by omega)).2]
/-- A walk whose lists were made since a world of this size. -/
def WlO (base : Nat) (X : World) (u : LV) (y : Wl) : Prop := X.ownsRow base 3 1 (.slice u.ra y.nl u.rc) y.nl (iL y.rt y.nl) ∧ X.ownsRow base 3 1 (.slice u.ca y.nc u.cc) y.nc (iL y.ct y.nc)
theorem WlO.fr {base : Nat} {X Y : World} {u : LV} {y : Wl} {ex : Nat → Prop} (h : WlO base X u y) (hf : Fr ex X Y) (hx : ∀ b cs, X.heap[b]? = some (.cells cs 3 (0, 0)) → ¬ ex b) : WlO base Y u y :=
  ⟨own_fr h.1 hf (fun g cur _ _ hc => hx g cur hc), own_fr h.2 hf (fun g cur _ _ hc => hx g cur hc)⟩
theorem WlO.below {base : Nat} {X Y : World} {u : LV} {y : Wl} (h : WlO base X u y) (hb : Below X.heap.size X Y) : WlO base Y u y := ⟨own_below h.1 hb, own_below h.2 hb⟩
theorem WlO.wl {base : Nat} {X : World} {u : LV} {y : Wl} (h : WlO base X u y) : WlIn X u y := ⟨(IntsAt.own h.1).toIn, (IntsAt.own h.2).toIn⟩
structure PlO (base : Nat) (X : World) (T : TypeId) (sv : Value) (n : Nat) (U : Nat → LV) (Y : Nat → Wl) : Prop where
  row : X.ownsRow base T 2 sv n (flU U Y n)
  wl : ∀ k, k < n → WlO base X (U k) (Y k)
theorem PlO.pl {base : Nat} {X : World} {T : TypeId} {sv : Value} {n : Nat} {U : Nat → LV} {Y : Nat → Wl} (h : PlO base X T sv n U Y) : PlIn X sv n U Y := by
  refine ⟨?_, fun k hk => (h.wl k hk).wl⟩
  rcases h.row.2 with ⟨rfl, rfl⟩ | ⟨g, cap, cur, rfl, _, hg, _⟩
  · exact .inl ⟨none, 0, rfl, rfl⟩
  · refine .inr ⟨g, 0, cap, rfl, (Array.getElem?_eq_some_iff.1 hg).1, fun j hj => ?_⟩
    obtain ⟨h0, h1⟩ := flU_get U Y n j hj
    rw [Nat.zero_add]
    exact ⟨(h.row.cellAt _ (by omega)).trans h0, (h.row.cellAt _ (by omega)).trans h1⟩
theorem PlO.below {base : Nat} {X X' : World} {T : TypeId} {sv : Value} {n : Nat} {U : Nat → LV} {Y : Nat → Wl} (h : PlO base X T sv n U Y) (hb : Below X.heap.size X X') : PlO base X' T sv n U Y := ⟨own_below h.row hb, fun k hk => (h.wl k hk).below hb⟩
theorem PlO.mono {base base' : Nat} {X : World} {T : TypeId} {sv : Value} {n : Nat} {U : Nat → LV} {Y : Nat → Wl} (h : PlO base X T sv n U Y) (hb : base' ≤ base) : PlO base' X T sv n U Y := ⟨own_mono h.row hb, fun k hk => ⟨own_mono (h.wl k hk).1 hb, own_mono (h.wl k hk).2 hb⟩⟩
/-- One walk more: the row grew. -/
def putU (U : Nat → LV) (k : Nat) (u : LV) (j : Nat) : LV := if j = k then u else U j
theorem PlO.snoc {base : Nat} {X X' : World} {T : TypeId} {sv v' : Value} {k : Nat} {U : Nat → LV} {Y : Nat → Wl} {u : LV} (hT : T ≠ 3) (h : PlO base X T sv k U Y) (hu : WlO base X u (Y k)) (ho : X'.ownsRow base T 2 v' (k + 1) (flU U Y k ++ [.slice u.ra (Y k).nl u.rc, .slice u.ca (Y k).nc u.cc])) (hg : X.grownBy X' sv.ownBlock) : PlO base X' T v' (k + 1) (putU U k u) Y := by
  have hne : ∀ b cs, X.heap[b]? = some (.cells cs 3 (0, 0)) → ¬ sv.ownBlock = some b := fun b cs hb => own_type_ne h.row hb (fun e => hT e.symm)
  refine ⟨own_cast ho rfl ?_, fun j hj => ?_⟩
  · rw [flU_succ]
    have e : putU U k u k = u := if_pos rfl
    rw [e, flU_congr (U := putU U k u) (U' := U) (Y := Y) (Y' := Y) (fun j hj => ⟨if_neg (by omega), rfl⟩)]
  · by_cases e : j = k
    · subst e
      have e : putU U j u j = u := if_pos rfl
      rw [e]
      exact hu.fr (Fr.grown hg) hne
    · have e : putU U k u j = U j := if_neg e
      rw [e]
      exact (h.wl j (by omega)).fr (Fr.grown hg) hne
theorem PlO.nil (base : Nat) (X : World) (T : TypeId) (U : Nat → LV) (Y : Nat → Wl) : PlO base X T (.slice none 0 0) 0 U Y := ⟨World.ownsRow_nil _ _ _ _, fun k hk => by omega⟩
/-- The program's plans. -/
def uQ (Q : List TQ) (k : Nat) : LV := (Q.getD k (⟨none, 0, none, 0⟩, [], [])).1
theorem flQ_flU (m : Mp) : ∀ (Q : List TQ) (D : List Nat), Q.map (fun q => q.2) = D.map (fun s => (tourL m s, plc s)) → flQ Q = flU (uQ Q) (fun k => tourY m (D.getD k 0)) Q.length ∧ ∀ k (h : k < Q.length), ∃ h' : k < D.length, Q[k].2 = (tourL m D[k], plc D[k]) := by
  intro Q D h
  have hl : Q.length = D.length := by simpa using congrArg List.length h
  have hk : ∀ k (h : k < Q.length), ∃ h' : k < D.length, Q[k].2 = (tourL m D[k], plc D[k]) := fun k hk => by
    refine ⟨by omega, ?_⟩
    have := congrArg (fun l => l[k]?) h
    simp only [List.getElem?_map, List.getElem?_eq_getElem hk, List.getElem?_eq_getElem (show k < D.length by omega), Option.map_some] at this
    exact Option.some.inj this
  refine ⟨?_, hk⟩
  have e : Q = (List.range Q.length).map (fun k => Q.getD k (⟨none, 0, none, 0⟩, [], [])) := by
    refine List.ext_getElem (by simp) fun k h1 h2 => ?_
    rw [List.getElem_map, List.getElem_range, List.getD_eq_getElem?_getD, List.getElem?_eq_getElem h1]
    rfl
  unfold flQ flU
  conv => lhs; rw [e]
  rw [List.flatMap_map]
  rw [List.flatMap_def, List.flatMap_def]
  congr 1
  refine List.map_congr_left fun k hkr => ?_
  have hq := List.mem_range.1 hkr
  obtain ⟨hd, h2⟩ := hk k hq
  have e1 : Q.getD k (⟨none, 0, none, 0⟩, [], []) = Q[k] := by rw [List.getD_eq_getElem?_getD, List.getElem?_eq_getElem hq]; rfl
  have e2 : D.getD k 0 = D[k] := by rw [List.getD_eq_getElem?_getD, List.getElem?_eq_getElem hd]; rfl
  unfold uQ
  simp only [tourY, e1, e2]
  rw [h2]
theorem nL_iL (L : List Nat) : nL L = iL (zL L) L.length := by
  unfold nL iL zL
  refine List.ext_getElem (by simp) fun k h1 h2 => ?_
  simp only [List.getElem_map, List.getElem_range]
  rw [List.getD_eq_getElem?_getD, List.getElem?_eq_getElem (by simpa using h1)]
  rfl
theorem PlO.ofQ {m : Mp} {base : Nat} {X : World} {sv : Value} {Q : List TQ} {D : List Nat} (hD : Q.map (fun q => q.2) = D.map (fun s => (tourL m s, plc s))) (hr : X.ownsRow base 30 2 sv Q.length (flQ Q)) (hq : ∀ q, q ∈ Q → TqO base X q) : PlO base X 30 sv Q.length (uQ Q) (fun k => tourY m (D.getD k 0)) := by
  obtain ⟨h1, h2⟩ := flQ_flU m Q D hD
  refine ⟨by rw [← h1]; exact hr, fun k hk => ?_⟩
  obtain ⟨hd, h3⟩ := h2 k hk
  have ho := hq Q[k] (List.getElem_mem _)
  unfold TqO at ho
  rw [h3, nL_iL, nL_iL] at ho
  have e1 : Q.getD k (⟨none, 0, none, 0⟩, [], []) = Q[k] := by rw [List.getD_eq_getElem?_getD, List.getElem?_eq_getElem hk]; rfl
  have e2 : D.getD k 0 = D[k] := by rw [List.getD_eq_getElem?_getD, List.getElem?_eq_getElem hd]; rfl
  unfold WlO uQ
  simp only [tourY, e1, e2]
  exact ho
/-- How many walks count a place. -/
def cntY (Y : Nat → Wl) (i : Int) : Nat → Nat
  | 0 => 0
  | k + 1 => cntY Y i k + (if hasB (Y k).ct (Y k).nc i = true then 1 else 0)
theorem cntY_le (Y : Nat → Wl) (i : Int) : ∀ k, cntY Y i k ≤ k
  | 0 => Nat.le_refl _
  | k + 1 => by have := cntY_le Y i k; unfold cntY; split <;> omega
def misL (Y : Nat → Wl) (n k : Nat) : List Nat := (List.range k).filter fun i => decide (cntY Y (i : Nat) n = 0)
def twiL (Y : Nat → Wl) (n k : Nat) : List Nat := (List.range k).filter fun i => decide (1 < cntY Y (i : Nat) n)
/-- The longest time of a walk. -/
def lgY (m : Mp) (y : Wl) : Int := timeZ m y (fun i => (m.wk i).2) (fun i => (m.rt i).2)
def latL (m : Mp) (Y : Nat → Wl) (lim : Int) (k : Nat) : List Nat := (List.range k).filter fun j => decide (lim < lgY m (Y j))
theorem filter_snoc {p : Nat → Bool} (k : Nat) : (List.range (k + 1)).filter p = if p k = true then (List.range k).filter p ++ [k] else (List.range k).filter p := by
  rw [List.range_succ, List.filter_append]
  by_cases h : p k = true <;> simp [h]
theorem misL_succ (Y : Nat → Wl) (n k : Nat) : misL Y n (k + 1) = if cntY Y (k : Nat) n = 0 then misL Y n k ++ [k] else misL Y n k := by
  unfold misL
  rw [filter_snoc]
  by_cases h : cntY Y (k : Nat) n = 0 <;> simp [h]
theorem twiL_succ (Y : Nat → Wl) (n k : Nat) : twiL Y n (k + 1) = if 1 < cntY Y (k : Nat) n then twiL Y n k ++ [k] else twiL Y n k := by
  unfold twiL
  rw [filter_snoc]
  by_cases h : 1 < cntY Y (k : Nat) n <;> simp [h]
theorem latL_succ (m : Mp) (Y : Nat → Wl) (lim : Int) (k : Nat) : latL m Y lim (k + 1) = if lim < lgY m (Y k) then latL m Y lim k ++ [k] else latL m Y lim k := by
  unfold latL
  rw [filter_snoc]
  by_cases h : lim < lgY m (Y k) <;> simp [h]
theorem misL_len (Y : Nat → Wl) (n k : Nat) : (misL Y n k).length ≤ k := Nat.le_trans (List.length_filter_le _ _) (by simp)
theorem twiL_len (Y : Nat → Wl) (n k : Nat) : (twiL Y n k).length ≤ k := Nat.le_trans (List.length_filter_le _ _) (by simp)
theorem latL_len (m : Mp) (Y : Nat → Wl) (lim : Int) (k : Nat) : (latL m Y lim k).length ≤ k := Nat.le_trans (List.length_filter_le _ _) (by simp)
/-- The error of a plan. -/
def planE (m : Mp) (Y : Nat → Wl) (n : Nat) : Int := if 8 < n then 3 else if allB (fun k => decide ((Y k).nl ≤ 64)) n = false then 3 else if allB (fun k => decide (walkE m (Y k) = 0)) n = true then 0 else 2
/-- The error of Faults. -/
def fltE (m : Mp) (Y : Nat → Wl) (n : Nat) (lim : Int) : Int := if m.fault ≠ 0 then m.fault else if planE m Y n ≠ 0 then planE m Y n else if inB lim 0 10000 = true then 0 else 2
/-- A plan is right. -/
def rightB (m : Mp) (Y : Nat → Wl) (n : Nat) (lim : Int) : Bool := decide ((misL Y n m.nw).length + (twiL Y n m.nw).length + (latL m Y lim n).length = 0)
def isPlanB (m : Mp) (Y : Nat → Wl) (n : Nat) : Bool := allB (fun k => isWalkB m (Y k)) n && decide (n ≤ 8)
end Go.Proofs.Ytpnkgjkoophckaa

namespace Go.Proofs.Ytpnkgjkoophckaa

theorem Ed.of_road {m : Mp} (ok : OkM m) {a b : Nat} {r : Nat} (h : m.road a b = r) : Ed m a b (m.rt r).2 := by
  obtain ⟨hr, hj⟩ := road_join h
  have h1 := ok.ra r hr
  have h2 := ok.rb r hr
  simp only [joinsB, Bool.or_eq_true, Bool.and_eq_true, decide_eq_true_eq] at hj
  exact ⟨r, hr, hj.elim (fun h => .inl h) (fun h => .inr h), rfl⟩
theorem tmA_ed {m : Mp} (ok : OkM m) {a b : Nat} {h : Int} (e : Ed m a b h) : tmA m a b ≤ h := by
  have hb := (e.bd ok).2.1
  have := tmA_le ok hb (.cons e (.nil b))
  omega
/-- A set without a place. -/
theorem rsT_self {m : Mp} (ok : OkM m) {a s : Nat} (ha : a < m.nw) (hb : s.testBit a = true) : rsT m a s ≤ rsT m a (s - 2 ^ a) := by
  have hn := ok.nw
  have h := rsT_le (m := m) (a := a) (s := s) (n := a) (by omega) hb
  rw [tmA_self ok ha] at h
  omega
theorem route_ge {m : Mp} (ok : OkM m) : ∀ (L : Nat) (z : Nat → Int) (a s : Nat), (∀ k, k < L → ∃ r : Nat, m.road (z k) (z (k + 1)) = r ∧ r < m.nr) → (∀ k, k ≤ L → ∃ p : Nat, z k = p ∧ p < m.nw) → z 0 = a → z L = 0 → s < 2 ^ m.nw → (∀ i, s.testBit i = true → ∃ j, j ≤ L ∧ z j = i) → rsT m a s ≤ alongZ m z (fun i => (m.rt i).2) L := by
  intro L
  induction L with
  | zero =>
    intro z a s _ hp h0 hL hs hc
    have hn := ok.nw
    have ha : a = 0 := by omega
    subst ha
    have z0 : ∀ t, t < 2 ^ m.nw → t.testBit 0 = false → (∀ i, t.testBit i = true → s.testBit i = true) → t = 0 := fun t _ ht hts => by
      refine Nat.eq_of_testBit_eq fun i => ?_
      rw [Nat.zero_testBit]
      cases hi : t.testBit i
      · rfl
      · obtain ⟨j, hj, e⟩ := hc i (hts i hi)
        obtain rfl : j = 0 := by omega
        obtain rfl : i = 0 := by omega
        rw [ht] at hi; cases hi
    simp only [alongZ]
    have e0 : rsT m 0 0 = 0 := by rw [rsT_zero]; exact tmA_self ok (by omega)
    by_cases hb : s.testBit 0 = true
    · have h1 := rsT_self ok (show 0 < m.nw by omega) hb
      have h2 := z0 (s - 2 ^ 0) (Nat.lt_of_le_of_lt (Nat.sub_le _ _) hs) (by rw [off_bit (two8 ok hs) hb]; simp) (fun i hi => by rw [off_bit (two8 ok hs) hb, Bool.and_eq_true] at hi; exact hi.1)
      rw [h2] at h1
      omega
    · have h2 := z0 s hs (by simpa using hb) (fun i hi => hi)
      subst h2
      omega
  | succ L ih =>
    intro z a s hr hp h0 hL hs hc
    obtain ⟨b, hb, hbn⟩ := hp 1 (by omega)
    obtain ⟨a', ha', han⟩ := hp 0 (by omega)
    obtain rfl : a = a' := by omega
    obtain ⟨r, hr0, hrn⟩ := hr 0 (by omega)
    have hrr := hr0
    rw [h0, Nat.zero_add, hb] at hrr
    have ht := tmA_ed ok (Ed.of_road ok hrr)
    have main : ∀ t, t < 2 ^ m.nw → t.testBit a = false → (∀ i, t.testBit i = true → s.testBit i = true) → rsT m a t ≤ alongZ m z (fun i => (m.rt i).2) (L + 1) := fun t hts hta hsub => by
      rw [along_shift]
      have h1 := ih (fun k => z (k + 1)) b t (fun k hk => hr (k + 1) (by omega)) (fun k hk => hp (k + 1) (by omega)) hb hL hts (fun i hi => by
        obtain ⟨j, hj, e⟩ := hc i (hsub i hi)
        cases j with
        | zero =>
          obtain rfl : i = a := by omega
          rw [hta] at hi; cases hi
        | succ j => exact ⟨j, by omega, e⟩)
      have h2 := rsT_tri ok han hbn hts
      have e1 : m.road (z 0) (z 1) = r := hr0
      rw [e1, Int.toNat_natCast]
      omega
    by_cases hba : s.testBit a = true
    · have h1 := rsT_self ok han hba
      have h2 := main (s - 2 ^ a) (Nat.lt_of_le_of_lt (Nat.sub_le _ _) hs) (by rw [off_bit (two8 ok hs) hba]; simp) (fun i hi => by rw [off_bit (two8 ok hs) hba, Bool.and_eq_true] at hi; exact hi.1)
      omega
    · exact main s hs (by simpa using hba) (fun i hi => hi)
/-- The set of places that a walk counts. -/
def setY (y : Wl) : Nat := orL y.ct y.nc
theorem placesB_of {m : Mp} {y : Wl} (hy : WlOk m y) : placesB m y.ct y.nc = true := by
  unfold placesB
  rw [hy.ris, Bool.true_and]
  refine allB_true fun j hj => ?_
  obtain ⟨p, h1, h2⟩ := hy.ct j hj
  simp only [inB, Bool.and_eq_true, decide_eq_true_eq]
  omega
theorem setY_bit {m : Mp} {y : Wl} (hy : WlOk m y) (i : Nat) : (setY y).testBit i = hasB y.ct y.nc i := by
  rw [Bool.eq_iff_iff, hasB_iff]
  unfold setY
  rw [orL_bit]
  constructor
  · rintro ⟨j, hj, e⟩
    obtain ⟨p, h1, h2⟩ := hy.ct j hj
    exact ⟨j, hj, by omega⟩
  · rintro ⟨j, hj, e⟩
    exact ⟨j, hj, by omega⟩
theorem setY_lt {m : Mp} {y : Wl} (hy : WlOk m y) : setY y < 2 ^ m.nw := by
  refine Nat.lt_pow_two_of_testBit _ fun i hi => ?_
  rw [setY_bit hy]
  cases h : hasB y.ct y.nc i
  · rfl
  · obtain ⟨j, hj, e⟩ := hasB_iff.1 h
    obtain ⟨p, h1, h2⟩ := hy.ct j hj
    omega
/-- A walk takes at least as long as the quickest tour of the places that it counts. -/
theorem walk_ge {m : Mp} (ok : OkM m) {y : Wl} (hy : WlOk m y) : lgM m (setY y) ≤ lgY m y := by
  have hl := hy.nl
  have h1 := route_ge ok (y.nl - 1) y.rt 0 (setY y) (fun k hk => hy.rd k (by omega)) (fun k hk => hy.pl k (by omega)) hy.fst hy.lst (setY_lt hy) (fun i hi => by
    rw [setY_bit hy] at hi
    obtain ⟨j, hj, e⟩ := hasB_iff.1 hi
    obtain ⟨q, hq, e2⟩ := hasB_iff.1 (hy.has j hj)
    exact ⟨q, by omega, by omega⟩)
  obtain ⟨e1, e2⟩ := plc_list ok (placesB_of hy)
  have h2 : workZ y.ct (fun i => (m.wk i).2) y.nc = hiS m (plc (setY y)) := by
    rw [← work_hiS]
    unfold setY
    rw [e1]
    exact work_congr _ (fun k hk => (e2 k hk).symm)
  unfold lgY timeZ
  rw [h2, lgM_rs]
  omega
theorem Dvs.lt {ok : Nat → Bool} {s : Nat} (f : Nat → Nat) : ∀ (n : Nat), s < 256 → (∀ k, k < n → f k &&& s = f k) → (∀ k, k < n → ok (f k) = true) → (∀ j k, j < n → k < j → f j &&& f k = 0) → (∀ i, s.testBit i = true → ∃ k, k < n ∧ (f k).testBit i = true) → ∃ k, k ≤ n ∧ Dvs ok s k := by
  intro n
  induction n generalizing s with
  | zero =>
    intro hs _ _ _ hc
    have : s = 0 := by
      refine Nat.eq_of_testBit_eq fun i => ?_
      rw [Nat.zero_testBit]
      cases hi : s.testBit i
      · rfl
      · obtain ⟨k, hk, _⟩ := hc i hi; omega
    subst this
    exact ⟨0, Nat.le_refl _, .nil⟩
  | succ n ih =>
    intro hs h1 h2 h3 h4
    have hsub := h1 n (by omega)
    have hle := sub_le hsub
    have hb := fun i => sub_bit hs hsub i
    obtain ⟨k, hk, hd⟩ := ih (s := s - f n) (by omega) (fun k hk => by
      rw [sub_iff]
      intro i hi
      rw [hb, sub_iff.1 (h1 k (by omega)) i hi]
      have := congrArg (fun z => z.testBit i) (h3 n k (by omega) hk)
      simp only [Nat.testBit_and, Nat.zero_testBit, hi, Bool.and_true] at this
      rw [this]; rfl) (fun k hk => h2 k (by omega)) (fun j k hj hk => h3 j k (by omega) hk) (fun i hi => by
      rw [hb, Bool.and_eq_true] at hi
      obtain ⟨k, hk, hki⟩ := h4 i hi.1
      rcases Nat.lt_succ_iff_lt_or_eq.1 hk with h | rfl
      · exact ⟨k, h, hki⟩
      · rw [hki] at hi; simp at hi)
    by_cases h0 : f n = 0
    · rw [h0, Nat.sub_zero] at hd
      exact ⟨k, by omega, hd⟩
    · exact ⟨k + 1, by omega, .cons hsub (by omega) (h2 n (by omega)) hd⟩
theorem cntY_two {Y : Nat → Wl} {i : Int} : ∀ n, cntY Y i n ≤ 1 → ∀ j k, j < n → k < j → hasB (Y j).ct (Y j).nc i = true → hasB (Y k).ct (Y k).nc i = true → False
  | 0, _, j, _, hj, _, _, _ => by omega
  | n + 1, h, j, k, hj, hk, h1, h2 => by
    unfold cntY at h
    have pos : ∀ q m, q < m → hasB (Y q).ct (Y q).nc i = true → 1 ≤ cntY Y i m := by
      intro q m
      induction m with
      | zero => intro h; omega
      | succ m ih =>
        intro h hq
        unfold cntY
        rcases Nat.lt_succ_iff_lt_or_eq.1 h with h | rfl
        · have := ih h hq; omega
        · rw [if_pos hq]; omega
    rcases Nat.lt_succ_iff_lt_or_eq.1 hj with hj | rfl
    · exact cntY_two n (by omega) j k hj hk h1 h2
    · rw [if_pos h1] at h
      have := pos k j hk h2
      omega
theorem cntY_has {Y : Nat → Wl} {i : Int} : ∀ n, 0 < cntY Y i n → ∃ k, k < n ∧ hasB (Y k).ct (Y k).nc i = true
  | 0, h => by unfold cntY at h; omega
  | n + 1, h => by
    unfold cntY at h
    by_cases hn : hasB (Y n).ct (Y n).nc i = true
    · exact ⟨n, by omega, hn⟩
    · rw [if_neg hn] at h
      obtain ⟨k, hk, e⟩ := cntY_has n h
      exact ⟨k, by omega, e⟩
theorem planE_ok {m : Mp} {Y : Nat → Wl} {n : Nat} (h : planE m Y n = 0) : n ≤ 8 ∧ ∀ k, k < n → walkE m (Y k) = 0 := by
  unfold planE at h
  by_cases h1 : 8 < n
  · rw [if_pos h1] at h; omega
  rw [if_neg h1] at h
  by_cases h2 : allB (fun k => decide ((Y k).nl ≤ 64)) n = false
  · rw [if_pos h2] at h; omega
  rw [if_neg h2] at h
  by_cases h3 : allB (fun k => decide (walkE m (Y k) = 0)) n = true
  · exact ⟨by omega, fun k hk => by simpa using allB_iff.1 h3 k hk⟩
  · rw [if_neg h3] at h; omega
theorem planE_of {m : Mp} {Y : Nat → Wl} {n : Nat} (hn : n ≤ 8) (h : ∀ k, k < n → walkE m (Y k) = 0) : planE m Y n = 0 := by
  unfold planE
  rw [if_neg (by omega), if_neg, if_pos]
  · exact allB_true fun k hk => by simpa using h k hk
  · rw [allB_true fun k hk => ?_]
    · simp
    · have := h k hk
      unfold walkE at this
      split at this
      · omega
      · simp; omega
/-- What a right plan has. -/
theorem right_iff {m : Mp} {Y : Nat → Wl} {n : Nat} {lim : Int} : rightB m Y n lim = true ↔ (∀ i, i < m.nw → cntY Y (i : Nat) n = 1) ∧ ∀ k, k < n → lgY m (Y k) ≤ lim := by
  unfold rightB
  rw [decide_eq_true_eq]
  have e1 : (misL Y n m.nw).length = 0 ↔ ∀ i, i < m.nw → 0 < cntY Y (i : Nat) n := by
    unfold misL
    rw [List.length_eq_zero_iff, List.filter_eq_nil_iff]
    simp only [List.mem_range, decide_eq_true_eq]
    exact ⟨fun h i hi => Nat.pos_of_ne_zero (h i hi), fun h i hi => Nat.pos_iff_ne_zero.1 (h i hi)⟩
  have e2 : (twiL Y n m.nw).length = 0 ↔ ∀ i, i < m.nw → cntY Y (i : Nat) n ≤ 1 := by
    unfold twiL
    rw [List.length_eq_zero_iff, List.filter_eq_nil_iff]
    simp only [List.mem_range, decide_eq_true_eq, Nat.not_lt]
  have e3 : (latL m Y lim n).length = 0 ↔ ∀ k, k < n → lgY m (Y k) ≤ lim := by
    unfold latL
    rw [List.length_eq_zero_iff, List.filter_eq_nil_iff]
    simp only [List.mem_range, decide_eq_true_eq, Int.not_lt]
  constructor
  · intro h
    have a := e1.1 (by omega)
    have b := e2.1 (by omega)
    exact ⟨fun i hi => by have := a i hi; have := b i hi; omega, e3.1 (by omega)⟩
  · rintro ⟨h1, h2⟩
    rw [e1.2 (fun i hi => by rw [h1 i hi]; omega), e2.2 (fun i hi => by rw [h1 i hi]; omega), e3.2 h2]
/-- A right plan is a division. -/
theorem right_dvs {m : Mp} (ok : OkM m) {Y : Nat → Wl} {n : Nat} {lim : Int} (hp : planE m Y n = 0) (hr : rightB m Y n lim = true) : ∃ k, k ≤ n ∧ Dvs (okL m lim) (2 ^ m.nw - 1) k := by
  have w := whole_pos ok
  obtain ⟨_, hw⟩ := planE_ok hp
  obtain ⟨h1, h2⟩ := right_iff.1 hr
  have hY := fun k (hk : k < n) => wlOk_of ok (hw k hk)
  refine Dvs.lt (fun k => setY (Y k)) n w.2.1 (fun k hk => ?_) (fun k hk => ?_) (fun j k hj hk => ?_) (fun i hi => ?_)
  · rw [sub_iff]
    intro i hi
    rw [whole_bit]
    exact decide_eq_true (sub_sub (setY_lt (hY k hk)) hi)
  · unfold okL
    have := walk_ge ok (hY k hk)
    have := h2 k hk
    exact decide_eq_true (by omega)
  · refine Nat.eq_of_testBit_eq fun i => ?_
    rw [Nat.testBit_and, Nat.zero_testBit]
    cases a : (setY (Y j)).testBit i
    · rfl
    cases b : (setY (Y k)).testBit i
    · rfl
    have hi := sub_sub (setY_lt (hY j hj)) a
    rw [setY_bit (hY j hj)] at a
    rw [setY_bit (hY k (by omega))] at b
    exact absurd (h1 i hi) (fun e => cntY_two n (by omega) j k hj hk a b)
  · rw [whole_bit, decide_eq_true_eq] at hi
    obtain ⟨k, hk, e⟩ := cntY_has n (by rw [h1 i hi]; omega)
    exact ⟨k, hk, by show (setY (Y k)).testBit i = true; rw [setY_bit (hY k hk)]; exact e⟩
/-- The best plan's walks. -/
def yD (m : Mp) (D : List Nat) (k : Nat) : Wl := tourY m (D.getD k 0)
theorem hasB_tour (m : Mp) {s : Nat} (hs : s < 256) (i : Nat) : hasB (tourY m s).ct (tourY m s).nc i = s.testBit i := by
  rw [Bool.eq_iff_iff, hasB_iff]
  unfold tourY
  simp only
  constructor
  · rintro ⟨j, hj, e⟩
    rw [zL_get hj] at e
    have := (plc_mem.1 (List.getElem_mem hj)).2
    rw [show (plc s)[j] = i by omega] at this
    exact this
  · intro h
    have hi : i < 8 := by
      refine Nat.lt_of_not_le fun hc => ?_
      rw [Nat.testBit_lt_two_pow (Nat.lt_of_lt_of_le hs (Nat.pow_le_pow_right (n := 2) (by decide) hc))] at h
      cases h
    obtain ⟨j, hj, e⟩ := List.getElem_of_mem (plc_mem.2 ⟨hi, h⟩)
    exact ⟨j, hj, by rw [zL_get hj, e]⟩
theorem cnt_parts (m : Mp) (i : Nat) : ∀ (D : List Nat), (∀ p, p ∈ D → p < 256) → cntY (yD m D) (i : Nat) D.length = D.countP (fun p => p.testBit i) := by
  intro D h
  have key : ∀ k, k ≤ D.length → cntY (yD m D) (i : Nat) k = (D.take k).countP (fun p => p.testBit i) := by
    intro k
    induction k with
    | zero => intro _; rfl
    | succ k ih =>
      intro hk
      unfold cntY
      have hkD : k < D.length := by omega
      rw [ih (by omega), List.take_add_one, List.getElem?_eq_getElem hkD, List.countP_append]
      have e : yD m D k = tourY m D[k] := by unfold yD; rw [List.getD_eq_getElem?_getD, List.getElem?_eq_getElem hkD]; rfl
      rw [e, hasB_tour m (h _ (List.getElem_mem hkD))]
      simp [List.countP_cons]
  rw [key _ (Nat.le_refl _), List.take_length]
/-- The best plan is right. -/
theorem best_right {m : Mp} (ok : OkM m) {lim : Int} (hl : lim ≤ 1048575) (hd : dvW m lim ≠ []) : (∀ k, k < (dvW m lim).length → isWalkB m (yD m (dvW m lim) k) = true) ∧ rightB m (yD m (dvW m lim)) (dvW m lim).length lim = true ∧ (dvW m lim).length ≤ 8 := by
  have w := whole_pos ok
  have hP := (dvW_iff ok lim).2.2 hd
  have hmem := fun p (hp : p ∈ dvW m lim) => dvW_mem ok hl hp
  have hget : ∀ k (hk : k < (dvW m lim).length), yD m (dvW m lim) k = tourY m (dvW m lim)[k] := fun k hk => by unfold yD; rw [List.getD_eq_getElem?_getD, List.getElem?_eq_getElem hk]; rfl
  refine ⟨fun k hk => ?_, right_iff.2 ⟨fun i hi => ?_, fun k hk => ?_⟩, by have := dvW_len ok lim; have := ok.nw; omega⟩
  · obtain ⟨h1, _, _, h4⟩ := hmem _ (List.getElem_mem hk)
    rw [hget k hk]
    exact (tour_walk ok h1 h4).1
  · rw [cnt_parts m i _ (fun p hp => two8 ok (hmem p hp).1), hP.one w.2.1, whole_bit, if_pos (decide_eq_true hi)]
  · obtain ⟨h1, _, h3, h4⟩ := hmem _ (List.getElem_mem hk)
    rw [hget k hk]
    unfold lgY
    rw [(tour_walk ok h1 h4).2]
    exact h3
end Go.Proofs.Ytpnkgjkoophckaa

namespace Go.Proofs.Ytpnkgjkoophckaa
open Go.RowKit Go.Shelf

theorem Try.infoWalkR : (Try.prog.info? 49).map (fun i => (i.zero, i.size, i.bytes)) = some (some (.agg #[.slice none 0 0, .slice none 0 0]), 2, 48) := by kernel_rfl
set_option maxRecDepth 100000 in
set_option maxHeartbeats 8000000 in
theorem planC_any (a : Option Addr) (n cap : Nat) (U : Nat → LV) (Y : Nat → Wl) (w : World) (h : PlIn w (.slice a n cap) n U Y) (hn : n ≤ 100000) (hy : ∀ k, k < n → (Y k).nl ≤ 100000 ∧ (Y k).nc ≤ 100000) :
    Calls Try.prog 63 #[.slice a n cap] w fun e w' => ∃ va vc U', e = .returned (.slice va n vc) ∧ PlO w.heap.size w' 30 (.slice va n vc) n U' Y ∧ Below w.heap.size w w' := by
  obtain ⟨i0, hi0, hz0, hz1, hz2⟩ := info_parts Try.infoWalkV
  have HP := Lib.hid (fun W (hW : Below w.heap.size w W) => h.below hW)
  have HY := Lib.hid hy
  clear h hy
  have HA0 : Hid (BF w w []) := BF.base w
  go_enter Try.func63, Try.ntmps63
  go_wp2_with fail
  go_loopw [3, 4] (fun v i wr => ∃ (k : Nat) (va : Option Addr) (vc : Nat) (V : Nat → LV), i = .int .i64 k ∧ k ≤ n ∧ v = .slice va k vc ∧ BF w wr [] ∧ PlO w.heap.size wr 30 (.slice va k vc) k V Y) (fun _ i _ => n - (intOf i).toNat)
  case atStart => exact ⟨0, none, 0, U, rfl, Nat.zero_le _, rfl, HA0.out, PlO.nil _ _ _ _ _⟩
  case round =>
    clear HA0
    obtain ⟨k, va, vc, V, rfl, hk, rfl, hbf, hpo⟩ := hrel
    rename World => wx
    have HA1 := Lib.hid hbf
    have HO1 := Lib.hid hpo
    clear hbf hpo
    by_cases hlt : k < n
    · obtain ⟨b, off, rfl, hb, x0, x1⟩ := (HP.out wx HA1.out.fr).ps.at hlt
      have HW := Lib.hid ((HP.out wx HA1.out.fr).wl k hlt)
      have HL := Lib.hid (HY.out k hlt)
      have ki : (0 : Int) ≤ (k : Int) := by omega
      have kn : (k : Int) < (n : Int) := by omega
      obtain ⟨p1, n1, c1, p2, n2, c2, z1, z2, HE⟩ : ∃ p1 n1 c1 p2 n2 c2 z1 z2, Hid (p1 = (U k).ra ∧ n1 = (Y k).nl ∧ c1 = (U k).rc ∧ p2 = (U k).ca ∧ n2 = (Y k).nc ∧ c2 = (U k).cc ∧ z1 = (Y k).rt ∧ z2 = (Y k).ct) := ⟨_, _, _, _, _, _, _, _, rfl, rfl, rfl, rfl, rfl, rfl, rfl, rfl⟩
      have HW1 : Hid (IntsIn wx (.slice p1 n1 c1) n1 z1) := by obtain ⟨rfl, rfl, rfl, _, _, _, rfl, _⟩ := HE.out; exact HW.out.rt
      have HW2 : Hid (IntsIn wx (.slice p2 n2 c2) n2 z2) := by obtain ⟨_, _, _, rfl, rfl, rfl, _, rfl⟩ := HE.out; exact HW.out.ct
      have hn1 : n1 ≤ 100000 := by rw [HE.out.2.1]; exact HL.out.1
      have hn2 : n2 ≤ 100000 := by rw [HE.out.2.2.2.2.1]; exact HL.out.2
      rw [← HE.out.1, ← HE.out.2.1, ← HE.out.2.2.1] at x0
      rw [← HE.out.2.2.2.1, ← HE.out.2.2.2.2.1, ← HE.out.2.2.2.2.2.1] at x1
      go_wp2_with fail
      refine (walkC_own p1 p2 n1 c1 n2 c2 z1 z2 _ HW1.out HW2.out hn1 hn2).mono ?_
      rintro _ w5 ⟨a1, d1, a2, d2, rfl, o1, o2, hb5⟩
      have hsw := HA1.out.fr.size
      have HA5 := Lib.hid (HA1.out.below hb5)
      have HO5 := Lib.hid (HO1.out.below hb5)
      have HU5 : Hid (WlO w.heap.size w5 ⟨a1, d1, a2, d2⟩ (Y k)) := by
        obtain ⟨_, rfl, _, _, rfl, _, rfl, rfl⟩ := HE.out
        exact ⟨own_mono o1 hsw, own_mono o2 hsw⟩
      clear o1 o2 hb5 HA1 HO1 HW HW1 HW2 x0 x1 hsw
      go_wp2_with (at_builtin; refine wpList_append_src _ rfl (.tmp 11) (.tmp 17) 85 rfl w.heap.size 30 i0 (.agg #[.slice none 0 0, .slice none 0 0]) 2 48 Try.underlying85 hi0 hz0 hz1 hz2 rfl (by decide) (.slice va k vc) k (flU V Y k) rfl (own_below HO5.out.row (below_alloc _ _)) (some ⟨w5.heap.size, 0, none⟩) 1 1 [.slice a1 n1 d1, .slice a2 n2 d2] rfl ⟨rfl, fun j u hu => ⟨_, rfl, World.news_of_block (heap_alloc_new w5 _) j u hu⟩⟩ (by simp [Value.oneCell']) ?a1 ?a2 ?a3 ?_)
      case a1 => unfold maxLen; omega
      case a2 => omega
      case a3 => have := HA5.out.fr.size; simp; omega
      intro v2 w6 hown hgr hlt1
      obtain ⟨ea, ec, rfl⟩ := own_slice' hown
      have HO6 : Hid (PlO w.heap.size w6 30 (.slice ea (k + 1) ec) (k + 1) (putU V k ⟨a1, d1, a2, d2⟩) Y) := PlO.snoc (by decide) (HO5.out.below (below_alloc w5 _)) (HU5.out.below (below_alloc w5 _)) (by obtain ⟨_, rfl, _, _, rfl, _⟩ := HE.out; exact hown) hgr
      have HA6 : Hid (BF w w6 []) := ((HA5.out.below (below_alloc w5 (.cells #[.slice a1 n1 d1, .slice a2 n2 d2] 30)))).grow1 (own_below HO5.out.row (below_alloc _ _)) (List.forall_mem_nil _) (Nat.le_refl _) hgr
      clear hown hgr hlt1 HA5 HO5 HU5 HE
      go_wp2_with fail
      go_roundw
      case rel => exact ⟨k + 1, ea, ec, putU V k ⟨a1, d1, a2, d2⟩, by go_num, by omega, rfl, HA6.out, HO6.out⟩
      case measure => simp [intOf]; omega
    · obtain rfl : k = n := by omega
      go_wp2_with fail
      go_ret
      exact ⟨va, vc, V, rfl, HO1.out, HA1.out.fr⟩
set_option maxRecDepth 100000 in
set_option maxHeartbeats 8000000 in
theorem backsC_any (a : Option Addr) (n cap : Nat) (U : Nat → LV) (Y : Nat → Wl) (w : World) (h : PlIn w (.slice a n cap) n U Y) (hn : n ≤ 100000) (hy : ∀ k, k < n → (Y k).nl ≤ 100000 ∧ (Y k).nc ≤ 100000) :
    Calls Try.prog 47 #[.slice a n cap] w fun e w' => ∃ va vc U', e = .returned (.slice va n vc) ∧ PlO w.heap.size w' 49 (.slice va n vc) n U' Y ∧ Below w.heap.size w w' := by
  obtain ⟨i0, hi0, hz0, hz1, hz2⟩ := info_parts Try.infoWalkR
  have HP := Lib.hid (fun W (hW : Below w.heap.size w W) => h.below hW)
  have HY := Lib.hid hy
  clear h hy
  have HA0 : Hid (BF w w []) := BF.base w
  go_enter Try.func47, Try.ntmps47
  go_wp2_with fail
  go_loopw [3, 4] (fun v i wr => ∃ (k : Nat) (va : Option Addr) (vc : Nat) (V : Nat → LV), i = .int .i64 k ∧ k ≤ n ∧ v = .slice va k vc ∧ BF w wr [] ∧ PlO w.heap.size wr 49 (.slice va k vc) k V Y) (fun _ i _ => n - (intOf i).toNat)
  case atStart => exact ⟨0, none, 0, U, rfl, Nat.zero_le _, rfl, HA0.out, PlO.nil _ _ _ _ _⟩
  case round =>
    clear HA0
    obtain ⟨k, va, vc, V, rfl, hk, rfl, hbf, hpo⟩ := hrel
    rename World => wx
    have HA1 := Lib.hid hbf
    have HO1 := Lib.hid hpo
    clear hbf hpo
    by_cases hlt : k < n
    · obtain ⟨b, off, rfl, hb, x0, x1⟩ := (HP.out wx HA1.out.fr).ps.at hlt
      have HW := Lib.hid ((HP.out wx HA1.out.fr).wl k hlt)
      have HL := Lib.hid (HY.out k hlt)
      have ki : (0 : Int) ≤ (k : Int) := by omega
      have kn : (k : Int) < (n : Int) := by omega
      obtain ⟨p1, n1, c1, p2, n2, c2, z1, z2, HE⟩ : ∃ p1 n1 c1 p2 n2 c2 z1 z2, Hid (p1 = (U k).ra ∧ n1 = (Y k).nl ∧ c1 = (U k).rc ∧ p2 = (U k).ca ∧ n2 = (Y k).nc ∧ c2 = (U k).cc ∧ z1 = (Y k).rt ∧ z2 = (Y k).ct) := ⟨_, _, _, _, _, _, _, _, rfl, rfl, rfl, rfl, rfl, rfl, rfl, rfl⟩
      have HW1 : Hid (IntsIn wx (.slice p1 n1 c1) n1 z1) := by obtain ⟨rfl, rfl, rfl, _, _, _, rfl, _⟩ := HE.out; exact HW.out.rt
      have HW2 : Hid (IntsIn wx (.slice p2 n2 c2) n2 z2) := by obtain ⟨_, _, _, rfl, rfl, rfl, _, rfl⟩ := HE.out; exact HW.out.ct
      have hn1 : n1 ≤ 100000 := by rw [HE.out.2.1]; exact HL.out.1
      have hn2 : n2 ≤ 100000 := by rw [HE.out.2.2.2.2.1]; exact HL.out.2
      rw [← HE.out.1, ← HE.out.2.1, ← HE.out.2.2.1] at x0
      rw [← HE.out.2.2.2.1, ← HE.out.2.2.2.2.1, ← HE.out.2.2.2.2.2.1] at x1
      go_wp2_with fail
      refine (backC_own p1 p2 n1 c1 n2 c2 z1 z2 _ HW1.out HW2.out hn1 hn2).mono ?_
      rintro _ w5 ⟨a1, d1, a2, d2, rfl, o1, o2, hb5⟩
      have hsw := HA1.out.fr.size
      have HA5 := Lib.hid (HA1.out.below hb5)
      have HO5 := Lib.hid (HO1.out.below hb5)
      have HU5 : Hid (WlO w.heap.size w5 ⟨a1, d1, a2, d2⟩ (Y k)) := by
        obtain ⟨_, rfl, _, _, rfl, _, rfl, rfl⟩ := HE.out
        exact ⟨own_mono o1 hsw, own_mono o2 hsw⟩
      clear o1 o2 hb5 HA1 HO1 HW HW1 HW2 x0 x1 hsw
      go_wp2_with (at_builtin; refine wpList_append_src _ rfl (.tmp 11) (.tmp 17) 88 rfl w.heap.size 49 i0 (.agg #[.slice none 0 0, .slice none 0 0]) 2 48 Try.underlying88 hi0 hz0 hz1 hz2 rfl (by decide) (.slice va k vc) k (flU V Y k) rfl (own_below HO5.out.row (below_alloc _ _)) (some ⟨w5.heap.size, 0, none⟩) 1 1 [.slice a1 n1 d1, .slice a2 n2 d2] rfl ⟨rfl, fun j u hu => ⟨_, rfl, World.news_of_block (heap_alloc_new w5 _) j u hu⟩⟩ (by simp [Value.oneCell']) ?a1 ?a2 ?a3 ?_)
      case a1 => unfold maxLen; omega
      case a2 => omega
      case a3 => have := HA5.out.fr.size; simp; omega
      intro v2 w6 hown hgr hlt1
      obtain ⟨ea, ec, rfl⟩ := own_slice' hown
      have HO6 : Hid (PlO w.heap.size w6 49 (.slice ea (k + 1) ec) (k + 1) (putU V k ⟨a1, d1, a2, d2⟩) Y) := PlO.snoc (by decide) (HO5.out.below (below_alloc w5 _)) (HU5.out.below (below_alloc w5 _)) (by obtain ⟨_, rfl, _, _, rfl, _⟩ := HE.out; exact hown) hgr
      have HA6 : Hid (BF w w6 []) := ((HA5.out.below (below_alloc w5 (.cells #[.slice a1 n1 d1, .slice a2 n2 d2] 49)))).grow1 (own_below HO5.out.row (below_alloc _ _)) (List.forall_mem_nil _) (Nat.le_refl _) hgr
      clear hown hgr hlt1 HA5 HO5 HU5 HE
      go_wp2_with fail
      go_roundw
      case rel => exact ⟨k + 1, ea, ec, putU V k ⟨a1, d1, a2, d2⟩, by go_num, by omega, rfl, HA6.out, HO6.out⟩
      case measure => simp [intOf]; omega
    · obtain rfl : k = n := by omega
      go_wp2_with fail
      go_ret
      exact ⟨va, vc, V, rfl, HO1.out, HA1.out.fr⟩
def smallB (y : Wl) : Bool := decide (y.nl ≤ 70) && decide (y.nc ≤ 12)
def shortB (Y : Nat → Wl) (n : Nat) : Bool := decide (n ≤ 11) && allB (fun k => smallB (Y k)) n
theorem shortB_iff {Y : Nat → Wl} {n : Nat} : shortB Y n = true ↔ n ≤ 11 ∧ ∀ k, k < n → (Y k).nl ≤ 70 ∧ (Y k).nc ≤ 12 := by
  unfold shortB smallB
  rw [Bool.and_eq_true, decide_eq_true_eq, allB_iff]
  simp only [Bool.and_eq_true, decide_eq_true_eq]
set_option maxRecDepth 100000 in
set_option maxHeartbeats 4000000 in
theorem short_any (a : Option Addr) (n cap : Nat) (U : Nat → LV) (Y : Nat → Wl) (w : World) (h : PlIn w (.slice a n cap) n U Y) :
    Calls Try.prog 61 #[.slice a n cap] w fun e w' => e = .returned (.bool (shortB Y n)) ∧ Below w.heap.size w w' := by
  have HP := Lib.hid h
  have HSM := Lib.hid (fun k W => small_any (U k) (Y k) W)
  have HNO : Hid (∀ k, k < n → smallB (Y k) = false → shortB Y n = false) := fun k hk e => by
    unfold shortB
    rw [allB_false hk e, Bool.and_false]
  have HYE : Hid (n ≤ 11 → (∀ k, k < n → smallB (Y k) = true) → shortB Y n = true) := fun h1 h2 => by
    unfold shortB
    rw [decide_eq_true h1, allB_true h2]; rfl
  have HBI : Hid (¬ n ≤ 11 → shortB Y n = false) := fun h1 => by
    unfold shortB
    rw [decide_eq_false h1, Bool.false_and]
  clear h
  generalize shortB Y n = sb at *
  have HA0 : Hid (BF w w []) := BF.base w
  go_enter Try.func61, Try.ntmps61
  go_wp2_with fail
  go_loopw [3] (fun i wr => ∃ k : Nat, i = .int .i64 k ∧ k ≤ n ∧ k ≤ 12 ∧ (∀ q, q < k → smallB (Y q) = true) ∧ BF w wr []) (fun i _ => n - (intOf i).toNat)
  case atStart => exact ⟨0, rfl, Nat.zero_le _, Nat.zero_le _, fun q hq => by omega, HA0.out⟩
  case round =>
    clear HA0
    obtain ⟨k, rfl, hk, hk12, hall, hbf⟩ := hrel
    rename World => wx
    have HA1 := Lib.hid hbf
    have HAL := Lib.hid hall
    clear hbf hall
    by_cases hlt : k < n
    · have ki : (0 : Int) ≤ (k : Int) := by omega
      have kn : (k : Int) < (n : Int) := by omega
      by_cases h12 : k < 12
      · obtain ⟨b, off, rfl, hb, x0, x1⟩ := (HP.out.below HA1.out.fr).ps.at hlt
        have k12 : (k : Int) < 12 := by omega
        have HS := Lib.hid (HSM.out k)
        obtain ⟨tb, htb⟩ : ∃ tb, (decide ((Y k).nl ≤ 70) && decide ((Y k).nc ≤ 12)) = tb := ⟨_, rfl⟩
        have HTB : Hid (smallB (Y k) = tb) := htb
        rw [htb] at HS
        clear htb
        go_wp2_with fail
        refine (HS.out _).mono ?_
        rintro _ w2 ⟨rfl, hb2⟩
        have HA2 := Lib.hid (HA1.out.below hb2)
        clear hb2
        cases tb
        · go_wp2_with fail
          go_ret
          exact ⟨ret_bool (HNO.out k hlt HTB.out).symm, HA2.out.fr⟩
        · go_wp2_with fail
          go_roundw
          case rel => exact ⟨k + 1, by go_num, by omega, by omega, fun q hq => by rcases Nat.lt_succ_iff_lt_or_eq.1 hq with h | rfl; exact HAL.out q h; exact HTB.out, HA2.out⟩
          case measure => simp [intOf]; omega
      · have k12 : ¬ (k : Int) < 12 := by omega
        have kle : ¬ (n : Int) ≤ 11 := by omega
        go_wp2_with fail
        go_ret
        exact ⟨ret_bool (HBI.out (by omega)).symm, HA1.out.fr⟩
    · have hkn : k = n := by omega
      subst hkn
      by_cases h11 : k ≤ 11
      · have kle : (k : Int) ≤ 11 := by omega
        go_wp2_with fail
        go_ret
        exact ⟨ret_bool (HYE.out h11 HAL.out).symm, HA1.out.fr⟩
      · have kle : ¬ (k : Int) ≤ 11 := by omega
        go_wp2_with fail
        go_ret
        exact ⟨ret_bool (HBI.out h11).symm, HA1.out.fr⟩
set_option maxRecDepth 100000 in
set_option maxHeartbeats 8000000 in
theorem rIsPlan_any (x : MV) (m : Mp) (a : Option Addr) (n cap : Nat) (U : Nat → LV) (Y : Nat → Wl) (w : World) (hm : MpIn w x m) (h : PlIn w (.slice a n cap) n U Y) (hn : n ≤ 100000) (hy : ∀ k, k < n → (Y k).nl ≤ 100000 ∧ (Y k).nc ≤ 100000) (hnw : m.nw ≤ 100000) (hnr : m.nr ≤ 100000) :
    Calls Try.prog 48 #[.agg #[.slice x.wa m.nw x.wc, .slice x.ra m.nr x.rc], .slice a n cap] w fun e w' => e = .returned (.bool (isPlanB m Y n)) ∧ Below w.heap.size w w' := by
  have HWK := Lib.hid (fun k (hk : k < n) W (hW : Below w.heap.size w W) => rWalk_any x m (U k) (Y k) W (hm.below hW) ((h.wl k hk).below hW) (hy k hk).1 (hy k hk).2 hnw hnr)
  have HP := Lib.hid h
  have HNO : Hid (∀ k, k < n → isWalkB m (Y k) = false → isPlanB m Y n = false) := fun k hk e => by
    unfold isPlanB
    rw [allB_false hk e, Bool.false_and]
  have HYE : Hid ((∀ k, k < n → isWalkB m (Y k) = true) → isPlanB m Y n = decide (n ≤ 8)) := fun h2 => by
    unfold isPlanB
    rw [allB_true h2]; rfl
  clear h hm hy
  generalize isPlanB m Y n = sb at *
  have HA0 : Hid (BF w (w.alloc (.cells #[.slice x.wa m.nw x.wc, .slice x.ra m.nr x.rc] 25)) [(w.heap.size, #[.slice x.wa m.nw x.wc, .slice x.ra m.nr x.rc], 25)]) := (BF.base w).alloc _ _
  go_enter Try.func48, Try.ntmps48
  go_upto_region 1 with fail
  generalize w.alloc (.cells #[.slice x.wa m.nw x.wc, .slice x.ra m.nr x.rc] 25) = w0 at *
  go_wp2_with fail
  go_loopw [5] (fun i wr => ∃ k : Nat, i = .int .i64 k ∧ k ≤ n ∧ (∀ q, q < k → isWalkB m (Y q) = true) ∧ BF w wr [(w.heap.size, #[.slice x.wa m.nw x.wc, .slice x.ra m.nr x.rc], 25)]) (fun i _ => n - (intOf i).toNat)
  case atStart => exact ⟨0, rfl, Nat.zero_le _, fun q hq => by omega, HA0.out⟩
  case round =>
    clear HA0
    obtain ⟨k, rfl, hk, hall, hbf⟩ := hrel
    rename World => wx
    have HA1 := Lib.hid hbf
    have HAL := Lib.hid hall
    clear hbf hall
    by_cases hlt : k < n
    · have ki : (0 : Int) ≤ (k : Int) := by omega
      have kn : (k : Int) < (n : Int) := by omega
      obtain ⟨b, off, rfl, hb, x0, x1⟩ := HP.out.ps.at hlt
      have HK := Lib.hid (HWK.out k hlt)
      obtain ⟨wb, hwb⟩ : ∃ wb, isWalkB m (Y k) = wb := ⟨_, rfl⟩
      have HNK : Hid (wb = false → sb = false) := fun e => HNO.out k hlt (hwb.trans e)
      have HYK : Hid (wb = true → ∀ q, q < k + 1 → isWalkB m (Y q) = true) := fun e q hq => by
        rcases Nat.lt_succ_iff_lt_or_eq.1 hq with h | rfl
        · exact HAL.out q h
        · exact hwb.trans e
      rw [hwb] at HK
      clear hwb
      go_upto_region 4 with fail
      have HAX : Hid (BF w wx.drew [(w.heap.size, #[.slice x.wa m.nw x.wc, .slice x.ra m.nr x.rc], 25)]) := HA1.out.below (Below.refl _ _).drew
      clear HA1
      refine wp_region_Z (S := fun X => X.cell? ⟨w.heap.size, 0, none⟩ = some (.slice x.wa m.nw x.wc) ∧ X.cell? ⟨w.heap.size, 1, none⟩ = some (.slice x.ra m.nr x.rc) ∧ X.cell? ⟨b, off + k * 2, none⟩ = some (.slice (U k).ra (Y k).nl (U k).rc) ∧ X.cell? ⟨b, off + k * 2 + 1, none⟩ = some (.slice (U k).ca (Y k).nc (U k).cc)) (by kernel_rfl) (⟨HAX.out.cell (.head _) 0, HAX.out.cell (.head _) 1, kept HAX.out.fr hb x0, kept HAX.out.fr hb x1⟩) (fun hS => ?_)
      generalize wx.drew = X at *
      refine tk [0, 1, 2, 3, 4] ?_
      repeat (refine tkZ (oi := ⟨_, _, _, _, _, _⟩) (v := ?_) rfl (by kernel_rfl) (by rfl) (fun _ _ _ h => h) hS ?_ ?_; rotate_left; (· rintro W' ⟨z0, z1, z2, z3⟩; go_simp; try with_reducible rfl); try simp only [Act.put, putA, putZ, putS])
      refine tk0 ?_
      refine wpAnyZ_next (rs := [5]) (by kernel_rfl) (by simp) ?_
      refine NextZ.cons (o := ⟨some 17, _, _, _, _, _⟩) rfl (fun K hK => ?_) NextZ.nil
      go_simp
      refine (HK.out X HAX.out.fr).mono ?_
      rintro _ X0 ⟨rfl, hb0⟩
      (try go_wp2_with fail)
      have HA0 := Lib.hid (HAX.out.below hb0)
      refine hK.out _ _ (⟨HA0.out.cell (.head _) 0, HA0.out.cell (.head _) 1, kept HA0.out.fr hb x0, kept HA0.out.fr hb x1⟩) (fun hS => ?_)
      clear hK K
      try simp only [Act.put, putA, putZ, putS]
      clear hb0
      refine tZ 6 (oi := ⟨_, _, _, _, _, _⟩) (v := ?_) rfl (by kernel_rfl) (by rfl) (fun _ _ _ h => h) hS ?_ ?_
      rotate_left
      · rintro W' ⟨z0, z1, z2, z3⟩; go_simp; try with_reducible rfl
      try simp only [Act.put, putA, putZ, putS]
      refine wpAnyZ_done (by kernel_rfl) ?_ _
      cases wb
      · have HN := Lib.hid (HNK.out rfl)
        clear HNK HYK
        go_wp2_with fail
        go_ret
        exact ⟨ret_bool HN.out.symm, HA0.out.fr⟩
      · have HY := Lib.hid (HYK.out rfl)
        clear HNK HYK
        go_wp2_with fail
        go_roundw
        case rel => exact ⟨k + 1, by go_num, by omega, HY.out, HA0.out⟩
        case measure => simp [intOf]; omega
    · have hkn : k = n := by omega
      subst hkn
      have hsb := HYE.out HAL.out
      by_cases h8 : k ≤ 8
      · have kle : (k : Int) ≤ 8 := by omega
        rw [decide_eq_true h8] at hsb
        have HSB := Lib.hid hsb
        clear hsb
        go_wp2_with fail
        go_ret
        exact ⟨ret_bool HSB.out.symm, HA1.out.fr⟩
      · have kle : ¬ (k : Int) ≤ 8 := by omega
        rw [decide_eq_false h8] at hsb
        have HSB := Lib.hid hsb
        clear hsb
        go_wp2_with fail
        go_ret
        exact ⟨ret_bool HSB.out.symm, HA1.out.fr⟩
end Go.Proofs.Ytpnkgjkoophckaa

namespace Go.Proofs.Ytpnkgjkoophckaa
open Go.RowKit Go.Shelf

/-- A row of numbers of the call's own. -/
abbrev RF (a : Option Addr) (c : Nat) (L : List Nat) : OR := ⟨3, 1, .slice a L.length c, L.length, nL L⟩
theorem Rws.nils (base : Nat) (X : World) (L : List OR) (h : ∀ p, p ∈ L → p.v = .slice none 0 0 ∧ p.n = 0 ∧ p.xs = []) : Rws base X L := by
  refine ⟨fun i p hp => ?_, fun i j p q _ hp _ k e1 _ => ?_⟩
  · obtain ⟨h1, h2, h3⟩ := h p (List.mem_of_getElem? hp)
    rw [h1, h2, h3]
    exact World.ownsRow_nil _ _ _ _
  · rw [(h p (List.mem_of_getElem? hp)).1] at e1
    cases e1
theorem Rws.cast {base : Nat} {X : World} {L L' : List OR} (h : Rws base X L) (e : L = L') : Rws base X L' := e ▸ h
theorem rfI {base : Nat} {X : World} {L : List OR} (h : Rws base X L) {i : Nat} {a : Option Addr} {c : Nat} {Z : List Nat} (hi : L[i]? = some (RF a c Z)) : IntsIn X (.slice a Z.length c) Z.length (zL Z) := nL_ints (h.own i _ hi)
/-- A row with one number more. -/
theorem rfC {base : Nat} {X : World} {L L' : List OR} (h : Rws base X L) (i : Nat) {a : Option Addr} {c n : Nat} {xs : List Value} {Z : List Nat} (hi : L[i]? = some ⟨3, 1, .slice a n c, n, xs⟩) (he : L' = L.set i (RF a c Z)) (hn : Z.length = n) (hx : nL Z = xs) : Rws base X L' := by
  subst hn hx
  rw [he]
  have : L.set i (RF a c Z) = L := by
    refine List.ext_getElem? fun j => ?_
    rw [List.getElem?_set]
    by_cases e : i = j
    · subst e
      rw [if_pos rfl, hi]
      have : i < L.length := by
        rcases Nat.lt_or_ge i L.length with h | h
        · exact h
        · rw [List.getElem?_eq_none h] at hi; cases hi
      rw [if_pos this]
    · rw [if_neg e]
  rw [this]; exact h
set_option maxRecDepth 100000 in
set_option maxHeartbeats 16000000 in
theorem rFaults_any {m : Mp} (ok : OkM m) (x : MV) (a : Option Addr) (n cap : Nat) (U : Nat → LV) (Y : Nat → Wl) (lim : Int) (w : World) (hm : MpIn w x m) (h : PlIn w (.slice a n cap) n U Y) (hp : ∀ k, k < n → walkE m (Y k) = 0) (hn : n ≤ 8) (hy : ∀ k, k < n → (Y k).nl ≤ 100000 ∧ (Y k).nc ≤ 100000) :
    Calls Try.prog 49 #[.agg #[.slice x.wa m.nw x.wc, .slice x.ra m.nr x.rc], .slice a n cap, .int .i64 lim] w fun e w' => ∃ a1 c1 a2 c2 a3 c3, e = .returned (.tuple #[.slice a1 (misL Y n m.nw).length c1, .slice a2 (twiL Y n m.nw).length c2, .slice a3 (latL m Y lim n).length c3]) ∧ Rws w.heap.size w' [RF a1 c1 (misL Y n m.nw), RF a2 c2 (twiL Y n m.nw), RF a3 c3 (latL m Y lim n)] ∧ Below w.heap.size w w' := by
  obtain ⟨i0, hi0, hz0, hz1, hz2⟩ := info_parts Try.infoInt
  have hnw8 := ok.nw
  have HP := Lib.hid h
  have HHS := Lib.hid (fun k (hk : k < n) (z : Int) W (hW : Below w.heap.size w W) => rHas_any _ _ _ _ z W (hy k hk).2 ((h.wl k hk).below hW).ct)
  have HLG := Lib.hid (fun k (hk : k < n) W (hW : Below w.heap.size w W) => rLongest_any ok x (U k) (Y k) W (hm.below hW) ((h.wl k hk).below hW) (wlOk_of ok (hp k hk)) (hy k hk).2)
  clear h hm hp hy
  obtain ⟨LL, hLL⟩ : ∃ LL, LL = latL m Y lim := ⟨_, rfl⟩
  obtain ⟨ML, hML⟩ : ∃ ML, ML = misL Y n := ⟨_, rfl⟩
  obtain ⟨TL, hTL⟩ : ∃ TL, TL = twiL Y n := ⟨_, rfl⟩
  have HLS : Hid (∀ k, LL (k + 1) = if lim < lgY m (Y k) then LL k ++ [k] else LL k) := fun k => by rw [hLL]; exact latL_succ m Y lim k
  have HMS : Hid (∀ k : Nat, ML (k + 1) = if cntY Y (k : Int) n = 0 then ML k ++ [k] else ML k) := fun k => by rw [hML]; exact misL_succ Y n k
  have HTS : Hid (∀ k : Nat, TL (k + 1) = if 1 < cntY Y (k : Int) n then TL k ++ [k] else TL k) := fun k => by rw [hTL]; exact twiL_succ Y n k
  have HZ : Hid (ML 0 = [] ∧ TL 0 = [] ∧ LL 0 = []) := by rw [hML, hTL, hLL]; exact ⟨rfl, rfl, rfl⟩
  have HLE : Hid (∀ k, (ML k).length ≤ k ∧ (TL k).length ≤ k ∧ (LL k).length ≤ k) := fun k => by rw [hML, hTL, hLL]; exact ⟨misL_len _ _ _, twiL_len _ _ _, latL_len _ _ _ _⟩
  rw [← hLL, ← hML, ← hTL]
  clear hLL hML hTL
  have HA0 : Hid (BF w (w.alloc (.cells #[.slice x.wa m.nw x.wc, .slice x.ra m.nr x.rc] 25)) [(w.heap.size, #[.slice x.wa m.nw x.wc, .slice x.ra m.nr x.rc], 25)]) := (BF.base w).alloc _ _
  have HR0 : Hid (Rws w.heap.size (w.alloc (.cells #[.slice x.wa m.nw x.wc, .slice x.ra m.nr x.rc] 25)) [RF none 0 [], RF none 0 [], RF none 0 []]) := Rws.nils _ _ _ (by intro p hp; simp only [List.mem_cons, List.not_mem_nil, or_false, or_self] at hp; subst hp; exact ⟨rfl, rfl, rfl⟩)
  go_enter Try.func49, Try.ntmps49
  go_upto_region 1 with fail
  generalize w.alloc (.cells #[.slice x.wa m.nw x.wc, .slice x.ra m.nr x.rc] 25) = w0 at *
  go_wp2_with fail
  go_loopw [9, 10, 12] (fun s9 s10 i wr => ∃ (k : Nat) (ma : Option Addr) (mc : Nat) (ta : Option Addr) (tc : Nat), i = .int .i64 k ∧ k ≤ m.nw ∧ s9 = .slice ma (ML k).length mc ∧ s10 = .slice ta (TL k).length tc ∧ BF w wr [(w.heap.size, #[.slice x.wa m.nw x.wc, .slice x.ra m.nr x.rc], 25)] ∧ Rws w.heap.size wr [RF ma mc (ML k), RF ta tc (TL k), RF none 0 []]) (fun _ _ i _ => m.nw - (intOf i).toNat)
  case atStart => exact ⟨0, none, 0, none, 0, rfl, Nat.zero_le _, by rw [HZ.out.1]; rfl, by rw [HZ.out.2.1]; rfl, HA0.out, by rw [HZ.out.1, HZ.out.2.1]; exact HR0.out⟩
  case round =>
    clear HA0 HR0
    obtain ⟨k, ma, mc, ta, tc, rfl, hk, rfl, rfl, hbf, hrw⟩ := hrel
    rename World => wx
    have HA1 := Lib.hid hbf
    have HR1 := Lib.hid hrw
    clear hbf hrw
    have c0 := HA1.out.cell (.head _) 0
    have c1 := HA1.out.cell (.head _) 1
    by_cases hlt : k < m.nw
    · have kn : (k : Int) < (m.nw : Int) := by omega
      go_wp2_with fail
      go_loopw [13, 14] (fun s13 i wr => ∃ j : Nat, i = .int .i64 j ∧ j ≤ n ∧ s13 = .int .i64 ((cntY Y (k : Int) j : Nat) : Int) ∧ BF w wr [(w.heap.size, #[.slice x.wa m.nw x.wc, .slice x.ra m.nr x.rc], 25)] ∧ Rws w.heap.size wr [RF ma mc (ML k), RF ta tc (TL k), RF none 0 []]) (fun _ i _ => n - (intOf i).toNat)
      case atStart => exact ⟨0, rfl, Nat.zero_le _, rfl, HA1.out, HR1.out⟩
      case round =>
        clear HA1 HR1 c0 c1
        obtain ⟨j, rfl, hj, rfl, hbf, hrw⟩ := hrel
        rename World => wy
        have HA2 := Lib.hid hbf
        have HR2 := Lib.hid hrw
        clear hbf hrw
        have HLEN : Hid ((ML k).length ≤ 8 ∧ (TL k).length ≤ 8) := by have := HLE.out k; exact ⟨by omega, by omega⟩
        by_cases hjn : j < n
        · obtain ⟨b, off, rfl, hb, x0, x1⟩ := HP.out.ps.at hjn
          have y1 := kept HA2.out.fr hb x1
          have ki : (0 : Int) ≤ (j : Int) := by omega
          have kj : (j : Int) < (n : Int) := by omega
          have HHK := Lib.hid (HHS.out j hjn (k : Int))
          have HCS : Hid (cntY Y (k : Int) (j + 1) = cntY Y (k : Int) j + (if hasB (Y j).ct (Y j).nc (k : Int) = true then 1 else 0)) := rfl
          have hcl := cntY_le Y (k : Int) j
          obtain ⟨cj, hcj⟩ : ∃ cj, cntY Y (k : Int) j = cj := ⟨_, rfl⟩
          obtain ⟨cn, hcn⟩ : ∃ cn, cntY Y (k : Int) (j + 1) = cn := ⟨_, rfl⟩
          have HCN := Lib.hid hcn
          obtain ⟨hv, hhv⟩ : ∃ hv, hasB (Y j).ct (Y j).nc (k : Int) = hv := ⟨_, rfl⟩
          rw [hcj] at HCS hcl
          rw [hcn, hhv] at HCS
          rw [hhv] at HHK
          rw [hcj]
          clear hcj hcn hhv x0 x1
          go_wp2_with fail
          refine (HHK.out _ HA2.out.fr).mono ?_
          rintro _ w3 ⟨rfl, rfl⟩
          cases hv
          · have hcc : cn = cj := HCS.out
            go_wp2_with fail
            go_roundw
            case rel => exact ⟨j + 1, by go_num, by omega, by rw [HCN.out, hcc], HA2.out, HR2.out⟩
            case measure => simp [intOf]; omega
          · have hcc : cn = cj + 1 := HCS.out
            go_wp2_with fail
            go_roundw
            case rel => exact ⟨j + 1, by go_num, by omega, by rw [HCN.out, hcc]; congr 1, HA2.out, HR2.out⟩
            case measure => simp [intOf]; omega
        · obtain rfl : j = n := by omega
          have hms := HMS.out k
          have hts := HTS.out k
          obtain ⟨cn, hcn⟩ : ∃ cn, cntY Y (k : Int) j = cn := ⟨_, rfl⟩
          rw [hcn] at hms hts
          rw [hcn]
          clear hcn
          by_cases q0 : cn = 0
          · subst q0
            rw [if_pos rfl] at hms
            rw [if_neg (by omega)] at hts
            have HMK := Lib.hid hms
            have HTK := Lib.hid hts
            clear hms hts
            go_wp2_with (at_builtin; refine wpList_append_src _ rfl (.tmp 40) (.tmp 42) 26 rfl w.heap.size 3 i0 (.int .i64 0) 1 8 Try.underlying26 hi0 hz0 hz1 hz2 rfl (by decide) (.slice ma (ML k).length mc) (ML k).length (nL (ML k)) rfl ((HR2.out.below (below_alloc _ _)).own 0 _ rfl) (some ⟨wy.heap.size, 0, none⟩) 1 1 [.int .i64 (k : Int)] rfl ⟨rfl, fun j u hu => ⟨_, rfl, World.news_of_block (heap_alloc_new wy _) j u hu⟩⟩ (by simp [Value.oneCell']) ?p1 ?p2 ?p3 ?_)
            case p1 => obtain ⟨hl1, hl2⟩ := HLEN.out; unfold maxLen; omega
            case p2 => obtain ⟨hl1, hl2⟩ := HLEN.out; omega
            case p3 => have := HA2.out.fr.size; simp; omega
            intro v2 w6 hown hgr hlt1
            obtain ⟨ea, ec, rfl⟩ := own_slice' hown
            have HR6 : Hid (Rws w.heap.size w6 [⟨3, 1, .slice ea ((ML k).length + 1) ec, (ML k).length + 1, nL (ML k) ++ [.int .i64 (k : Int)]⟩, RF ta tc (TL k), RF none 0 []]) := (HR2.out.below (below_alloc wy _)).app2 (i := 0) rfl hown hgr (by simpa using hlt1)
            have HA6 : Hid (BF w w6 [(w.heap.size, #[.slice x.wa m.nw x.wc, .slice x.ra m.nr x.rc], 25)]) := (HA2.out.below (below_alloc wy (.cells #[.int .i64 (k : Int)] 3))).grow (HR2.out.below (below_alloc wy _)) (i := 0) rfl (List.forall_mem_cons.2 ⟨show 25 ≠ 3 by decide, List.forall_mem_nil _⟩) (Nat.le_refl _) hgr
            clear hown hgr hlt1
            go_wp2_with fail
            go_roundw
            case rel => exact ⟨k + 1, ea, ec, ta, tc, by go_num, by omega, by rw [HMK.out, List.length_append]; rfl, by rw [HTK.out], HA6.out, by rw [HMK.out, HTK.out]; exact rfC HR6.out 0 rfl rfl (by simp) (nL_snoc _ _)⟩
            case measure => simp [intOf]; omega
          · rw [if_neg q0] at hms
            have kz : ((cn : Int) == 0) = false := by simp; omega
            by_cases q1 : 1 < cn
            · rw [if_pos q1] at hts
              have HMK := Lib.hid hms
              have HTK := Lib.hid hts
              have kg : (1 : Int) < (cn : Int) := by omega
              clear hms hts
              go_wp2_with (at_builtin; refine wpList_append_src _ rfl (.tmp 46) (.tmp 48) 26 rfl w.heap.size 3 i0 (.int .i64 0) 1 8 Try.underlying26 hi0 hz0 hz1 hz2 rfl (by decide) (.slice ta (TL k).length tc) (TL k).length (nL (TL k)) rfl ((HR2.out.below (below_alloc _ _)).own 1 _ rfl) (some ⟨wy.heap.size, 0, none⟩) 1 1 [.int .i64 (k : Int)] rfl ⟨rfl, fun j u hu => ⟨_, rfl, World.news_of_block (heap_alloc_new wy _) j u hu⟩⟩ (by simp [Value.oneCell']) ?q1 ?q2 ?q3 ?_)
              case q1 => obtain ⟨hl1, hl2⟩ := HLEN.out; unfold maxLen; omega
              case q2 => obtain ⟨hl1, hl2⟩ := HLEN.out; omega
              case q3 => have := HA2.out.fr.size; simp; omega
              intro v2 w6 hown hgr hlt1
              obtain ⟨ea, ec, rfl⟩ := own_slice' hown
              have HR6 : Hid (Rws w.heap.size w6 [RF ma mc (ML k), ⟨3, 1, .slice ea ((TL k).length + 1) ec, (TL k).length + 1, nL (TL k) ++ [.int .i64 (k : Int)]⟩, RF none 0 []]) := (HR2.out.below (below_alloc wy _)).app2 (i := 1) rfl hown hgr (by simpa using hlt1)
              have HA6 : Hid (BF w w6 [(w.heap.size, #[.slice x.wa m.nw x.wc, .slice x.ra m.nr x.rc], 25)]) := (HA2.out.below (below_alloc wy (.cells #[.int .i64 (k : Int)] 3))).grow (HR2.out.below (below_alloc wy _)) (i := 1) rfl (List.forall_mem_cons.2 ⟨show 25 ≠ 3 by decide, List.forall_mem_nil _⟩) (Nat.le_refl _) hgr
              clear hown hgr hlt1
              go_wp2_with fail
              go_roundw
              case rel => exact ⟨k + 1, ma, mc, ea, ec, by go_num, by omega, by rw [HMK.out], by rw [HTK.out, List.length_append]; rfl, HA6.out, by rw [HMK.out, HTK.out]; exact rfC HR6.out 1 rfl rfl (by simp) (nL_snoc _ _)⟩
              case measure => simp [intOf]; omega
            · rw [if_neg q1] at hts
              have HMK := Lib.hid hms
              have HTK := Lib.hid hts
              have kg : ¬ (1 : Int) < (cn : Int) := by omega
              clear hms hts
              go_wp2_with fail
              go_roundw
              case rel => exact ⟨k + 1, ma, mc, ta, tc, by go_num, by omega, by rw [HMK.out], by rw [HTK.out], HA2.out, by rw [HMK.out, HTK.out]; exact HR2.out⟩
              case measure => simp [intOf]; omega
    · obtain rfl : k = m.nw := by omega
      go_wp2_with fail
      go_loopw [11, 15] (fun s11 i wr => ∃ (k : Nat) (la : Option Addr) (lc : Nat), i = .int .i64 k ∧ k ≤ n ∧ s11 = .slice la (LL k).length lc ∧ BF w wr [(w.heap.size, #[.slice x.wa m.nw x.wc, .slice x.ra m.nr x.rc], 25)] ∧ Rws w.heap.size wr [RF ma mc (ML m.nw), RF ta tc (TL m.nw), RF la lc (LL k)]) (fun _ i _ => n - (intOf i).toNat)
      case atStart => exact ⟨0, none, 0, rfl, Nat.zero_le _, by rw [HZ.out.2.2]; rfl, HA1.out, by rw [HZ.out.2.2]; exact HR1.out⟩
      case round =>
        clear HA1 HR1 c0 c1
        obtain ⟨k, la, lc, rfl, hk, rfl, hbf, hrw⟩ := hrel
        rename World => wy
        have HA2 := Lib.hid hbf
        have HR2 := Lib.hid hrw
        clear hbf hrw
        have HLEN : Hid ((LL k).length ≤ 8 ∧ True) := by have := HLE.out k; exact ⟨by omega, trivial⟩
        by_cases hlt : k < n
        · have ki : (0 : Int) ≤ (k : Int) := by omega
          have kn : (k : Int) < (n : Int) := by omega
          obtain ⟨b, off, rfl, hb, x0, x1⟩ := HP.out.ps.at hlt
          have HK := Lib.hid (HLG.out k hlt)
          have HLK := Lib.hid (HLS.out k)
          rw [show timeZ m (Y k) (fun i => (m.wk i).2) (fun i => (m.rt i).2) = lgY m (Y k) from rfl] at HK
          obtain ⟨lg, hlg⟩ : ∃ lg, lgY m (Y k) = lg := ⟨_, rfl⟩
          rw [hlg] at HK HLK
          clear hlg
          go_upto_region 18 with fail
          have HAX : Hid (BF w wy.drew [(w.heap.size, #[.slice x.wa m.nw x.wc, .slice x.ra m.nr x.rc], 25)]) := HA2.out.below (Below.refl _ _).drew
          have HRX := Lib.hid (HR2.out.below (Below.refl _ _).drew)
          clear HA2 HR2
          refine wp_region_Z (S := fun X => X.cell? ⟨w.heap.size, 0, none⟩ = some (.slice x.wa m.nw x.wc) ∧ X.cell? ⟨w.heap.size, 1, none⟩ = some (.slice x.ra m.nr x.rc) ∧ X.cell? ⟨b, off + k * 2, none⟩ = some (.slice (U k).ra (Y k).nl (U k).rc) ∧ X.cell? ⟨b, off + k * 2 + 1, none⟩ = some (.slice (U k).ca (Y k).nc (U k).cc)) (by kernel_rfl) (⟨HAX.out.cell (.head _) 0, HAX.out.cell (.head _) 1, kept HAX.out.fr hb x0, kept HAX.out.fr hb x1⟩) (fun hS => ?_)
          generalize wy.drew = X at *
          refine tk [0, 1, 2, 3, 4, 6] ?_
          repeat (refine tkZ (oi := ⟨_, _, _, _, _, _⟩) (v := ?_) rfl (by kernel_rfl) (by rfl) (fun _ _ _ h => h) hS ?_ ?_; rotate_left; (· rintro W' ⟨z0, z1, z2, z3⟩; go_simp; try with_reducible rfl); try simp only [Act.put, putA, putZ, putS])
          refine tk0 ?_
          refine wpAnyZ_next (rs := [5]) (by kernel_rfl) (by simp) ?_
          refine NextZ.cons (o := ⟨some 61, _, _, _, _, _⟩) rfl (fun K hK => ?_) NextZ.nil
          go_simp
          refine (HK.out X HAX.out.fr).mono ?_
          rintro _ X0 ⟨rfl, hb0⟩
          (try go_wp2_with fail)
          have HA0 := Lib.hid (HAX.out.below hb0)
          have HR0 := Lib.hid (HRX.out.below hb0)
          refine hK.out _ _ (⟨HA0.out.cell (.head _) 0, HA0.out.cell (.head _) 1, kept HA0.out.fr hb x0, kept HA0.out.fr hb x1⟩) (fun hS => ?_)
          clear hK K
          try simp only [Act.put, putA, putZ, putS]
          clear hb0
          refine tZ 7 (oi := ⟨_, _, _, _, _, _⟩) (v := ?_) rfl (by kernel_rfl) (by rfl) (fun _ _ _ h => h) hS ?_ ?_
          rotate_left
          · rintro W' ⟨z0, z1, z2, z3⟩; go_simp; try with_reducible rfl
          try simp only [Act.put, putA, putZ, putS]
          refine wpAnyZ_done (by kernel_rfl) ?_ _
          by_cases hle : lim < lg
          · have hst := HLK.out
            rw [if_pos hle] at hst
            go_wp2_with (at_builtin; refine wpList_append_src _ rfl (.tmp 64) (.tmp 66) 26 rfl w.heap.size 3 i0 (.int .i64 0) 1 8 Try.underlying26 hi0 hz0 hz1 hz2 rfl (by decide) (.slice la (LL k).length lc) (LL k).length (nL (LL k)) rfl ((HR0.out.below (below_alloc _ _)).own 2 _ rfl) (some ⟨X0.heap.size, 0, none⟩) 1 1 [.int .i64 (k : Int)] rfl ⟨rfl, fun j u hu => ⟨_, rfl, World.news_of_block (heap_alloc_new X0 _) j u hu⟩⟩ (by simp [Value.oneCell']) ?r1 ?r2 ?r3 ?_)
            case r1 => obtain ⟨hl1, hl2⟩ := HLEN.out; unfold maxLen; omega
            case r2 => obtain ⟨hl1, hl2⟩ := HLEN.out; omega
            case r3 => have := HA0.out.fr.size; simp; omega
            intro v2 w6 hown hgr hlt1
            obtain ⟨ea, ec, rfl⟩ := own_slice' hown
            have HR6 : Hid (Rws w.heap.size w6 [RF ma mc (ML m.nw), RF ta tc (TL m.nw), ⟨3, 1, .slice ea ((LL k).length + 1) ec, (LL k).length + 1, nL (LL k) ++ [.int .i64 (k : Int)]⟩]) := (HR0.out.below (below_alloc X0 _)).app2 (i := 2) rfl hown hgr (by simpa using hlt1)
            have HA6 : Hid (BF w w6 [(w.heap.size, #[.slice x.wa m.nw x.wc, .slice x.ra m.nr x.rc], 25)]) := (HA0.out.below (below_alloc X0 (.cells #[.int .i64 (k : Int)] 3))).grow (HR0.out.below (below_alloc X0 _)) (i := 2) rfl (List.forall_mem_cons.2 ⟨show 25 ≠ 3 by decide, List.forall_mem_nil _⟩) (Nat.le_refl _) hgr
            clear hown hgr hlt1
            go_wp2_with fail
            go_roundw
            case rel => exact ⟨k + 1, ea, ec, by go_num, by omega, by rw [hst, List.length_append]; rfl, HA6.out, by rw [hst]; exact rfC HR6.out 2 rfl rfl (by simp) (nL_snoc _ _)⟩
            case measure => simp [intOf]; omega
          · have hst := HLK.out
            rw [if_neg hle] at hst
            go_wp2_with fail
            go_roundw
            case rel => exact ⟨k + 1, la, lc, by go_num, by omega, by rw [hst], HA0.out, by rw [hst]; exact HR0.out⟩
            case measure => simp [intOf]; omega
        · obtain rfl : k = n := by omega
          go_wp2_with fail
          exact bodyPost_ret (v := .tuple #[.slice ma (ML m.nw).length mc, .slice ta (TL m.nw).length tc, .slice la (LL k).length lc]) (by simp [results, Try.results49, go_sem]) rfl ⟨ma, mc, ta, tc, la, lc, rfl, HR2.out, HA2.out.fr⟩
end Go.Proofs.Ytpnkgjkoophckaa

namespace Go.Proofs.Ytpnkgjkoophckaa
open Go.RowKit Go.Shelf

/-- The error of the first walks. -/
def peN (m : Mp) (Y : Nat → Wl) (k : Nat) : Int := if allB (fun q => decide (walkE m (Y q) = 0)) k = true then 0 else 2
theorem peN_zero (m : Mp) (Y : Nat → Wl) : peN m Y 0 = 0 := if_pos (allB_true fun q hq => by omega)
theorem peN_succ (m : Mp) (Y : Nat → Wl) (k : Nat) : peN m Y (k + 1) = if walkE m (Y k) = 0 then peN m Y k else 2 := by
  unfold peN
  by_cases h : walkE m (Y k) = 0
  · rw [if_pos h]
    by_cases h2 : allB (fun q => decide (walkE m (Y q) = 0)) k = true
    · rw [if_pos h2, if_pos (allB_true fun q hq => by
        rcases Nat.lt_succ_iff_lt_or_eq.1 hq with hq | rfl
        · exact allB_iff.1 h2 q hq
        · exact decide_eq_true h)]
    · rw [if_neg h2, if_neg (fun h3 => h2 (allB_true fun q hq => allB_iff.1 h3 q (by omega)))]
  · rw [if_neg h, if_neg (fun h3 => h (of_decide_eq_true (allB_iff.1 h3 k (by omega))))]
theorem walkE_cases (m : Mp) (y : Wl) : (64 < y.nl ∧ walkE m y = 3) ∨ (y.nl ≤ 64 ∧ (walkE m y = 0 ∨ walkE m y = 2)) := by
  by_cases h : 64 < y.nl
  · exact .inl ⟨h, walkE_3 h⟩
  · refine .inr ⟨by omega, ?_⟩
    cases h2 : walkOk m y
    · exact .inr (walkE_2 h h2)
    · exact .inl (walkE_0 h h2)
theorem planE_3 {m : Mp} {Y : Nat → Wl} {n k : Nat} (hk : k < n) (h : 64 < (Y k).nl) : planE m Y n = 3 := by
  unfold planE
  by_cases h8 : 8 < n
  · rw [if_pos h8]
  · rw [if_neg h8, if_pos (allB_false hk (decide_eq_false (by omega)))]
theorem planE_pe {m : Mp} {Y : Nat → Wl} {n : Nat} (h8 : ¬ 8 < n) (h : ∀ k, k < n → (Y k).nl ≤ 64) : planE m Y n = peN m Y n := by
  unfold planE peN
  rw [if_neg h8, if_neg (by rw [allB_true fun k hk => decide_eq_true (h k hk)]; simp)]
set_option maxRecDepth 100000 in
set_option maxHeartbeats 8000000 in
theorem plan_any (x : MV) (m : Mp) (a : Option Addr) (n cap : Nat) (U : Nat → LV) (Y : Nat → Wl) (w : World) (hm : MpIn w x m) (h : PlIn w (.slice a n cap) n U Y) (hn : n ≤ 100000) (hy : ∀ k, k < n → (Y k).nl ≤ 100000 ∧ (Y k).nc ≤ 100000) (hnr : m.nr ≤ 100000) :
    Calls Try.prog 94 #[.agg #[.slice x.wa m.nw x.wc, .slice x.ra m.nr x.rc], .slice a n cap] w fun e w' => e = .returned (.int .i64 (planE m Y n)) ∧ Below w.heap.size w w' := by
  have HWK := Lib.hid (fun k (hk : k < n) W (hW : Below w.heap.size w W) => walk_any x m (U k) (Y k) W (hm.below hW) ((h.wl k hk).below hW) hnr (hy k hk).1 (hy k hk).2)
  have HP := Lib.hid h
  have HC := Lib.hid (fun k => walkE_cases m (Y k))
  have H3 := Lib.hid (fun k (hk : k < n) (h : 64 < (Y k).nl) => planE_3 (m := m) hk h)
  have HPE : Hid (¬ 8 < n → (∀ k, k < n → (Y k).nl ≤ 64) → planE m Y n = peN m Y n) := fun h1 h2 => planE_pe h1 h2
  have HP0 := Lib.hid (peN_zero m Y)
  have HPS := Lib.hid (peN_succ m Y)
  have HB8 : Hid (8 < n → planE m Y n = 3) := fun h => if_pos h
  clear h hm hy
  generalize planE m Y n = pe at *
  generalize peN m Y = en at *
  have HA0 : Hid (BF w (w.alloc (.cells #[.slice x.wa m.nw x.wc, .slice x.ra m.nr x.rc] 37)) [(w.heap.size, #[.slice x.wa m.nw x.wc, .slice x.ra m.nr x.rc], 37)]) := (BF.base w).alloc _ _
  go_enter Try.func94, Try.ntmps94
  go_upto_region 1 with fail
  generalize w.alloc (.cells #[.slice x.wa m.nw x.wc, .slice x.ra m.nr x.rc] 37) = w0 at *
  by_cases h8 : 8 < n
  · have k8 : (8 : Int) < (n : Int) := by omega
    go_wp2_with fail
    go_ret
    exact ⟨ret_int (HB8.out h8).symm, HA0.out.fr⟩
  have k8 : ¬ (8 : Int) < (n : Int) := by omega
  go_wp2_with fail
  go_loopw [4, 12] (fun s4 i wr => ∃ k : Nat, i = .int .i64 k ∧ k ≤ n ∧ s4 = .int .i64 (en k) ∧ (∀ q, q < k → (Y q).nl ≤ 64) ∧ BF w wr [(w.heap.size, #[.slice x.wa m.nw x.wc, .slice x.ra m.nr x.rc], 37)]) (fun _ i _ => n - (intOf i).toNat)
  case atStart => exact ⟨0, rfl, Nat.zero_le _, by rw [HP0.out], fun q hq => by omega, HA0.out⟩
  case round =>
    clear HA0
    obtain ⟨k, rfl, hk, rfl, hall, hbf⟩ := hrel
    rename World => wx
    have HA1 := Lib.hid hbf
    have HAL := Lib.hid hall
    clear hbf hall
    by_cases hlt : k < n
    · have ki : (0 : Int) ≤ (k : Int) := by omega
      have kn : (k : Int) < (n : Int) := by omega
      have hck := HC.out k
      have hps := HPS.out k
      have h3k := H3.out k hlt
      have HK := Lib.hid (HWK.out k hlt)
      obtain ⟨b, off, rfl, hb, x0, x1⟩ := (HP.out.below HA1.out.fr).ps.at hlt
      have HA2 : Hid (BF w (wx.alloc (.cells #[.slice (U k).ra (Y k).nl (U k).rc, .slice (U k).ca (Y k).nc (U k).cc] 30)) [(wx.heap.size, #[.slice (U k).ra (Y k).nl (U k).rc, .slice (U k).ca (Y k).nc (U k).cc], 30), (w.heap.size, #[.slice x.wa m.nw x.wc, .slice x.ra m.nr x.rc], 37)]) := HA1.out.alloc _ _
      obtain ⟨we, hwe⟩ : ∃ we, walkE m (Y k) = we := ⟨_, rfl⟩
      rw [hwe] at hck hps HK
      have HCK := Lib.hid hck
      have HPK := Lib.hid hps
      have H3K := Lib.hid h3k
      clear hwe hck hps h3k
      go_upto_region 6 with fail
      generalize wx.alloc (.cells #[.slice (U k).ra (Y k).nl (U k).rc, .slice (U k).ca (Y k).nc (U k).cc] 30) = w2 at *
      generalize wx.heap.size = wb at *
      have d0 := HA2.out.cell (.head _) 0
      have d1 := HA2.out.cell (.head _) 1
      have e0 := HA2.out.cell (.tail _ (.head _)) 0
      have e1 := HA2.out.cell (.tail _ (.head _)) 1
      go_wp2_with fail
      refine (HK.out _ HA2.out.fr).mono ?_
      rintro _ w3 ⟨rfl, hb3⟩
      have HA3 := Lib.hid (HA2.out.below hb3)
      clear hb3 d0 d1 e0 e1 x0 x1
      have HA4 : Hid (BF w w3 [(w.heap.size, #[.slice x.wa m.nw x.wc, .slice x.ra m.nr x.rc], 37)]) := HA3.out.sub (List.forall_mem_cons.2 ⟨.tail _ (.head _), List.forall_mem_nil _⟩)
      by_cases q3 : we = 3
      · subst q3
        go_wp2_with fail
        go_ret
        exact ⟨ret_int (by rcases HCK.out with ⟨h, _⟩ | ⟨_, h | h⟩; exact (H3K.out h).symm; exact absurd h (by decide); exact absurd h (by decide)), HA4.out.fr⟩
      have k3 : (we == 3) = false := by simpa using q3
      have HL64 : Hid ((Y k).nl ≤ 64 ∧ (we = 0 ∨ we = 2)) := by rcases HCK.out with ⟨_, h⟩ | h; exact absurd h q3; exact h
      by_cases q2 : we = 2
      · subst q2
        have hpk : en (k + 1) = 2 := by rw [HPK.out]; exact if_neg (by decide)
        go_wp2_with fail
        go_roundw
        case rel => exact ⟨k + 1, by go_num, by omega, by rw [hpk], fun q hq => by rcases Nat.lt_succ_iff_lt_or_eq.1 hq with h | rfl; exact HAL.out q h; exact HL64.out.1, HA4.out⟩
        case measure => simp [intOf]; omega
      · have k2 : (we == 2) = false := by simpa using q2
        have hpk : en (k + 1) = en k := by rw [HPK.out]; exact if_pos (HL64.out.2.resolve_right q2)
        go_wp2_with fail
        go_roundw
        case rel => exact ⟨k + 1, by go_num, by omega, by rw [hpk], fun q hq => by rcases Nat.lt_succ_iff_lt_or_eq.1 hq with h | rfl; exact HAL.out q h; exact HL64.out.1, HA4.out⟩
        case measure => simp [intOf]; omega
    · have hkn : k = n := by omega
      subst hkn
      go_wp2_with fail
      go_ret
      exact ⟨ret_int (HPE.out h8 HAL.out).symm, HA1.out.fr⟩
/-- What is counted when j places of walk k are. -/
def cP (Y : Nat → Wl) (k j : Nat) (i : Nat) : Int := ((cntY Y (i : Int) k : Nat) : Int) + (if hasB (Y k).ct j (i : Int) = true then 1 else 0)
def cF (Y : Nat → Wl) (k : Nat) (i : Nat) : Int := ((cntY Y (i : Int) k : Nat) : Int)
theorem cP_zero (Y : Nat → Wl) (k : Nat) : cP Y k 0 = cF Y k := by
  funext i
  unfold cP cF
  rw [if_neg]
  · omega
  · intro h; obtain ⟨j, hj, _⟩ := hasB_iff.1 h; omega
theorem cP_end (Y : Nat → Wl) (k : Nat) : cP Y k (Y k).nc = cF Y (k + 1) := by
  funext i
  unfold cP cF
  show _ = ((cntY Y (i : Int) k + (if hasB (Y k).ct (Y k).nc (i : Int) = true then 1 else 0) : Nat) : Int)
  by_cases h : hasB (Y k).ct (Y k).nc (i : Int) = true
  · rw [if_pos h, if_pos h]; omega
  · rw [if_neg h, if_neg h]; omega
theorem cP_bd (Y : Nat → Wl) (k j i : Nat) : 0 ≤ cP Y k j i ∧ cP Y k j i ≤ k + 1 := by
  have := cntY_le Y (i : Int) k
  unfold cP
  split <;> omega
theorem cP_step {m : Mp} {Y : Nat → Wl} {k : Nat} (hy : WlOk m (Y k)) {j p nw : Nat} (hj : j < (Y k).nc) (hp : (Y k).ct j = p) (hpn : p < nw) : (iL (cP Y k j) nw).set p (.int .i64 (cP Y k j p + 1)) = iL (cP Y k (j + 1)) nw := by
  rw [iL_set _ _ hpn]
  refine iL_congr fun i hi => ?_
  have h1 : ∀ q, q < j → (Y k).ct q < (Y k).ct j := fun q hq => by
    have := rises_lt hy.ris (j - q - 1) q (by omega)
    rw [show q + (j - q - 1) + 1 = j by omega] at this
    exact this
  by_cases e : i = p
  · subst e
    rw [if_pos rfl]
    unfold cP
    rw [if_neg (fun h => by obtain ⟨q, hq, e⟩ := hasB_iff.1 h; have := h1 q hq; omega), if_pos (hasB_iff.2 ⟨j, by omega, hp⟩)]
    omega
  · rw [if_neg e]
    unfold cP
    have : hasB (Y k).ct (j + 1) (i : Int) = hasB (Y k).ct j (i : Int) := by
      rw [Bool.eq_iff_iff, hasB_iff, hasB_iff]
      constructor
      · rintro ⟨q, hq, h⟩
        rcases Nat.lt_succ_iff_lt_or_eq.1 hq with hq | rfl
        · exact ⟨q, hq, h⟩
        · omega
      · rintro ⟨q, hq, h⟩
        exact ⟨q, by omega, h⟩
    rw [this]
theorem Rws.tl {base : Nat} {X : World} {r : OR} {L : List OR} (h : Rws base X (r :: L)) : Rws base X L :=
  ⟨fun i p hp => h.own (i + 1) p hp, fun i j p q hij hp hq => h.dis (i + 1) (j + 1) p q (by omega) hp hq⟩
theorem eA_zero (N : Nat) : madeCells (Value.int .i64 0).cells (N * 1) = eA (fun _ => .int .i64 0) N := by
  have h : (madeCells (Value.int .i64 0).cells (N * 1)).toList = (List.range N).map (fun _ => Value.int .i64 0) := by
    rw [Nat.mul_one, List.map_const', List.length_range]
    exact toList_madeCells_one _ _
  unfold eA
  rw [← h]
theorem make_ints (N : Nat) (hN : N ≤ 100000) (W : World) : (Instr.makeSlice 26 (.int .i64 (N : Int)) (.int .i64 (N : Int))).run Try.prog W = .ok (.slice (some ⟨W.heap.size, 0, none⟩) N N) (W.alloc (.cells (eA (fun _ => .int .i64 0) N) 3)) := by
  obtain ⟨i, hi, hz, h1, h2⟩ := info_parts Try.infoInt
  have := run_makeSlice (P := Try.prog) W 26 3 i (.int .i64 0) Try.underlying26 hi hz .i64 .i64 N N (by omega) (Int.le_refl _) (by rw [h1, Int.toNat_natCast]; omega) (by rw [h2]; omega) (by omega)
  rw [h1, Int.toNat_natCast, eA_zero] at this
  exact this
theorem eA_cF (Y : Nat → Wl) (N : Nat) : (eA (fun _ => .int .i64 0) N).toList = iL (cF Y 0) N := rfl
/-- What Faults gives. -/
def GivesF (w : World) (m : Mp) (Y : Nat → Wl) (n : Nat) (lim : Int) (e : Ending) (w' : World) : Prop :=
  Below w.heap.size w w' ∧
    ((fltE m Y n lim ≠ 0 ∧ e = .returned (.tuple #[.slice none 0 0, .slice none 0 0, .slice none 0 0, .int .i64 (fltE m Y n lim)])) ∨
     (fltE m Y n lim = 0 ∧ ∃ a1 c1 a2 c2 a3 c3, e = .returned (.tuple #[.slice a1 (misL Y n m.nw).length c1, .slice a2 (twiL Y n m.nw).length c2, .slice a3 (latL m Y lim n).length c3, .int .i64 0]) ∧ Rws w.heap.size w' [RF a1 c1 (misL Y n m.nw), RF a2 c2 (twiL Y n m.nw), RF a3 c3 (latL m Y lim n)]))
theorem fltE_ok {m : Mp} {Y : Nat → Wl} {n : Nat} {lim : Int} (h : fltE m Y n lim = 0) : m.fault = 0 ∧ planE m Y n = 0 := by
  unfold fltE at h
  by_cases h1 : m.fault = 0
  · rw [if_neg (by simpa using h1)] at h
    by_cases h2 : planE m Y n = 0
    · exact ⟨h1, h2⟩
    · rw [if_pos h2] at h; exact absurd h h2
  · rw [if_pos h1] at h; exact absurd h h1
set_option maxRecDepth 100000 in
set_option maxHeartbeats 32000000 in
theorem Faults_any (x : MV) (m : Mp) (a : Option Addr) (n cap : Nat) (U : Nat → LV) (Y : Nat → Wl) (lim : Int) (w : World) (hm : MpIn w x m) (h : PlIn w (.slice a n cap) n U Y) (hn : n ≤ 100000) (hy : ∀ k, k < n → (Y k).nl ≤ 100000 ∧ (Y k).nc ≤ 100000) (hnw : m.nw ≤ 100000) (hnr : m.nr ≤ 100000) :
    Calls Try.prog 62 #[.agg #[.slice x.wa m.nw x.wc, .slice x.ra m.nr x.rc], .slice a n cap, .int .i64 lim] w (GivesF w m Y n lim) := by
  obtain ⟨i0, hi0, hz0, hz1, hz2⟩ := info_parts Try.infoInt
  have HMP := Lib.hid hm
  have HP := Lib.hid h
  have HY := Lib.hid hy
  have HCK := Lib.hid (fun W (hW : Below w.heap.size w W) => check_any x m W (hm.below hW) hnw hnr)
  have HPN := Lib.hid (fun W (hW : Below w.heap.size w W) => plan_any x m a n cap U Y W (hm.below hW) (h.below hW) hn hy hnr)
  have HLI := Lib.hid (fun W => limited_any lim W)
  have HTE : Hid (fltE m Y n lim = if m.fault ≠ 0 then m.fault else if planE m Y n ≠ 0 then planE m Y n else if inB lim 0 10000 = true then 0 else 2) := rfl
  have HOKM : Hid (fltE m Y n lim = 0 → OkM m ∧ n ≤ 8 ∧ ∀ k, k < n → walkE m (Y k) = 0) := fun e => ⟨okM_of (fltE_ok e).1, planE_ok (fltE_ok e).2⟩
  unfold GivesF
  clear h hm hy
  obtain ⟨LL, hLL⟩ : ∃ LL, LL = latL m Y lim := ⟨_, rfl⟩
  obtain ⟨ML, hML⟩ : ∃ ML, ML = misL Y n := ⟨_, rfl⟩
  obtain ⟨TL, hTL⟩ : ∃ TL, TL = twiL Y n := ⟨_, rfl⟩
  have HLS : Hid (∀ k, LL (k + 1) = if lim < lgY m (Y k) then LL k ++ [k] else LL k) := fun k => by rw [hLL]; exact latL_succ m Y lim k
  have HMS : Hid (∀ k : Nat, ML (k + 1) = if cntY Y (k : Int) n = 0 then ML k ++ [k] else ML k) := fun k => by rw [hML]; exact misL_succ Y n k
  have HTS : Hid (∀ k : Nat, TL (k + 1) = if 1 < cntY Y (k : Int) n then TL k ++ [k] else TL k) := fun k => by rw [hTL]; exact twiL_succ Y n k
  have HZ : Hid (ML 0 = [] ∧ TL 0 = [] ∧ LL 0 = []) := by rw [hML, hTL, hLL]; exact ⟨rfl, rfl, rfl⟩
  have HLE : Hid (∀ k, (ML k).length ≤ k ∧ (TL k).length ≤ k ∧ (LL k).length ≤ k) := fun k => by rw [hML, hTL, hLL]; exact ⟨misL_len _ _ _, twiL_len _ _ _, latL_len _ _ _ _⟩
  rw [← hLL, ← hML, ← hTL]
  clear hLL hML hTL
  generalize fltE m Y n lim = te at *
  generalize m.fault = ft at *
  generalize planE m Y n = pe at *
  generalize inB lim 0 10000 = ib at *
  have HA0 : Hid (BF w (w.alloc (.cells #[.slice x.wa m.nw x.wc, .slice x.ra m.nr x.rc] 37)) [(w.heap.size, #[.slice x.wa m.nw x.wc, .slice x.ra m.nr x.rc], 37)]) := (BF.base w).alloc _ _
  go_enter Try.func62, Try.ntmps62
  go_upto_region 1 with fail
  generalize w.alloc (.cells #[.slice x.wa m.nw x.wc, .slice x.ra m.nr x.rc] 37) = w0 at *
  have c0 := HA0.out.cell (.head _) 0
  have c1 := HA0.out.cell (.head _) 1
  by_cases k1 : ft = 0
  case neg =>
    have kb : (ft != 0) = true := by simp [k1]
    have hte := HTE.out
    rw [if_pos k1] at hte
    go_wp2_with (go_at_call 51; refine (HCK.out _ HA0.out.fr).mono ?_; rintro _ w1 ⟨rfl, hb⟩; have HA1 := Lib.hid (HA0.out.below hb); clear hb)
    exact bodyPost_ret (v := .tuple #[.slice none 0 0, .slice none 0 0, .slice none 0 0, .int .i64 ft]) (by simp [results, Try.results62, go_sem]) rfl ⟨HA1.out.fr, .inl ⟨by rw [hte]; exact k1, by rw [hte]⟩⟩
  subst k1
  have HTE2 : Hid (te = if pe ≠ 0 then pe else if ib = true then 0 else 2) := HTE.out
  clear HTE
  by_cases k2 : pe = 0
  case neg =>
    have kb : (pe != 0) = true := by simp [k2]
    have hte := HTE2.out
    rw [if_pos k2] at hte
    go_wp2_with (first | (go_at_call 51; refine (HCK.out _ HA0.out.fr).mono ?_; rintro _ w1 ⟨rfl, hb⟩; have HA1 := Lib.hid (HA0.out.below hb); have d0 := HA1.out.cell (.head _) 0; have d1 := HA1.out.cell (.head _) 1; clear hb) | (go_at_call 94; refine (HPN.out _ HA1.out.fr).mono ?_; rintro _ w2 ⟨rfl, hb⟩; have HA2 := Lib.hid (HA1.out.below hb); clear hb))
    exact bodyPost_ret (v := .tuple #[.slice none 0 0, .slice none 0 0, .slice none 0 0, .int .i64 pe]) (by simp [results, Try.results62, go_sem]) rfl ⟨HA2.out.fr, .inl ⟨by rw [hte]; exact k2, by rw [hte]⟩⟩
  subst k2
  have HTE3 : Hid (te = if ib = true then 0 else 2) := HTE2.out
  clear HTE2
  cases ib
  · have HTE4 : Hid (te = 2) := HTE3.out
    clear HTE3
    go_wp2_with (first | (go_at_call 51; refine (HCK.out _ HA0.out.fr).mono ?_; rintro _ w1 ⟨rfl, hb⟩; have HA1 := Lib.hid (HA0.out.below hb); have d0 := HA1.out.cell (.head _) 0; have d1 := HA1.out.cell (.head _) 1; clear hb) | (go_at_call 94; refine (HPN.out _ HA1.out.fr).mono ?_; rintro _ w2 ⟨rfl, hb⟩; have HA2 := Lib.hid (HA1.out.below hb); clear hb) | (go_at_call 81; refine (HLI.out _).mono ?_; rintro _ w3 ⟨rfl, rfl⟩))
    exact bodyPost_ret (v := .tuple #[.slice none 0 0, .slice none 0 0, .slice none 0 0, .int .i64 2]) (by simp [results, Try.results62, go_sem]) rfl ⟨HA2.out.fr, .inl ⟨by rw [HTE4.out]; decide, by rw [HTE4.out]⟩⟩
  have HTE4 : Hid (te = 0) := HTE3.out
  clear HTE3
  obtain ⟨hok, hn8, hwk⟩ := HOKM.out HTE4.out
  have hnw8 := hok.nw
  have HYK := Lib.hid (fun k (hk : k < n) => wlOk_of hok (hwk k hk))
  have HSL := Lib.hid (fun W (hW : Below w.heap.size w W) => slow_any x m W (HMP.out.below hW) hnw hnr)
  have HTM := Lib.hid (fun k (hk : k < n) W (hW : Below w.heap.size w W) z hz => time_any x m (U k) (Y k) z (fun i => (m.wk i).2) (fun i => (m.rt i).2) W (HMP.out.below hW) ((HP.out.wl k hk).below hW) hz hok (HYK.out k hk) (HY.out k hk).2 (trBd_high hok))
  clear HOKM hok hwk
  have hmk := fun W => make_ints m.nw hnw W
  have kw0 : (0 : Int) ≤ (m.nw : Int) := by omega
  go_wp2_with (first | (go_at_call 51; refine (HCK.out _ HA0.out.fr).mono ?_; rintro _ w1 ⟨rfl, hb⟩; have HA1 := Lib.hid (HA0.out.below hb); have d0 := HA1.out.cell (.head _) 0; have d1 := HA1.out.cell (.head _) 1; clear hb) | (go_at_call 94; refine (HPN.out _ HA1.out.fr).mono ?_; rintro _ w2 ⟨rfl, hb⟩; have HA2 := Lib.hid (HA1.out.below hb); have f0 := HA2.out.cell (.head _) 0; have f1 := HA2.out.cell (.head _) 1; clear hb) | (go_at_call 81; refine (HLI.out _).mono ?_; rintro _ w3 ⟨rfl, rfl⟩))
  have HA3 : Hid (BF w (w2.alloc (.cells (eA (fun _ => .int .i64 0) m.nw) 3)) [(w.heap.size, #[.slice x.wa m.nw x.wc, .slice x.ra m.nr x.rc], 37)]) := HA2.out.below (below_alloc _ _)
  have HR3 : Hid (Rws w.heap.size (w2.alloc (.cells (eA (fun _ => .int .i64 0) m.nw) 3)) [⟨3, 1, .slice (some ⟨w2.heap.size, 0, none⟩) m.nw m.nw, m.nw, iL (cF Y 0) m.nw⟩, RF none 0 [], RF none 0 [], RF none 0 []]) := (Rws.new (Rws.nils w.heap.size w2 [⟨3, 1, .slice none 0 0, 0, []⟩, RF none 0 [], RF none 0 [], RF none 0 []] (by intro p hp; simp only [List.mem_cons, List.not_mem_nil, or_false, or_self] at hp; rcases hp with rfl | rfl <;> exact ⟨rfl, rfl, rfl⟩)) (i := 0) rfl HA2.out.fr.size (by simp [eA]) (by unfold maxLen; omega)).cast rfl
  generalize w2.alloc (.cells (eA (fun _ => .int .i64 0) m.nw) 3) = w3 at *
  generalize w2.heap.size = g at *
  clear HA0 HA1 HA2 c0 c1 d0 d1 f0 f1 hmk HCK HPN HLI
  go_loopw [8, 39] (fun s8 i wr => ∃ (k : Nat) (la : Option Addr) (lc : Nat), i = .int .i64 k ∧ k ≤ n ∧ s8 = .slice la (LL k).length lc ∧ BF w wr [(w.heap.size, #[.slice x.wa m.nw x.wc, .slice x.ra m.nr x.rc], 37)] ∧ Rws w.heap.size wr [⟨3, 1, .slice (some ⟨g, 0, none⟩) m.nw m.nw, m.nw, iL (cF Y k) m.nw⟩, RF none 0 [], RF none 0 [], RF la lc (LL k)]) (fun _ i _ => n - (intOf i).toNat)
  case atStart => exact ⟨0, none, 0, rfl, Nat.zero_le _, by rw [HZ.out.2.2]; rfl, HA3.out, by rw [HZ.out.2.2]; exact HR3.out⟩
  case round =>
    clear HA3 HR3
    obtain ⟨k, la, lc, rfl, hk, rfl, hbf, hrw⟩ := hrel
    rename World => wx
    have HA1 := Lib.hid hbf
    have HR1 := Lib.hid hrw
    clear hbf hrw
    by_cases hlt : k < n
    · have ki : (0 : Int) ≤ (k : Int) := by omega
      have kn : (k : Int) < (n : Int) := by omega
      have HTK := Lib.hid (HTM.out k hlt)
      have HWI := Lib.hid (HP.out.wl k hlt)
      have HLK := Lib.hid (HLS.out k)
      have HLEN : Hid ((LL k).length ≤ 8 ∧ True) := by have := HLE.out k; exact ⟨by omega, trivial⟩
      rw [show timeZ m (Y k) (fun i => (m.wk i).2) (fun i => (m.rt i).2) = lgY m (Y k) from rfl] at HTK
      obtain ⟨lg, hlg⟩ : ∃ lg, lgY m (Y k) = lg := ⟨_, rfl⟩
      rw [hlg] at HTK HLK
      clear hlg
      obtain ⟨b, off, rfl, hb, x0, x1⟩ := (HP.out.below HA1.out.fr).ps.at hlt
      have HKC : Hid (∀ j, j < (Y k).nc → ∃ p : Nat, (Y k).ct j = p ∧ p < m.nw) := (HYK.out k hlt).ct
      have HCS : Hid (∀ j p, j < (Y k).nc → (Y k).ct j = (p : Nat) → p < m.nw → (iL (cP Y k j) m.nw).set p (.int .i64 (cP Y k j p + 1)) = iL (cP Y k (j + 1)) m.nw) := fun j p hj hp hpn => cP_step (HYK.out k hlt) hj hp hpn
      have HCE := Lib.hid (cP_end Y k)
      have HCB := Lib.hid (fun j i => cP_bd Y k j i)
      have hnc := (HY.out k hlt).2
      have hcz := cP_zero Y k
      rw [← hcz] at HR1
      clear hcz
      generalize cP Y k = cp at *
      obtain ⟨y, hye⟩ : ∃ y, Y k = y := ⟨_, rfl⟩
      have HYE := Lib.hid hye
      obtain ⟨u, hue⟩ : ∃ u, U k = u := ⟨_, rfl⟩
      rw [hye] at HTK HWI HKC HCS HCE x0 x1 hnc
      rw [hue] at HTK HWI x0 x1
      clear hye hue
      obtain ⟨ra, rc, ca, cc⟩ := u
      obtain ⟨nl, rt, nc, ct⟩ := y
      simp only at HTK HWI HKC HCS HCE x0 x1 hnc
      have HA2 : Hid (BF w (wx.alloc (.cells #[.slice ra nl rc, .slice ca nc cc] 30)) [(wx.heap.size, #[.slice ra nl rc, .slice ca nc cc], 30), (w.heap.size, #[.slice x.wa m.nw x.wc, .slice x.ra m.nr x.rc], 37)]) := HA1.out.alloc _ _
      have HR2 := Lib.hid (HR1.out.below (below_alloc wx (.cells #[.slice ra nl rc, .slice ca nc cc] 30)))
      go_upto_region 13 with fail
      generalize wx.alloc (.cells #[.slice ra nl rc, .slice ca nc cc] 30) = w2 at *
      generalize wx.heap.size = wb at *
      have d0 := HA2.out.cell (.head _) 0
      have d1 := HA2.out.cell (.head _) 1
      clear HA1 HR1 x0 x1
      go_wp2_with fail
      go_loopw [47] (fun i wr => ∃ j : Nat, i = .int .i64 j ∧ j ≤ nc ∧ BF w wr [(wb, #[.slice ra nl rc, .slice ca nc cc], 30), (w.heap.size, #[.slice x.wa m.nw x.wc, .slice x.ra m.nr x.rc], 37)] ∧ Rws w.heap.size wr [⟨3, 1, .slice (some ⟨g, 0, none⟩) m.nw m.nw, m.nw, iL (cp j) m.nw⟩, RF none 0 [], RF none 0 [], RF la lc (LL k)]) (fun i _ => nc - (intOf i).toNat)
      case atStart => exact ⟨0, rfl, Nat.zero_le _, HA2.out, HR2.out⟩
      case round =>
        clear HA2 HR2 d0 d1
        obtain ⟨j, rfl, hj, hbf, hrw⟩ := hrel
        rename World => wy
        have HA3 := Lib.hid hbf
        have HR3 := Lib.hid hrw
        clear hbf hrw
        by_cases hjn : j < nc
        · obtain ⟨b2, off2, rfl, hb2, xj⟩ := (HWI.out.ct).at hjn
          obtain ⟨p, hp, hpn⟩ := HKC.out j hjn
          simp only at hp xj
          have HST := Lib.hid (HCS.out j p hjn hp hpn)
          rw [hp] at xj
          have yj := kept HA3.out.fr hb2 xj
          have hrx := HR3.out.own 0 _ rfl
          have e0 : wy.cell? ⟨g, p, none⟩ = some (.int .i64 (cp j p)) := (hrx.cellAt p (by simpa using hpn)).trans (iL_get _ hpn)
          have f0 := hrx.frozenAt p
          have hcb := HCB.out j p
          have ki : (0 : Int) ≤ (j : Int) := by omega
          have kj : (j : Int) < (nc : Int) := by omega
          have pi : (0 : Int) ≤ (p : Int) := by omega
          have pn : (p : Int) < (m.nw : Int) := by omega
          obtain ⟨v, hv⟩ : ∃ v, cp j p = v := ⟨_, rfl⟩
          rw [hv] at e0 HST hcb
          clear hv hrx hp xj
          have HA4 : Hid (BF w (wy.setCell ⟨g, p, none⟩ (.int .i64 (v + 1))) [(wb, #[.slice ra nl rc, .slice (some ⟨b2, off2, none⟩) nc cc], 30), (w.heap.size, #[.slice x.wa m.nw x.wc, .slice x.ra m.nr x.rc], 37)]) := BF.put (i := 0) HA3.out HR3.out rfl (List.forall_mem_cons.2 ⟨show 30 ≠ 3 by decide, List.forall_mem_cons.2 ⟨show 37 ≠ 3 by decide, List.forall_mem_nil _⟩⟩) (Nat.le_refl _)
          have HR4 : Hid (Rws w.heap.size (wy.setCell ⟨g, p, none⟩ (.int .i64 (v + 1))) [⟨3, 1, .slice (some ⟨g, 0, none⟩) m.nw m.nw, m.nw, iL (cp (j + 1)) m.nw⟩, RF none 0 [], RF none 0 [], RF la lc (LL k)]) := by
            have h := Rws.put (i := 0) (j := p) HR3.out rfl (.int .i64 (v + 1))
            rw [HST.out] at h
            exact h
          go_wp2_with fail
          go_roundw
          case rel => exact ⟨j + 1, by go_num, by omega, HA4.out, HR4.out⟩
          case measure => simp [intOf]; omega
        · obtain rfl : j = nc := by omega
          have HR4 : Hid (Rws w.heap.size wy [⟨3, 1, .slice (some ⟨g, 0, none⟩) m.nw m.nw, m.nw, iL (cF Y (k + 1)) m.nw⟩, RF none 0 [], RF none 0 [], RF la lc (LL k)]) := by rw [← HCE.out]; exact HR3.out
          clear HR3
          go_upto_region 18 with fail
          have HAX : Hid (BF w wy.drew [(wb, #[.slice ra nl rc, .slice ca j cc], 30), (w.heap.size, #[.slice x.wa m.nw x.wc, .slice x.ra m.nr x.rc], 37)]) := HA3.out.below (Below.refl _ _).drew
          have HRX := Lib.hid (HR4.out.below (Below.refl _ _).drew)
          clear HA3 HR4
          refine wp_region_Z (S := fun X => X.cell? ⟨wb, 0, none⟩ = some (.slice ra nl rc) ∧ X.cell? ⟨wb, 1, none⟩ = some (.slice ca j cc) ∧ X.cell? ⟨w.heap.size, 0, none⟩ = some (.slice x.wa m.nw x.wc) ∧ X.cell? ⟨w.heap.size, 1, none⟩ = some (.slice x.ra m.nr x.rc)) (by kernel_rfl) (⟨HAX.out.cell (.head _) 0, HAX.out.cell (.head _) 1, HAX.out.cell (.tail _ (.head _)) 0, HAX.out.cell (.tail _ (.head _)) 1⟩) (fun hS => ?_)
          generalize wy.drew = X at *
          refine tk [0, 1, 2, 5] ?_
          repeat (refine tkZ (oi := ⟨_, _, _, _, _, _⟩) (v := ?_) rfl (by kernel_rfl) (by rfl) (fun _ _ _ h => h) hS ?_ ?_; rotate_left; (· rintro W' ⟨z0, z1, z2, z3⟩; go_simp; try with_reducible rfl); try simp only [Act.put, putA, putZ, putS])
          refine tk0 ?_
          refine wpAnyZ_next (rs := [3]) (by kernel_rfl) (by simp) ?_
          refine NextZ.cons (o := ⟨some 61, _, _, _, _, _⟩) rfl (fun K hK => ?_) NextZ.nil
          go_simp
          refine (HSL.out X HAX.out.fr).mono ?_
          rintro _ X0 ⟨⟨h1, h2, h3, h4⟩, rfl, ht0, hb0⟩
          (try go_wp2_with fail)
          have HA0 := Lib.hid (HAX.out.below hb0)
          have HR0 := Lib.hid (HRX.out.below hb0)
          have HT0 := Lib.hid (ht0.tr)
          refine hK.out _ _ (⟨HA0.out.cell (.head _) 0, HA0.out.cell (.head _) 1, HA0.out.cell (.tail _ (.head _)) 0, HA0.out.cell (.tail _ (.head _)) 1⟩) (fun hS => ?_)
          clear hK K
          try simp only [Act.put, putA, putZ, putS]
          clear hb0 ht0
          refine wpAnyZ_next (rs := [4]) (by kernel_rfl) (by simp) ?_
          refine NextZ.cons (o := ⟨some 62, _, _, _, _, _⟩) rfl (fun K hK => ?_) NextZ.nil
          go_simp
          refine (HTK.out X0 HA0.out.fr ⟨h1, h2, h3, h4⟩ HT0.out).mono ?_
          rintro _ X1 ⟨rfl, hb1⟩
          (try go_wp2_with fail)
          have HA1 := Lib.hid (HA0.out.below hb1)
          have HR1 := Lib.hid (HR0.out.below hb1)
          refine hK.out _ _ (⟨HA1.out.cell (.head _) 0, HA1.out.cell (.head _) 1, HA1.out.cell (.tail _ (.head _)) 0, HA1.out.cell (.tail _ (.head _)) 1⟩) (fun hS => ?_)
          clear hK K
          try simp only [Act.put, putA, putZ, putS]
          clear hb1
          refine tZ 6 (oi := ⟨_, _, _, _, _, _⟩) (v := ?_) rfl (by kernel_rfl) (by rfl) (fun _ _ _ h => h) hS ?_ ?_
          rotate_left
          · rintro W' ⟨z0, z1, z2, z3⟩; go_simp; try with_reducible rfl
          try simp only [Act.put, putA, putZ, putS]
          refine wpAnyZ_done (by kernel_rfl) ?_ _
          have HAM : Hid (BF w X1 [(w.heap.size, #[.slice x.wa m.nw x.wc, .slice x.ra m.nr x.rc], 37)]) := HA1.out.sub (List.forall_mem_cons.2 ⟨(.tail _ (.head _)), List.forall_mem_nil _⟩)
          by_cases hle : lim < lg
          · have hst := HLK.out
            rw [if_pos hle] at hst
            go_wp2_with (at_builtin; refine wpList_append_src _ rfl (.tmp 65) (.tmp 67) 26 rfl w.heap.size 3 i0 (.int .i64 0) 1 8 Try.underlying26 hi0 hz0 hz1 hz2 rfl (by decide) (.slice la (LL k).length lc) (LL k).length (nL (LL k)) rfl ((HR1.out.below (below_alloc _ _)).own 3 _ rfl) (some ⟨X1.heap.size, 0, none⟩) 1 1 [.int .i64 (k : Int)] rfl ⟨rfl, fun j u hu => ⟨_, rfl, World.news_of_block (heap_alloc_new X1 _) j u hu⟩⟩ (by simp [Value.oneCell']) ?r1 ?r2 ?r3 ?_)
            case r1 => obtain ⟨hl1, hl2⟩ := HLEN.out; unfold maxLen; omega
            case r2 => obtain ⟨hl1, hl2⟩ := HLEN.out; omega
            case r3 => have := HAM.out.fr.size; simp; omega
            intro v2 w6 hown hgr hlt1
            obtain ⟨ea, ec, rfl⟩ := own_slice' hown
            have HR6 : Hid (Rws w.heap.size w6 [⟨3, 1, .slice (some ⟨g, 0, none⟩) m.nw m.nw, m.nw, iL (cF Y (k + 1)) m.nw⟩, RF none 0 [], RF none 0 [], ⟨3, 1, .slice ea ((LL k).length + 1) ec, (LL k).length + 1, nL (LL k) ++ [.int .i64 (k : Int)]⟩]) := (HR1.out.below (below_alloc X1 _)).app2 (i := 3) rfl hown hgr (by simpa using hlt1)
            have HA6 : Hid (BF w w6 [(w.heap.size, #[.slice x.wa m.nw x.wc, .slice x.ra m.nr x.rc], 37)]) := (HAM.out.below (below_alloc X1 (.cells #[.int .i64 (k : Int)] 3))).grow (HR1.out.below (below_alloc X1 _)) (i := 3) rfl (List.forall_mem_cons.2 ⟨show 37 ≠ 3 by decide, List.forall_mem_nil _⟩) (Nat.le_refl _) hgr
            clear hown hgr hlt1
            go_wp2_with fail
            go_roundw
            case rel => exact ⟨k + 1, ea, ec, by go_num, by omega, by rw [hst, List.length_append]; rfl, HA6.out, by rw [hst]; exact rfC HR6.out 3 rfl rfl (by simp) (nL_snoc _ _)⟩
            case measure => simp [intOf]; omega
          · have hst := HLK.out
            rw [if_neg hle] at hst
            go_wp2_with fail
            go_roundw
            case rel => exact ⟨k + 1, la, lc, by go_num, by omega, by rw [hst], HAM.out, by rw [hst]; exact HR1.out⟩
            case measure => simp [intOf]; omega
    · obtain rfl : k = n := by omega
      have c0 := HA1.out.cell (.head _) 0
      go_wp2_with fail
      go_loopw [6, 7, 72] (fun s6 s7 i wr => ∃ (q : Nat) (ma : Option Addr) (mc : Nat) (ta : Option Addr) (tc : Nat), i = .int .i64 q ∧ q ≤ m.nw ∧ s6 = .slice ma (ML q).length mc ∧ s7 = .slice ta (TL q).length tc ∧ BF w wr [(w.heap.size, #[.slice x.wa m.nw x.wc, .slice x.ra m.nr x.rc], 37)] ∧ Rws w.heap.size wr [⟨3, 1, .slice (some ⟨g, 0, none⟩) m.nw m.nw, m.nw, iL (cF Y k) m.nw⟩, RF ma mc (ML q), RF ta tc (TL q), RF la lc (LL k)]) (fun _ _ i _ => m.nw - (intOf i).toNat)
      case atStart => exact ⟨0, none, 0, none, 0, rfl, Nat.zero_le _, by rw [HZ.out.1]; rfl, by rw [HZ.out.2.1]; rfl, HA1.out, by rw [HZ.out.1, HZ.out.2.1]; exact HR1.out⟩
      case round =>
        clear HA1 HR1 c0
        obtain ⟨q, ma, mc, ta, tc, rfl, hq, rfl, rfl, hbf, hrw⟩ := hrel
        rename World => wy
        have HA2 := Lib.hid hbf
        have HR2 := Lib.hid hrw
        clear hbf hrw
        have HLEN : Hid ((ML q).length ≤ 8 ∧ (TL q).length ≤ 8) := by have := HLE.out q; exact ⟨by omega, by omega⟩
        by_cases hlt : q < m.nw
        · have qi : (0 : Int) ≤ (q : Int) := by omega
          have qn : (q : Int) < (m.nw : Int) := by omega
          have hms := HMS.out q
          have hts := HTS.out q
          have e0 : wy.cell? ⟨g, q, none⟩ = some (.int .i64 (cF Y k q)) := ((HR2.out.own 0 _ rfl).cellAt q (by simpa using hlt)).trans (iL_get _ hlt)
          rw [show cF Y k q = ((cntY Y (q : Int) k : Nat) : Int) from rfl] at e0
          obtain ⟨cn, hcn⟩ : ∃ cn, cntY Y (q : Int) k = cn := ⟨_, rfl⟩
          rw [hcn] at hms hts e0
          clear hcn
          by_cases q0 : cn = 0
          · subst q0
            rw [if_pos rfl] at hms
            rw [if_neg (by omega)] at hts
            have HMK := Lib.hid hms
            have HTK := Lib.hid hts
            clear hms hts
            go_wp2_with (at_builtin; refine wpList_append_src _ rfl (.tmp 80) (.tmp 82) 26 rfl w.heap.size 3 i0 (.int .i64 0) 1 8 Try.underlying26 hi0 hz0 hz1 hz2 rfl (by decide) (.slice ma (ML q).length mc) (ML q).length (nL (ML q)) rfl ((HR2.out.below (below_alloc _ _)).own 1 _ rfl) (some ⟨wy.heap.size, 0, none⟩) 1 1 [.int .i64 (q : Int)] rfl ⟨rfl, fun j u hu => ⟨_, rfl, World.news_of_block (heap_alloc_new wy _) j u hu⟩⟩ (by simp [Value.oneCell']) ?p1 ?p2 ?p3 ?_)
            case p1 => obtain ⟨hl1, hl2⟩ := HLEN.out; unfold maxLen; omega
            case p2 => obtain ⟨hl1, hl2⟩ := HLEN.out; omega
            case p3 => have := HA2.out.fr.size; simp; omega
            intro v2 w6 hown hgr hlt1
            obtain ⟨ea, ec, rfl⟩ := own_slice' hown
            have HR6 : Hid (Rws w.heap.size w6 [⟨3, 1, .slice (some ⟨g, 0, none⟩) m.nw m.nw, m.nw, iL (cF Y k) m.nw⟩, ⟨3, 1, .slice ea ((ML q).length + 1) ec, (ML q).length + 1, nL (ML q) ++ [.int .i64 (q : Int)]⟩, RF ta tc (TL q), RF la lc (LL k)]) := (HR2.out.below (below_alloc wy _)).app2 (i := 1) rfl hown hgr (by simpa using hlt1)
            have HA6 : Hid (BF w w6 [(w.heap.size, #[.slice x.wa m.nw x.wc, .slice x.ra m.nr x.rc], 37)]) := (HA2.out.below (below_alloc wy (.cells #[.int .i64 (q : Int)] 3))).grow (HR2.out.below (below_alloc wy _)) (i := 1) rfl (List.forall_mem_cons.2 ⟨show 37 ≠ 3 by decide, List.forall_mem_nil _⟩) (Nat.le_refl _) hgr
            clear hown hgr hlt1
            go_wp2_with fail
            go_roundw
            case rel => exact ⟨q + 1, ea, ec, ta, tc, by go_num, by omega, by rw [HMK.out, List.length_append]; rfl, by rw [HTK.out], HA6.out, by rw [HMK.out, HTK.out]; exact rfC HR6.out 1 rfl rfl (by simp) (nL_snoc _ _)⟩
            case measure => simp [intOf]; omega
          · rw [if_neg q0] at hms
            have kz : ((cn : Int) == 0) = false := by simp; omega
            by_cases q1 : 1 < cn
            · rw [if_pos q1] at hts
              have HMK := Lib.hid hms
              have HTK := Lib.hid hts
              have kg : (1 : Int) < (cn : Int) := by omega
              clear hms hts
              go_wp2_with (at_builtin; refine wpList_append_src _ rfl (.tmp 87) (.tmp 89) 26 rfl w.heap.size 3 i0 (.int .i64 0) 1 8 Try.underlying26 hi0 hz0 hz1 hz2 rfl (by decide) (.slice ta (TL q).length tc) (TL q).length (nL (TL q)) rfl ((HR2.out.below (below_alloc _ _)).own 2 _ rfl) (some ⟨wy.heap.size, 0, none⟩) 1 1 [.int .i64 (q : Int)] rfl ⟨rfl, fun j u hu => ⟨_, rfl, World.news_of_block (heap_alloc_new wy _) j u hu⟩⟩ (by simp [Value.oneCell']) ?q1 ?q2 ?q3 ?_)
              case q1 => obtain ⟨hl1, hl2⟩ := HLEN.out; unfold maxLen; omega
              case q2 => obtain ⟨hl1, hl2⟩ := HLEN.out; omega
              case q3 => have := HA2.out.fr.size; simp; omega
              intro v2 w6 hown hgr hlt1
              obtain ⟨ea, ec, rfl⟩ := own_slice' hown
              have HR6 : Hid (Rws w.heap.size w6 [⟨3, 1, .slice (some ⟨g, 0, none⟩) m.nw m.nw, m.nw, iL (cF Y k) m.nw⟩, RF ma mc (ML q), ⟨3, 1, .slice ea ((TL q).length + 1) ec, (TL q).length + 1, nL (TL q) ++ [.int .i64 (q : Int)]⟩, RF la lc (LL k)]) := (HR2.out.below (below_alloc wy _)).app2 (i := 2) rfl hown hgr (by simpa using hlt1)
              have HA6 : Hid (BF w w6 [(w.heap.size, #[.slice x.wa m.nw x.wc, .slice x.ra m.nr x.rc], 37)]) := (HA2.out.below (below_alloc wy (.cells #[.int .i64 (q : Int)] 3))).grow (HR2.out.below (below_alloc wy _)) (i := 2) rfl (List.forall_mem_cons.2 ⟨show 37 ≠ 3 by decide, List.forall_mem_nil _⟩) (Nat.le_refl _) hgr
              clear hown hgr hlt1
              go_wp2_with fail
              go_roundw
              case rel => exact ⟨q + 1, ma, mc, ea, ec, by go_num, by omega, by rw [HMK.out], by rw [HTK.out, List.length_append]; rfl, HA6.out, by rw [HMK.out, HTK.out]; exact rfC HR6.out 2 rfl rfl (by simp) (nL_snoc _ _)⟩
              case measure => simp [intOf]; omega
            · rw [if_neg q1] at hts
              have HMK := Lib.hid hms
              have HTK := Lib.hid hts
              have kg : ¬ (1 : Int) < (cn : Int) := by omega
              clear hms hts
              go_wp2_with fail
              go_roundw
              case rel => exact ⟨q + 1, ma, mc, ta, tc, by go_num, by omega, by rw [HMK.out], by rw [HTK.out], HA2.out, by rw [HMK.out, HTK.out]; exact HR2.out⟩
              case measure => simp [intOf]; omega
        · obtain rfl : q = m.nw := by omega
          go_wp2_with fail
          exact bodyPost_ret (v := .tuple #[.slice ma (ML m.nw).length mc, .slice ta (TL m.nw).length tc, .slice la (LL k).length lc, .int .i64 0]) (by simp [results, Try.results62, go_sem]) rfl ⟨HA2.out.fr, .inr ⟨HTE4.out, ma, mc, ta, tc, la, lc, rfl, HR2.out.tl⟩⟩
def proveB (m : Mp) (Y : Nat → Wl) (n : Nat) (lim many : Int) : Bool := decide (fltE m Y n lim = 0) && (rightB m Y n lim && decide ((n : Int) ≤ many))
set_option maxRecDepth 100000 in
set_option maxHeartbeats 8000000 in
theorem ProvePlan_any (x : MV) (m : Mp) (a : Option Addr) (n cap : Nat) (U : Nat → LV) (Y : Nat → Wl) (lim many : Int) (w : World) (hm : MpIn w x m) (h : PlIn w (.slice a n cap) n U Y) (hn : n ≤ 100000) (hy : ∀ k, k < n → (Y k).nl ≤ 100000 ∧ (Y k).nc ≤ 100000) (hnw : m.nw ≤ 100000) (hnr : m.nr ≤ 100000) :
    Calls Try.prog 64 #[.agg #[.slice x.wa m.nw x.wc, .slice x.ra m.nr x.rc], .slice a n cap, .int .i64 lim, .int .i64 many] w fun e w' => e = .returned (.bool (proveB m Y n lim many)) ∧ Below w.heap.size w w' := by
  have HFL := Lib.hid (fun W (hW : Below w.heap.size w W) => Faults_any x m a n cap U Y lim W (hm.below hW) (h.below hW) hn hy hnw hnr)
  unfold GivesF at HFL
  have HPB : Hid (proveB m Y n lim many = (decide (fltE m Y n lim = 0) && (decide ((misL Y n m.nw).length + (twiL Y n m.nw).length + (latL m Y lim n).length = 0) && decide ((n : Int) ≤ many)))) := rfl
  have HOKM : Hid (fltE m Y n lim = 0 → m.nw ≤ 8 ∧ n ≤ 8) := fun e => ⟨(okM_of (fltE_ok e).1).nw.2, (planE_ok (fltE_ok e).2).1⟩
  have HLE : Hid ((misL Y n m.nw).length ≤ m.nw ∧ (twiL Y n m.nw).length ≤ m.nw ∧ (latL m Y lim n).length ≤ n) := ⟨misL_len _ _ _, twiL_len _ _ _, latL_len _ _ _ _⟩
  clear h hm hy
  generalize fltE m Y n lim = te at *
  generalize proveB m Y n lim many = pb at *
  generalize misL Y n m.nw = ML at *
  generalize twiL Y n m.nw = TL at *
  generalize latL m Y lim n = LL at *
  have HA0 : Hid (BF w (w.alloc (.cells #[.slice x.wa m.nw x.wc, .slice x.ra m.nr x.rc] 37)) [(w.heap.size, #[.slice x.wa m.nw x.wc, .slice x.ra m.nr x.rc], 37)]) := (BF.base w).alloc _ _
  go_enter Try.func64, Try.ntmps64
  go_upto_region 1 with fail
  generalize w.alloc (.cells #[.slice x.wa m.nw x.wc, .slice x.ra m.nr x.rc] 37) = w0 at *
  have c0 := HA0.out.cell (.head _) 0
  have c1 := HA0.out.cell (.head _) 1
  go_wp2_with fail
  refine (HFL.out _ HA0.out.fr).mono ?_
  rintro e w1 ⟨hb, hc⟩
  have HA1 := Lib.hid (HA0.out.below hb)
  clear hb c0 c1 HFL
  rcases hc with ⟨h1, rfl⟩ | ⟨h1, a1, c1, a2, c2, a3, c3, rfl, _⟩
  · have kz : (te == 0) = false := by simpa using h1
    have hpb : pb = false := by rw [HPB.out, decide_eq_false h1]; rfl
    go_wp2_with fail
    go_ret
    exact ⟨ret_bool hpb.symm, HA1.out.fr⟩
  have hle := HLE.out
  have hok := HOKM.out h1
  subst h1
  obtain ⟨n1, hn1⟩ : ∃ n1, ML.length = n1 := ⟨_, rfl⟩
  obtain ⟨n2, hn2⟩ : ∃ n2, TL.length = n2 := ⟨_, rfl⟩
  obtain ⟨n3, hn3⟩ : ∃ n3, LL.length = n3 := ⟨_, rfl⟩
  rw [hn1, hn2, hn3] at hle HPB ⊢
  clear hn1 hn2 hn3
  have hpb : pb = (decide (n1 + n2 + n3 = 0) && decide ((n : Int) ≤ many)) := HPB.out
  have HPB2 := Lib.hid hpb
  clear hpb HPB HLE
  by_cases hz : n1 + n2 + n3 = 0
  · obtain ⟨rfl, rfl, rfl⟩ : n1 = 0 ∧ n2 = 0 ∧ n3 = 0 := ⟨by omega, by omega, by omega⟩
    by_cases hm : (n : Int) ≤ many
    · go_wp2_with fail
      go_ret
      exact ⟨ret_bool (by rw [HPB2.out, decide_eq_true hm]; rfl), HA1.out.fr⟩
    · go_wp2_with fail
      go_ret
      exact ⟨ret_bool (by rw [HPB2.out]; simp), HA1.out.fr⟩
  · have ks : ((n1 : Int) + (n2 : Int) + (n3 : Int) == 0) = false := by simp; omega
    go_wp2_with fail
    go_ret
    exact ⟨ret_bool (by rw [HPB2.out, decide_eq_false hz]; rfl), HA1.out.fr⟩
end Go.Proofs.Ytpnkgjkoophckaa
