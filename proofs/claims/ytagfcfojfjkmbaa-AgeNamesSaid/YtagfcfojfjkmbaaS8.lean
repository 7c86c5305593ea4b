/- age.Count. -/
import Derived.Test.YtagfcfojfjkmbaaS7
namespace Go.Proofs.Ytagfcfojfjkmbaa
open Go.RowKit Go.Shelf Go.Maps

def cLo (I O : Int → Bool) (z : Nat → Int) : Nat → Nat
  | 0 => 0
  | k + 1 => cLo I O z k + if I (z k) && !O (z k) then 1 else 0
def cHi (I : Int → Bool) (z : Nat → Int) : Nat → Nat
  | 0 => 0
  | k + 1 => cHi I z k + if I (z k) then 1 else 0
theorem cLo_le (I O : Int → Bool) (z : Nat → Int) (k : Nat) : cLo I O z k ≤ k := by
  induction k with
  | zero => exact Nat.le_refl _
  | succ k ih => rw [cLo]; split <;> omega
theorem cHi_le (I : Int → Bool) (z : Nat → Int) (k : Nat) : cHi I z k ≤ k := by
  induction k with
  | zero => exact Nat.le_refl _
  | succ k ih => rw [cHi]; split <;> omega
def cntI (f b m e lo hi x : Int) : Bool := ansI (agesF f b m e x 126) lo hi 121
def cntO (f b m e lo hi x : Int) : Bool := ansO (agesF f b m e x 126) lo hi 121
def cntOk (I O : Int → Bool) (z : Nat → Int) (n : Nat) : Bool := allB (fun j => I (z j) || O (z j)) n

theorem QM.mono {w : World} {f b m e : Int} {aI aO : Int → Bool} {bm n n' : Nat} (h : QM w f b m e aI aO bm n) (hn : n ≤ n') : QM w f b m e aI aO bm n' := by
  obtain ⟨D, h1, h2, h3⟩ := h; exact ⟨D, h1, h2.mono hn, h3⟩
theorem QM.setCell {w : World} {f b m e : Int} {aI aO : Int → Bool} {bm n : Nat} (h : QM w f b m e aI aO bm n) {p : Addr} (hp : p.block ≠ bm) (u : Value) : QM (w.setCell p u) f b m e aI aO bm n :=
  h.kept (row := some p.block) ⟨rfl, rfl, rfl, by simp [World.setCell], fun k _ hk => Below.heap_setCell _ _ _ _ (fun e => hk (by rw [e]))⟩ (fun e => hp (Option.some.inj e).symm)
theorem QM.below {w w' : World} {f b m e : Int} {aI aO : Int → Bool} {bm n : Nat} (h : QM w f b m e aI aO bm n) (hb : Below w.heap.size w w') : QM w' f b m e aI aO bm n :=
  h.kept (row := none) ⟨hb.1, hb.2, hb.3, hb.size, fun k hk _ => hb.block k hk⟩ (by simp)

def cntRes (I O : Int → Bool) (z : Nat → Int) (n : Nat) : Value := if cntOk I O z n = true then .tuple #[.agg #[.int .i64 (cLo I O z n), .int .i64 (cHi I z n)], .int .i64 0] else .tuple #[.agg #[.int .i64 0, .int .i64 0], .int .i64 9]
theorem cntRes_bad {I O : Int → Bool} {z : Nat → Int} {n : Nat} (h : cntOk I O z n = false) : cntRes I O z n = .tuple #[.agg #[.int .i64 0, .int .i64 0], .int .i64 9] := by unfold cntRes; rw [if_neg (by rw [h]; decide)]
theorem cntRes_ok {I O : Int → Bool} {z : Nat → Int} {n : Nat} (h : cntOk I O z n = true) : cntRes I O z n = .tuple #[.agg #[.int .i64 (cLo I O z n), .int .i64 (cHi I z n)], .int .i64 0] := by unfold cntRes; rw [if_pos h]

set_option maxRecDepth 100000 in
set_option maxHeartbeats 8000000 in
theorem count_ok (f b m e lo hi : Int) (sv : Value) (n : Nat) (z : Nat → Int) (w : World) (hr : okRule f b m e = true) (hz : IntsAt w sv n z) (hn : n ≤ 200) (hall : allB (fun j => inB (z j) 0 140) n = true) (h0 : 0 ≤ lo) (h1 : lo ≤ hi) (h2 : hi ≤ 120) :
    Calls Try.prog 59 #[.agg #[.int .i64 f, .int .i64 b, .int .i64 m, .int .i64 e], sv, .agg #[.int .i64 lo, .int .i64 hi]] w fun r w' => r = .returned (cntRes (cntI f b m e lo hi) (cntO f b m e lo hi) z n) ∧ Below w.heap.size w w' := by
  have HANS := Lib.hid (fun x W => answer_any f b m e x lo hi W hr)
  have HI : Hid (∀ x, ansI (agesF f b m e x 126) lo hi 121 = cntI f b m e lo hi x) := fun _ => rfl
  have HO : Hid (∀ x, ansO (agesF f b m e x 126) lo hi 121 = cntO f b m e lo hi x) := fun _ => rfl
  simp only [HI.out, HO.out] at HANS
  clear HI HO
  generalize cntI f b m e lo hi = I at *
  generalize cntO f b m e lo hi = O at *
  obtain ⟨a, cap, rfl⟩ := hz.len
  have HRO := Lib.hid hr
  have HALL : Hid (∀ j, j < n → 0 ≤ z j ∧ z j ≤ 140) := fun j hj => by
    simp only [allB, List.all_eq_true, List.mem_range] at hall
    simpa [inB] using hall j hj
  obtain ⟨_, hb3, q0, q1, q2⟩ := alloc3 w (.cells #[.int .i64 f, .int .i64 b, .int .i64 m, .int .i64 e] 80) (.cells #[.int .i64 lo, .int .i64 hi] 41) (.cells #[.int .i64 0, .int .i64 0] 41)
  have HB0 := Lib.hid hb3; have HQ0 := Lib.hid q0; have HQ1 := Lib.hid q1; have HQ2 := Lib.hid q2
  have HZ := Lib.hid hz
  clear hb3 q0 q1 q2 hz
  have hmm := @run_makeMap Try.prog
  go_enter Try.func59, Try.ntmps59
  go_wp2_with (go_at_call 78; refine (valid_any f b m e _).mono ?_; rintro r w1 ⟨rfl, hb1⟩)
  have HB1 : Hid (Below w.heap.size w w1) := below_step HB0.out hb1
  have HK0 : Hid (w1.heap[w.heap.size]? = some (.cells #[.int .i64 f, .int .i64 b, .int .i64 m, .int .i64 e] 80 (0, 0))) := (hb1.block _ (by simp; omega)).trans HQ0.out
  have HK1 : Hid (w1.heap[w.heap.size + 1]? = some (.cells #[.int .i64 lo, .int .i64 hi] 41 (0, 0))) := (hb1.block _ (by simp)).trans HQ1.out
  have HK2 : Hid (w1.heap[w.heap.size + 2]? = some (.cells #[.int .i64 0, .int .i64 0] 41 (0, 0))) := (hb1.block _ (by simp)).trans HQ2.out
  have hs1 : w.heap.size + 2 < w1.heap.size := (Array.getElem?_eq_some_iff.1 HK2.out).1
  clear hb1 HB0 HQ0 HQ1 HQ2
  refine (all_int n _ z _ (by omega) (HZ.out.below HB1.out)).mono ?_
  rintro _ w2 ⟨rfl, hb2⟩
  have HB2 : Hid (Below w1.heap.size w1 w2) := hb2
  have HC : Hid (∀ X : World, Below w1.heap.size w1 X → (X.cell? ⟨w.heap.size, 0, none⟩ = some (.int .i64 f) ∧ X.cell? ⟨w.heap.size, 1, none⟩ = some (.int .i64 b) ∧ X.cell? ⟨w.heap.size, 2, none⟩ = some (.int .i64 m) ∧ X.cell? ⟨w.heap.size, 3, none⟩ = some (.int .i64 e)) ∧ X.cell? ⟨w.heap.size + 1, 0, none⟩ = some (.int .i64 lo) ∧ X.cell? ⟨w.heap.size + 1, 1, none⟩ = some (.int .i64 hi) ∧ X.cell? ⟨w.heap.size + 1 + 1, 0, none⟩ = some (.int .i64 0) ∧ X.cell? ⟨w.heap.size + 1 + 1, 1, none⟩ = some (.int .i64 0) ∧ X.frozen? ⟨w.heap.size + 1 + 1, 0, none⟩ = false ∧ X.frozen? ⟨w.heap.size + 1 + 1, 1, none⟩ = false ∧ X.heap[w.heap.size + 1 + 1]? = some (.cells #[.int .i64 0, .int .i64 0] 41 (0, 0))) := fun X hX => by
    have k1 := (hX.block _ (by omega)).trans HK1.out
    have k2 := (hX.block _ (by omega)).trans HK2.out
    exact ⟨cells4 ((hX.block _ (by omega)).trans HK0.out), cell_of_row _ _ 0 _ _ _ k1, cell_of_row _ _ 1 _ _ _ k1, cell_of_row _ _ 0 _ _ _ k2, cell_of_row _ _ 1 _ _ _ k2, frozen_of_row _ _ 0 _ _ k2, frozen_of_row _ _ 1 _ _ k2, k2⟩
  obtain ⟨⟨d0, d1, d2, d3⟩, d4, d5, _⟩ := HC.out w2 hb2
  have hs2 := hb2.size
  clear hb2 HK0 HK1 HK2
  go_wp2
  have HO0 : Hid (((w2.alloc (.cells #[.int .i64 0, .int .i64 0] 41)).alloc (.map #[] 0)).heap[w2.heap.size]? = some (.cells #[.int .i64 (cLo I O z 0 : Nat), .int .i64 (cHi I z 0 : Nat)] 41 (0, 0))) := ((below_alloc (w2.alloc (.cells #[.int .i64 0, .int .i64 0] 41)) (.map #[] 0)).block _ (by simp)).trans (heap_alloc_new _ _)
  have HM0 : Hid (QM ((w2.alloc (.cells #[.int .i64 0, .int .i64 0] 41)).alloc (.map #[] 0)) f b m e I O (w2.heap.size + 1) 0) := by
    have := QM.made (w2.alloc (.cells #[.int .i64 0, .int .i64 0] 41)) f b m e I O
    rw [World.size_alloc] at this; exact this
  have HB3 : Hid (Below w2.heap.size w2 ((w2.alloc (.cells #[.int .i64 0, .int .i64 0] 41)).alloc (.map #[] 0))) := (below_alloc _ _).alloc (by simp) _
  go_loopw [50] (fun i wr => ∃ k : Nat, k ≤ n ∧ i = .int .i64 k ∧ wr.heap[w2.heap.size]? = some (.cells #[.int .i64 (cLo I O z k : Nat), .int .i64 (cHi I z k : Nat)] 41 (0, 0)) ∧ QM wr f b m e I O (w2.heap.size + 1) k ∧ Below w2.heap.size w2 wr ∧ ∀ j, j < k → (I (z j) || O (z j)) = true) (fun i _ => n - (intOf i).toNat)
  case atStart => exact ⟨0, Nat.zero_le _, rfl, HO0.out, HM0.out, HB3.out, fun j h => absurd h (Nat.not_lt_zero _)⟩
  case round =>
    clear HO0 HM0 HB3
    obtain ⟨k, hk, rfl, hob, hqm, hbl, hok⟩ := hrel
    have HOB := Lib.hid hob; have HQM := Lib.hid hqm; have HBL := Lib.hid hbl; have HOK := Lib.hid hok
    clear hob hqm hbl hok
    obtain ⟨⟨d0, d1, d2, d3⟩, d4, d5, d6, d7, d8, d9, d10⟩ := HC.out wr (below_step HB2.out HBL.out)
    by_cases hlt : k < n
    · have ki : (0 : Int) ≤ (k : Int) := by omega
      have kj : (k : Int) < (n : Int) := by omega
      rcases HZ.out.below (below_step HB1.out (below_step HB2.out HBL.out)) with ⟨e1, e2⟩ | ⟨sb, so, cp, e1, hsb, hcells⟩
      · omega
      cases e1
      have hx := hcells k hlt
      have hzk := HALL.out k hlt
      obtain ⟨vI, HVI⟩ : ∃ vI, Hid (I (z k) = vI) := ⟨_, rfl⟩
      obtain ⟨vO, HVO⟩ : ∃ vO, Hid (O (z k) = vO) := ⟨_, rfl⟩
      have HQA : Hid (QM (wr.alloc (.cells #[.int .i64 f, .int .i64 b, .int .i64 m, .int .i64 e, .int .i64 (z k)] 141)) f b m e I O (w2.heap.size + 1) k) := HQM.out.below (below_alloc _ _)
      have hszw : w2.heap.size + 1 < wr.heap.size := HQM.out.lt
      go_upto_region 14 with (at_lookup; refine wpList_lookup_qm _ rfl (.tmp 58) (.tmp 59) rfl f b m e (z k) HRO.out hzk I O (w2.heap.size + 1) k (by rfl) HQA.out (by rfl) ?_; intro hh)
      rw [HVI.out, HVO.out]
      have hbl : Below w2.heap.size w2 ((wr.alloc (.cells #[.int .i64 f, .int .i64 b, .int .i64 m, .int .i64 e, .int .i64 (z k)] 141)).alloc (.cells #[.bool (hh && vI), .bool (hh && vO)] 143)) := below_step HBL.out ((below_alloc _ _).alloc (by simp) _)
      have hob : ((wr.alloc (.cells #[.int .i64 f, .int .i64 b, .int .i64 m, .int .i64 e, .int .i64 (z k)] 141)).alloc (.cells #[.bool (hh && vI), .bool (hh && vO)] 143)).heap[w2.heap.size]? = some (.cells #[.int .i64 (cLo I O z k : Nat), .int .i64 (cHi I z k : Nat)] 41 (0, 0)) := (((below_alloc wr (.cells #[.int .i64 f, .int .i64 b, .int .i64 m, .int .i64 e, .int .i64 (z k)] 141)).alloc (by simp) (.cells #[.bool (hh && vI), .bool (hh && vO)] 143)).block _ (by omega)).trans HOB.out
      have hqm : QM ((wr.alloc (.cells #[.int .i64 f, .int .i64 b, .int .i64 m, .int .i64 e, .int .i64 (z k)] 141)).alloc (.cells #[.bool (hh && vI), .bool (hh && vO)] 143)) f b m e I O (w2.heap.size + 1) k := HQA.out.below (below_alloc _ _)
      obtain ⟨A, hA, ha⟩ : ∃ A : Nat, A = wr.heap.size + 1 ∧ ((wr.alloc (.cells #[.int .i64 f, .int .i64 b, .int .i64 m, .int .i64 e, .int .i64 (z k)] 141)).alloc (.cells #[.bool (hh && vI), .bool (hh && vO)] 143)).heap[A]? = some (.cells #[.bool (hh && vI), .bool (hh && vO)] 143 (0, 0)) := ⟨_, rfl, by have := heap_alloc_new (wr.alloc (.cells #[.int .i64 f, .int .i64 b, .int .i64 m, .int .i64 e, .int .i64 (z k)] 141)) (.cells #[.bool (hh && vI), .bool (hh && vO)] 143); rw [World.size_alloc] at this; exact this⟩
      obtain ⟨B, hB, hq⟩ : ∃ B : Nat, B = wr.heap.size ∧ ((wr.alloc (.cells #[.int .i64 f, .int .i64 b, .int .i64 m, .int .i64 e, .int .i64 (z k)] 141)).alloc (.cells #[.bool (hh && vI), .bool (hh && vO)] 143)).heap[B]? = some (.cells #[.int .i64 f, .int .i64 b, .int .i64 m, .int .i64 e, .int .i64 (z k)] 141 (0, 0)) := ⟨_, rfl, ((below_alloc (wr.alloc (.cells #[.int .i64 f, .int .i64 b, .int .i64 m, .int .i64 e, .int .i64 (z k)] 141)) (.cells #[.bool (hh && vI), .bool (hh && vO)] 143)).block _ (by simp)).trans (heap_alloc_new _ _)⟩
      rw [← hA, ← hB]
      have hA2 : w2.heap.size + 1 < A := by omega
      have hB2 : w2.heap.size + 1 < B := by omega
      have hAB : A ≠ B := by omega
      clear hA hB HQA hszw
      generalize ((wr.alloc (.cells #[.int .i64 f, .int .i64 b, .int .i64 m, .int .i64 e, .int .i64 (z k)] 141)).alloc (.cells #[.bool (hh && vI), .bool (hh && vO)] 143)) = X at *
      clear d0 d1 d2 d3 d4 d5 d6 d7 d8 d9 d10 HOB HQM HBL
      cases hh
      · simp only [Bool.false_and] at ha ⊢
        obtain ⟨⟨d0, d1, d2, d3⟩, d4, d5, d6, d7, d8, d9, d10⟩ := HC.out X (below_step HB2.out hbl)
        have hAX : A < X.heap.size := (Array.getElem?_eq_some_iff.1 ha).1
        have hBX : B < X.heap.size := (Array.getElem?_eq_some_iff.1 hq).1
        have hOX : w2.heap.size < X.heap.size := (Array.getElem?_eq_some_iff.1 hob).1
        go_upto_region 16 with (go_at_call 89; refine (HANS.out _ _).mono ?_; rintro _ w4 ⟨rfl, hb4⟩; have ha4 := (hb4.block _ hAX).trans ha; have x0 := cell_of_row _ _ 0 _ _ _ ha4; have x1 := cell_of_row _ _ 1 _ _ _ ha4; have x2 := frozen_of_row _ _ 0 _ _ ha4; have x3 := frozen_of_row _ _ 1 _ _ ha4)
        rw [HVI.out, HVO.out]
        have hbl5 : Below w2.heap.size w2 ((w4.setCell ⟨A, 0, none⟩ (.bool vI)).setCell ⟨A, 1, none⟩ (.bool vO)) := ((below_step hbl hb4).setCell (by show w2.heap.size ≤ A; omega) _).setCell (by show w2.heap.size ≤ A; omega) _
        have hfr : Fr (fun q => q = A) w4 ((w4.setCell ⟨A, 0, none⟩ (.bool vI)).setCell ⟨A, 1, none⟩ (.bool vO)) := (Fr.set _ _ _ _).trans (Fr.set _ _ _ _)
        have hs4 := hb4.size
        have hob5 := (hfr.block _ (by omega) (by omega)).trans ((hb4.block _ hOX).trans hob)
        have hq5 := (hfr.block _ (by omega) (fun e => hAB e.symm)).trans ((hb4.block _ hBX).trans hq)
        have ha5 : ((w4.setCell ⟨A, 0, none⟩ (.bool vI)).setCell ⟨A, 1, none⟩ (.bool vO)).heap[A]? = some (.cells #[.bool vI, .bool vO] 143 (0, 0)) := by simp [World.setCell, Array.getElem?_modify, ha4]
        have hqm5 := ((hqm.below hb4).setCell (p := ⟨A, 0, none⟩) (by show A ≠ w2.heap.size + 1; omega) (.bool vI)).setCell (p := ⟨A, 1, none⟩) (by show A ≠ w2.heap.size + 1; omega) (.bool vO)
        clear hfr ha4 x0 x1 x2 x3 hb4 hs4 d0 d1 d2 d3 d4 d5 d6 d7 d8 d9 d10 hob hq ha hqm hbl hAX hBX hOX
        generalize ((w4.setCell ⟨A, 0, none⟩ (.bool vI)).setCell ⟨A, 1, none⟩ (.bool vO)) = Y at *
        have y0 := cell_of_row _ _ 0 _ _ _ hq5
        have y1 := cell_of_row _ _ 1 _ _ _ hq5
        have y2 := cell_of_row _ _ 2 _ _ _ hq5
        have y3 := cell_of_row _ _ 3 _ _ _ hq5
        have y4 := cell_of_row _ _ 4 _ _ _ hq5
        have x0 := cell_of_row _ _ 0 _ _ _ ha5
        have x1 := cell_of_row _ _ 1 _ _ _ ha5
        have HQY := Lib.hid hqm5
        go_upto_region 17 with (at_mapUpdate; refine wpList_update_qm _ rfl (.tmp 69) (.tmp 70) (.tmp 71) rfl f b m e (z k) HRO.out hzk I O (w2.heap.size + 1) k (by unfold maxLen; omega) (by rfl) HQY.out (by rfl) (by rw [HVI.out, HVO.out]; rfl) ?_; intro w5 hqm hgr)
        have hfr := Fr.grown hgr
        have hbl := hbl5.trans (hfr.low hbl5.size (fun q hq e => by have := Option.some.inj e; omega))
        have hob := (hfr.block _ (Array.getElem?_eq_some_iff.1 hob5).1 (fun e => by have := Option.some.inj e; omega)).trans hob5
        have ha := (hfr.block _ (Array.getElem?_eq_some_iff.1 ha5).1 (fun e => by have := Option.some.inj e; omega)).trans ha5
        clear hfr hgr hqm5 HQY y0 y1 y2 y3 y4 x0 x1 hob5 ha5 hq5 hbl5 X w4
        obtain ⟨X, hX⟩ : ∃ X : World, X = w5 := ⟨_, rfl⟩
        subst hX
        obtain ⟨⟨d0, d1, d2, d3⟩, d4, d5, d6, d7, d8, d9, d10⟩ := HC.out X (below_step HB2.out hbl)
        have o0 : X.cell? ⟨w2.heap.size, 0, none⟩ = some (.int .i64 (cLo I O z k : Nat)) := cell_of_row _ _ 0 _ _ _ hob
        have o1 : X.cell? ⟨w2.heap.size, 1, none⟩ = some (.int .i64 (cHi I z k : Nat)) := cell_of_row _ _ 1 _ _ _ hob
        have p0 : X.frozen? ⟨w2.heap.size, 0, none⟩ = false := frozen_of_row _ _ 0 _ _ hob
        have p1 : X.frozen? ⟨w2.heap.size, 1, none⟩ = false := frozen_of_row _ _ 1 _ _ hob
        have a0 : X.cell? ⟨A, 0, none⟩ = some (.bool vI) := cell_of_row _ _ 0 _ _ _ ha
        have a1 : X.cell? ⟨A, 1, none⟩ = some (.bool vO) := cell_of_row _ _ 1 _ _ _ ha
        have HOBX := Lib.hid hob; have HQX := Lib.hid hqm; have HBX := Lib.hid hbl
        have hl1 := cLo_le I O z k
        have hl2 := cHi_le I z k
        have HL : Hid (cLo I O z (k + 1) = cLo I O z k + if vI && !vO then 1 else 0) := by unfold Hid; rw [cLo, HVI.out, HVO.out]
        have HH : Hid (cHi I z (k + 1) = cHi I z k + if vI then 1 else 0) := by unfold Hid; rw [cHi, HVI.out]
        have HNO : Hid (vI = false → vO = false → cntOk I O z n = false) := fun h1 h2 => by
          cases hc : cntOk I O z n
          · rfl
          · simp only [cntOk, allB, List.all_eq_true, List.mem_range] at hc
            have := hc k hlt
            rw [HVI.out, HVO.out, h1, h2] at this; cases this
        have HNX : Hid ((vI || vO) = true → ∀ j, j < k + 1 → (I (z j) || O (z j)) = true) := fun h j hj => by
          rcases Nat.lt_succ_iff_lt_or_eq.1 hj with h' | rfl
          · exact HOK.out j h'
          · rw [HVI.out, HVO.out]; exact h
        clear hob hqm hbl ha
        generalize cLo I O z k = vl at *
        generalize cHi I z k = vh at *
        cases vI <;> cases vO
        · have HRB : Hid (((X.setCell ⟨w.heap.size + 1 + 1, 0, none⟩ (.int .i64 0)).setCell ⟨w.heap.size + 1 + 1, 1, none⟩ (.int .i64 0)).heap[w.heap.size + 1 + 1]? = some (.cells #[.int .i64 0, .int .i64 0] 41 (0, 0))) := by unfold Hid; simp [World.setCell, Array.getElem?_modify, d10]
          go_wp2
          have r0 := cell_of_row _ _ 0 _ _ _ HRB.out
          have r1 := cell_of_row _ _ 1 _ _ _ HRB.out
          refine bodyPost_ret (v := .tuple #[.agg #[.int .i64 0, .int .i64 0], .int .i64 9]) (by simp [results, Try.results59, go_sem, r0, r1]) rfl ⟨by rw [cntRes_bad (by simpa using HNO.out)], ?_⟩
          exact ((below_step HB1.out (below_step HB2.out HBX.out)).setCell (by show w.heap.size ≤ w.heap.size + 1 + 1; omega) _).setCell (by show w.heap.size ≤ w.heap.size + 1 + 1; omega) _
        · go_wp2
          go_roundw
          case rel => exact ⟨k + 1, by omega, by go_num, by rw [HL.out, HH.out]; exact HOBX.out, HQX.out, HBX.out, HNX.out rfl⟩
          case measure => simp [intOf]; omega
        · go_wp2
          go_roundw
          case rel => exact ⟨k + 1, by omega, by go_num, by rw [HL.out, HH.out]; simp [World.setCell, Array.getElem?_modify, HOBX.out], (HQX.out.setCell (by show w2.heap.size ≠ w2.heap.size + 1; omega) _).setCell (by show w2.heap.size ≠ w2.heap.size + 1; omega) _, (HBX.out.setCell (Nat.le_refl _) _).setCell (Nat.le_refl _) _, HNX.out rfl⟩
          case measure => simp [intOf]; omega
        · go_wp2
          go_roundw
          case rel => exact ⟨k + 1, by omega, by go_num, by rw [HL.out, HH.out]; simp [World.setCell, Array.getElem?_modify, HOBX.out], HQX.out.setCell (by show w2.heap.size ≠ w2.heap.size + 1; omega) _, HBX.out.setCell (Nat.le_refl _) _, HNX.out rfl⟩
          case measure => simp [intOf]; omega
      · simp only [Bool.true_and] at ha ⊢
        have hqm := hqm.mono (Nat.le_succ k)
        clear hq
        go_upto_region 17 with fail
        obtain ⟨⟨d0, d1, d2, d3⟩, d4, d5, d6, d7, d8, d9, d10⟩ := HC.out X (below_step HB2.out hbl)
        have o0 : X.cell? ⟨w2.heap.size, 0, none⟩ = some (.int .i64 (cLo I O z k : Nat)) := cell_of_row _ _ 0 _ _ _ hob
        have o1 : X.cell? ⟨w2.heap.size, 1, none⟩ = some (.int .i64 (cHi I z k : Nat)) := cell_of_row _ _ 1 _ _ _ hob
        have p0 : X.frozen? ⟨w2.heap.size, 0, none⟩ = false := frozen_of_row _ _ 0 _ _ hob
        have p1 : X.frozen? ⟨w2.heap.size, 1, none⟩ = false := frozen_of_row _ _ 1 _ _ hob
        have a0 : X.cell? ⟨A, 0, none⟩ = some (.bool vI) := cell_of_row _ _ 0 _ _ _ ha
        have a1 : X.cell? ⟨A, 1, none⟩ = some (.bool vO) := cell_of_row _ _ 1 _ _ _ ha
        have HOBX := Lib.hid hob; have HQX := Lib.hid hqm; have HBX := Lib.hid hbl
        have hl1 := cLo_le I O z k
        have hl2 := cHi_le I z k
        have HL : Hid (cLo I O z (k + 1) = cLo I O z k + if vI && !vO then 1 else 0) := by unfold Hid; rw [cLo, HVI.out, HVO.out]
        have HH : Hid (cHi I z (k + 1) = cHi I z k + if vI then 1 else 0) := by unfold Hid; rw [cHi, HVI.out]
        have HNO : Hid (vI = false → vO = false → cntOk I O z n = false) := fun h1 h2 => by
          cases hc : cntOk I O z n
          · rfl
          · simp only [cntOk, allB, List.all_eq_true, List.mem_range] at hc
            have := hc k hlt
            rw [HVI.out, HVO.out, h1, h2] at this; cases this
        have HNX : Hid ((vI || vO) = true → ∀ j, j < k + 1 → (I (z j) || O (z j)) = true) := fun h j hj => by
          rcases Nat.lt_succ_iff_lt_or_eq.1 hj with h' | rfl
          · exact HOK.out j h'
          · rw [HVI.out, HVO.out]; exact h
        clear hob hqm hbl ha
        generalize cLo I O z k = vl at *
        generalize cHi I z k = vh at *
        cases vI <;> cases vO
        · have HRB : Hid (((X.setCell ⟨w.heap.size + 1 + 1, 0, none⟩ (.int .i64 0)).setCell ⟨w.heap.size + 1 + 1, 1, none⟩ (.int .i64 0)).heap[w.heap.size + 1 + 1]? = some (.cells #[.int .i64 0, .int .i64 0] 41 (0, 0))) := by unfold Hid; simp [World.setCell, Array.getElem?_modify, d10]
          go_wp2
          have r0 := cell_of_row _ _ 0 _ _ _ HRB.out
          have r1 := cell_of_row _ _ 1 _ _ _ HRB.out
          refine bodyPost_ret (v := .tuple #[.agg #[.int .i64 0, .int .i64 0], .int .i64 9]) (by simp [results, Try.results59, go_sem, r0, r1]) rfl ⟨by rw [cntRes_bad (by simpa using HNO.out)], ?_⟩
          exact ((below_step HB1.out (below_step HB2.out HBX.out)).setCell (by show w.heap.size ≤ w.heap.size + 1 + 1; omega) _).setCell (by show w.heap.size ≤ w.heap.size + 1 + 1; omega) _
        · go_wp2
          go_roundw
          case rel => exact ⟨k + 1, by omega, by go_num, by rw [HL.out, HH.out]; exact HOBX.out, HQX.out, HBX.out, HNX.out rfl⟩
          case measure => simp [intOf]; omega
        · go_wp2
          go_roundw
          case rel => exact ⟨k + 1, by omega, by go_num, by rw [HL.out, HH.out]; simp [World.setCell, Array.getElem?_modify, HOBX.out], (HQX.out.setCell (by show w2.heap.size ≠ w2.heap.size + 1; omega) _).setCell (by show w2.heap.size ≠ w2.heap.size + 1; omega) _, (HBX.out.setCell (Nat.le_refl _) _).setCell (Nat.le_refl _) _, HNX.out rfl⟩
          case measure => simp [intOf]; omega
        · go_wp2
          go_roundw
          case rel => exact ⟨k + 1, by omega, by go_num, by rw [HL.out, HH.out]; simp [World.setCell, Array.getElem?_modify, HOBX.out], HQX.out.setCell (by show w2.heap.size ≠ w2.heap.size + 1; omega) _, HBX.out.setCell (Nat.le_refl _) _, HNX.out rfl⟩
          case measure => simp [intOf]; omega
    · obtain rfl : k = n := by omega
      have hck : cntOk I O z k = true := by
        simp only [cntOk, allB, List.all_eq_true, List.mem_range]
        exact HOK.out
      have o0 : wr.cell? ⟨w2.heap.size, 0, none⟩ = some (.int .i64 (cLo I O z k : Nat)) := cell_of_row _ _ 0 _ _ _ HOB.out
      have o1 : wr.cell? ⟨w2.heap.size, 1, none⟩ = some (.int .i64 (cHi I z k : Nat)) := cell_of_row _ _ 1 _ _ _ HOB.out
      have HRS : Hid (cntRes I O z k = .tuple #[.agg #[.int .i64 (cLo I O z k), .int .i64 (cHi I z k)], .int .i64 0]) := cntRes_ok hck
      have hl1 := cLo_le I O z k
      have hl2 := cHi_le I z k
      clear hck
      generalize cLo I O z k = vl at *
      generalize cHi I z k = vh at *
      have HRB : Hid (((wr.setCell ⟨w.heap.size + 1 + 1, 0, none⟩ (.int .i64 vl)).setCell ⟨w.heap.size + 1 + 1, 1, none⟩ (.int .i64 vh)).heap[w.heap.size + 1 + 1]? = some (.cells #[.int .i64 vl, .int .i64 vh] 41 (0, 0))) := by unfold Hid; simp [World.setCell, Array.getElem?_modify, d10]
      go_wp2
      have r0 := cell_of_row _ _ 0 _ _ _ HRB.out
      have r1 := cell_of_row _ _ 1 _ _ _ HRB.out
      refine bodyPost_ret (v := .tuple #[.agg #[.int .i64 vl, .int .i64 vh], .int .i64 0]) (by simp [results, Try.results59, go_sem, r0, r1]) rfl ⟨by rw [HRS.out], ?_⟩
      exact ((below_step HB1.out (below_step HB2.out HBL.out)).setCell (by show w.heap.size ≤ w.heap.size + 1 + 1; omega) _).setCell (by show w.heap.size ≤ w.heap.size + 1 + 1; omega) _
end Go.Proofs.Ytagfcfojfjkmbaa
