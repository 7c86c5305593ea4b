/- Walk: what WalkNames calls: values (by the kernel), contracts for the chapter's map and for maps changed. By hand; the map out of YG. -/
import Derived.Test.YtpnkgjkoophckaaPF
namespace Go.Proofs.Ytpnkgjkoophckaa
open Go.RowKit Go.Shelf Go.Maps

def kR : Array Value := #[.int .i64 0, .int .i64 1, .int .i64 2, .int .i64 3, .int .i64 1, .int .i64 2, .int .i64 1, .int .i64 2, .int .i64 0, .int .i64 3, .int .i64 4, .int .i64 4, .int .i64 2, .int .i64 3, .int .i64 5, .int .i64 6]
def kW : Array Value := #[.int .i64 2, .int .i64 3, .int .i64 4, .int .i64 5, .int .i64 3, .int .i64 3, .int .i64 6, .int .i64 8]
/-- The chapter's map, with its two lists. -/
def GivesB (w : World) (e : Ending) (w' : World) : Prop := ∃ R Wb, e = .returned (.agg #[.slice (some ⟨Wb, 0, none⟩) 4 4, .slice (some ⟨R, 0, none⟩) 4 4]) ∧ R ≠ Wb ∧ BF w w' [(R, kR, 120), (Wb, kW, 100)]
theorem parish_fin2 {w X : World} {R Wb M : Nat} (h : BF w X [(R, #[.int .i64 0, .int .i64 1, .int .i64 2, .int .i64 3, .int .i64 1, .int .i64 2, .int .i64 1, .int .i64 2, .int .i64 0, .int .i64 3, .int .i64 4, .int .i64 4, .int .i64 2, .int .i64 3, .int .i64 5, .int .i64 6], 120), (Wb, #[.int .i64 2, .int .i64 3, .int .i64 4, .int .i64 5, .int .i64 3, .int .i64 3, .int .i64 6, .int .i64 8], 100), (M, #[.slice none 0 0, .slice none 0 0], 37)]) :
    (((X.setCell ⟨M, 0, none⟩ (.slice (some ⟨Wb, 0, none⟩) 4 4)).setCell ⟨M, 1, none⟩ (.slice (some ⟨R, 0, none⟩) 4 4)).cell? ⟨M, 0, none⟩ = some (.slice (some ⟨Wb, 0, none⟩) 4 4)) ∧ (((X.setCell ⟨M, 0, none⟩ (.slice (some ⟨Wb, 0, none⟩) 4 4)).setCell ⟨M, 1, none⟩ (.slice (some ⟨R, 0, none⟩) 4 4)).cell? ⟨M, 1, none⟩ = some (.slice (some ⟨R, 0, none⟩) 4 4)) ∧ R ≠ Wb ∧ BF w ((X.setCell ⟨M, 0, none⟩ (.slice (some ⟨Wb, 0, none⟩) 4 4)).setCell ⟨M, 1, none⟩ (.slice (some ⟨R, 0, none⟩) 4 4)) [(R, #[.int .i64 0, .int .i64 1, .int .i64 2, .int .i64 3, .int .i64 1, .int .i64 2, .int .i64 1, .int .i64 2, .int .i64 0, .int .i64 3, .int .i64 4, .int .i64 4, .int .i64 2, .int .i64 3, .int .i64 5, .int .i64 6], 120), (Wb, #[.int .i64 2, .int .i64 3, .int .i64 4, .int .i64 5, .int .i64 3, .int .i64 3, .int .i64 6, .int .i64 8], 100)] := by
  have n1 : R ≠ M := h.ne (.head _) (.tail _ (.tail _ (.head _))) (by decide)
  have n2 : Wb ≠ M := h.ne (.tail _ (.head _)) (.tail _ (.tail _ (.head _))) (by decide)
  have h2 := h.set2 (.tail _ (.tail _ (.head _))) (.slice (some ⟨Wb, 0, none⟩) 4 4) (.slice (some ⟨R, 0, none⟩) 4 4) (L' := [(R, #[.int .i64 0, .int .i64 1, .int .i64 2, .int .i64 3, .int .i64 1, .int .i64 2, .int .i64 1, .int .i64 2, .int .i64 0, .int .i64 3, .int .i64 4, .int .i64 4, .int .i64 2, .int .i64 3, .int .i64 5, .int .i64 6], 120), (Wb, #[.int .i64 2, .int .i64 3, .int .i64 4, .int .i64 5, .int .i64 3, .int .i64 3, .int .i64 6, .int .i64 8], 100)]) (List.forall_mem_cons.2 ⟨⟨n1, .head _⟩, List.forall_mem_cons.2 ⟨⟨n2, .tail _ (.head _)⟩, List.forall_mem_nil _⟩⟩)
  have n3 : R ≠ Wb := h.ne (.head _) (.tail _ (.head _)) (by decide)
  exact ⟨h2.cell (.head _) 0, h2.cell (.head _) 1, n3, h2.sub (List.forall_mem_cons.2 ⟨.tail _ (.head _), List.forall_mem_cons.2 ⟨.tail _ (.tail _ (.head _)), List.forall_mem_nil _⟩⟩)⟩
set_option maxRecDepth 100000 in
set_option maxHeartbeats 8000000 in
theorem parish_own (w : World) : Calls Try.prog 65 #[] w (GivesB w) := by
  unfold GivesB kR kW
  have HA0 : Hid (BF w (w.alloc (.cells #[.slice none 0 0, .slice none 0 0] 37)) [(w.heap.size, #[.slice none 0 0, .slice none 0 0], 37)]) := (BF.base w).alloc _ _
  go_enter Try.func65, Try.ntmps65
  go_wp2_with (go_at_call 56; refine (between_any _ _ _).mono ?_; rintro _ w1 ⟨rfl, hb⟩; (first | (have HA0 := Lib.hid (HA0.out.below hb)) | (have HA0 := Lib.hid ((HA0.out.alloc _ _).below hb))); clear hb; (first | (have HN := Lib.hid (HA0.out.alloc #[.int .i64 0, .int .i64 1, .int .i64 2, .int .i64 3, .int .i64 1, .int .i64 2, .int .i64 1, .int .i64 2, .int .i64 0, .int .i64 3, .int .i64 4, .int .i64 4, .int .i64 2, .int .i64 3, .int .i64 5, .int .i64 6] 120); have e0 := HN.out.cell (.tail _ (.tail _ (.head _))) 0; have e1 := HN.out.cell (.tail _ (.tail _ (.head _))) 1; have f0 := HN.out.thaw (.tail _ (.tail _ (.head _))) 0; have f1 := HN.out.thaw (.tail _ (.tail _ (.head _))) 1) | skip))
  obtain ⟨g0, g1, hne, hbf⟩ := parish_fin2 HN.out
  exact bodyPost_ret (v := .agg #[.slice (some ⟨_, 0, none⟩) 4 4, .slice (some ⟨_, 0, none⟩) 4 4]) (by simp [results, Try.results65, go_sem, g0, g1]) rfl ⟨_, _, rfl, hne, hbf⟩

/-- A map in blocks: four places, four roads. -/
theorem mp_rd {X : World} {R : Nat} {c : Nat} {m : Mp} {cs : Array Value} {T : TypeId} (hb : X.heap[R]? = some (.cells cs T (0, 0))) (h : ∀ j, j < m.nr → cs[j * 4]? = some (.int .i64 (m.ra j)) ∧ cs[j * 4 + 1]? = some (.int .i64 (m.rb j)) ∧ cs[j * 4 + 2]? = some (.int .i64 (m.rt j).1) ∧ cs[j * 4 + 3]? = some (.int .i64 (m.rt j).2)) : RdIn X (.slice (some ⟨R, 0, none⟩) m.nr c) m.nr m :=
  .inr ⟨R, 0, c, rfl, (Array.getElem?_eq_some_iff.1 hb).1, fun j hj => by
    obtain ⟨h0, h1, h2, h3⟩ := h j hj
    rw [Nat.zero_add]
    exact ⟨(cell_of_row _ _ _ _ _ _ hb).trans h0, (cell_of_row _ _ _ _ _ _ hb).trans h1, (cell_of_row _ _ _ _ _ _ hb).trans h2, (cell_of_row _ _ _ _ _ _ hb).trans h3⟩⟩
theorem mp_wk {X : World} {B : Nat} {c n : Nat} {wk : Nat → R2} {cs : Array Value} {T : TypeId} (hb : X.heap[B]? = some (.cells cs T (0, 0))) (h : ∀ j, j < n → cs[j * 2]? = some (.int .i64 (wk j).1) ∧ cs[j * 2 + 1]? = some (.int .i64 (wk j).2)) : RsIn X (.slice (some ⟨B, 0, none⟩) n c) n wk :=
  .inr ⟨B, 0, c, rfl, (Array.getElem?_eq_some_iff.1 hb).1, fun j hj => by
    obtain ⟨h0, h1⟩ := h j hj
    rw [Nat.zero_add]
    exact ⟨(cell_of_row _ _ _ _ _ _ hb).trans h0, (cell_of_row _ _ _ _ _ _ hb).trans h1⟩⟩
theorem kW_wk : ∀ j, j < 4 → kW[j * 2]? = some (.int .i64 (pm.wk j).1) ∧ kW[j * 2 + 1]? = some (.int .i64 (pm.wk j).2) := fun j hj => by rcases j with _ | _ | _ | _ | j <;> first | exact ⟨rfl, rfl⟩ | exact absurd hj (by omega)
theorem kR_rd : ∀ j, j < 4 → kR[j * 4]? = some (.int .i64 (pm.ra j)) ∧ kR[j * 4 + 1]? = some (.int .i64 (pm.rb j)) ∧ kR[j * 4 + 2]? = some (.int .i64 (pm.rt j).1) ∧ kR[j * 4 + 3]? = some (.int .i64 (pm.rt j).2) := fun j hj => by rcases j with _ | _ | _ | _ | j <;> first | exact ⟨rfl, rfl, rfl, rfl⟩ | exact absurd hj (by omega)
theorem GivesB.mp {w w' : World} {R Wb : Nat} (h : BF w w' [(R, kR, 120), (Wb, kW, 100)]) : MpIn w' ⟨some ⟨Wb, 0, none⟩, 4, some ⟨R, 0, none⟩, 4⟩ pm :=
  ⟨mp_wk (h.bk _ _ _ (.tail _ (.head _))).2 kW_wk, mp_rd (m := pm) (h.bk _ _ _ (.head _)).2 kR_rd⟩
/-- The chapter's map with two roads. -/
def pi2 : Mp := ⟨4, pm.wk, 2, pm.ra, pm.rb, pm.rt⟩
theorem GivesB.mp2 {w w' : World} {R Wb : Nat} (h : BF w w' [(R, kR, 120), (Wb, kW, 100)]) : MpIn w' ⟨some ⟨Wb, 0, none⟩, 4, some ⟨R, 0, none⟩, 4⟩ pi2 :=
  ⟨mp_wk (h.bk _ _ _ (.tail _ (.head _))).2 kW_wk, mp_rd (m := pi2) (h.bk _ _ _ (.head _)).2 (fun j hj => kR_rd j (Nat.lt_trans hj (by decide)))⟩
/-- A road from a place to itself. -/
def kR0 : Array Value := kR.setIfInBounds 1 (.int .i64 0)
def pl2 : Mp := ⟨4, pm.wk, 4, pm.ra, fun i => if i = 0 then 0 else pm.rb i, pm.rt⟩
theorem kR0_rd : ∀ j, j < 4 → kR0[j * 4]? = some (.int .i64 (pl2.ra j)) ∧ kR0[j * 4 + 1]? = some (.int .i64 (pl2.rb j)) ∧ kR0[j * 4 + 2]? = some (.int .i64 (pl2.rt j).1) ∧ kR0[j * 4 + 3]? = some (.int .i64 (pl2.rt j).2) := fun j hj => by rcases j with _ | _ | _ | _ | j <;> first | exact ⟨rfl, rfl, rfl, rfl⟩ | exact absurd hj (by omega)
/-- A road twice. -/
def pd2 : Mp := ⟨4, pm.wk, 5, fun i => if i = 4 then 1 else pm.ra i, fun i => if i = 4 then 0 else pm.rb i, fun i => if i = 4 then (1, 1) else pm.rt i⟩
def pm9 : Mp := ⟨9, fun _ => (0, 0), 4, pm.ra, pm.rb, pm.rt⟩
def pm0 : Mp := ⟨0, fun _ => (0, 0), 0, fun _ => 0, fun _ => 0, fun _ => (0, 0)⟩
theorem nm_faults : pd2.fault = 1 ∧ pl2.fault = 1 ∧ pm9.fault = 3 ∧ pm0.fault = 1 ∧ pi2.fault = 0 := by decide +kernel
def z3 (_ : Nat) : Int := 3
def z13 (j : Nat) : Int := if j = 0 then 1 else 3
def z21 (j : Nat) : Int := if j = 0 then 2 else 1
theorem nm_way : wayE pm 0 2 = 0 ∧ tmA pm 0 2 = 5 ∧ wayL pm 0 2 = [0, 1, 2] ∧ wayE pi2 0 3 = 7 := by decide +kernel
theorem nm_tour : tourE pm z3 1 = 0 ∧ tourL pm (orL z3 1) = [0, 3, 0] ∧ plc (orL z3 1) = [3] ∧ lgM pm (orL z3 1) = 16 := by decide +kernel
theorem nm_tour0 : tourE pm (fun _ => 0) 0 = 0 ∧ tourL pm (orL (fun _ => 0) 0) = [0] ∧ plc (orL (fun _ => 0) 0) = [] ∧ lgM pm (orL (fun _ => 0) 0) = 0 := by decide +kernel
theorem nm_tours : tourE pi2 z13 2 = 7 ∧ tourE pm z21 2 = 2 := by decide +kernel
theorem nm_reach : rchE pm 13 = 0 ∧ rchN pm 13 4 = [0, 1, 2] := by decide +kernel
theorem nm_plan : dvdE pm 15 = 9 ∧ dvdE pm 10001 = 2 := by decide +kernel
theorem nm_least : lstE pm 0 = 2 ∧ lstE pi2 2 = 7 := by decide +kernel
/-- Walks of the law. -/
def yA : Wl := ⟨3, fun j => if j = 1 then 1 else 0, 2, fun j => if j = 0 then 0 else 1⟩
def yB : Wl := ⟨3, fun j => if j = 1 then 3 else 0, 2, fun j => if j = 0 then 0 else 3⟩
def yP (k : Nat) : Wl := if k = 0 then yA else yB
def yC : Wl := ⟨3, fun j => if j = 1 then 2 else 0, 0, fun _ => 0⟩
def yE : Wl := ⟨65, fun _ => 0, 0, fun _ => 0⟩
def yG : Wl := ⟨3, fun j => if j = 1 then 1 else 0, 1, fun _ => 2⟩
def yT : Wl := ⟨1, fun _ => 0, 0, fun _ => 0⟩
theorem nm_flt : fltE pm yP 2 18 = 0 ∧ misL yP 2 4 = [2] ∧ twiL yP 2 4 = [0] ∧ latL pm yP 18 2 = [1] := by decide +kernel
theorem nm_bounds : boundsE pm yC = 2 ∧ boundsE pm yE = 3 ∧ boundsE pm yG = 2 := by decide +kernel
theorem nm_time : timeE pm yT 0 0 (fun _ => 0) (fun _ => 0) = 2 := by decide +kernel
theorem way_bad (x : MV) (m : Mp) (a b : Int) (w : World) (h : MpIn w x m) (hnw : m.nw ≤ 100000) (hnr : m.nr ≤ 100000) {E : Int} (he : wayE m a b = E) (h0 : E ≠ 0) : Calls Try.prog 37 #[.agg #[.slice x.wa m.nw x.wc, .slice x.ra m.nr x.rc], .int .i64 a, .int .i64 b] w fun e w' => e = .returned (.tuple #[.slice none 0 0, .int .i64 0, .int .i64 E]) ∧ Below w.heap.size w w' :=
  (Way_any x m a b w h hnw hnr).mono (by
    subst he
    rintro e w' ⟨hb, ⟨_, rfl⟩ | ⟨h, _⟩⟩
    · exact ⟨rfl, hb⟩
    · exact absurd h h0)
theorem way_ok (x : MV) (m : Mp) (a b : Int) (w : World) (h : MpIn w x m) (hnw : m.nw ≤ 100000) (hnr : m.nr ≤ 100000) {L : List Nat} {v : Int} (he : wayE m a b = 0) (hl : wayL m a.toNat b.toNat = L) (hv : tmA m a.toNat b.toNat = v) : Calls Try.prog 37 #[.agg #[.slice x.wa m.nw x.wc, .slice x.ra m.nr x.rc], .int .i64 a, .int .i64 b] w fun e w' => ∃ g c, e = .returned (.tuple #[.slice g L.length c, .int .i64 v, .int .i64 0]) ∧ IntsIn w' (.slice g L.length c) L.length (zL L) ∧ Below w.heap.size w w' :=
  (Way_any x m a b w h hnw hnr).mono (by
    subst hl hv
    rintro e w' ⟨hb, ⟨h, _⟩ | ⟨_, g, c, rfl, ho⟩⟩
    · exact absurd he h
    · exact ⟨_, c, rfl, nL_ints ho, hb⟩)
theorem tour_bad (x : MV) (m : Mp) (a : Option Addr) (n cap : Nat) (z : Nat → Int) (w : World) (h : MpIn w x m) (hz : IntsIn w (.slice a n cap) n z) (hnw : m.nw ≤ 100000) (hnr : m.nr ≤ 100000) (hn : n ≤ 100000) {E : Int} (he : tourE m z n = E) (h0 : E ≠ 0) : Calls Try.prog 20 #[.agg #[.slice x.wa m.nw x.wc, .slice x.ra m.nr x.rc], .slice a n cap] w fun e w' => e = .returned (.tuple #[.agg #[.slice none 0 0, .slice none 0 0], .int .i64 0, .int .i64 E]) ∧ Below w.heap.size w w' :=
  (Tour_any x m a n cap z w h hz hnw hnr hn).mono (by
    subst he
    rintro e w' ⟨hb, ⟨_, rfl⟩ | ⟨h, _⟩⟩
    · exact ⟨rfl, hb⟩
    · exact absurd h h0)
theorem tour_ok (x : MV) (m : Mp) (a : Option Addr) (n cap : Nat) (z : Nat → Int) (w : World) (h : MpIn w x m) (hz : IntsIn w (.slice a n cap) n z) (hnw : m.nw ≤ 100000) (hnr : m.nr ≤ 100000) (hn : n ≤ 100000) {R C : List Nat} {v : Int} (he : tourE m z n = 0) (hR : tourL m (orL z n) = R) (hC : plc (orL z n) = C) (hv : lgM m (orL z n) = v) : Calls Try.prog 20 #[.agg #[.slice x.wa m.nw x.wc, .slice x.ra m.nr x.rc], .slice a n cap] w fun e w' => ∃ a1 c1 a2 c2, e = .returned (.tuple #[.agg #[.slice a1 R.length c1, .slice a2 C.length c2], .int .i64 v, .int .i64 0]) ∧ IntsIn w' (.slice a1 R.length c1) R.length (zL R) ∧ IntsIn w' (.slice a2 C.length c2) C.length (zL C) ∧ Below w.heap.size w w' :=
  (Tour_any x m a n cap z w h hz hnw hnr hn).mono (by
    subst hR hC hv
    rintro e w' ⟨hb, ⟨h, _⟩ | ⟨_, y, rfl, ho⟩⟩
    · exact absurd he h
    · exact ⟨_, _, _, _, rfl, nL_ints (Rws.own ho 0 _ rfl), nL_ints (Rws.own ho 1 _ rfl), hb⟩)
theorem plan_bad (x : MV) (m : Mp) (lim : Int) (w : World) (h : MpIn w x m) (hnw : m.nw ≤ 100000) (hnr : m.nr ≤ 100000) {E : Int} (he : dvdE m lim = E) (h0 : E ≠ 0) : Calls Try.prog 45 #[.agg #[.slice x.wa m.nw x.wc, .slice x.ra m.nr x.rc], .int .i64 lim] w fun e w' => e = .returned (.tuple #[.slice none 0 0, .int .i64 E]) ∧ Below w.heap.size w w' :=
  (Plan_any x m lim w h hnw hnr).mono (by
    subst he
    rintro e w' ⟨hb, ⟨_, rfl⟩ | ⟨h, _⟩⟩
    · exact ⟨rfl, hb⟩
    · exact absurd h h0)
theorem least_bad (x : MV) (m : Mp) (k : Int) (w : World) (h : MpIn w x m) (hnw : m.nw ≤ 100000) (hnr : m.nr ≤ 100000) {E : Int} (he : lstE m k = E) (h0 : E ≠ 0) : Calls Try.prog 31 #[.agg #[.slice x.wa m.nw x.wc, .slice x.ra m.nr x.rc], .int .i64 k] w fun e w' => e = .returned (.tuple #[.int .i64 0, .int .i64 E]) ∧ Below w.heap.size w w' :=
  (Least_any x m k w h hnw hnr).mono (by
    subst he
    rintro e w' ⟨hb, rfl⟩
    exact ⟨by rw [if_neg h0], hb⟩)
theorem bounds_bad (x : MV) (m : Mp) (u : LV) (y : Wl) (w : World) (h : MpIn w x m) (hu : WlIn w u y) (hnw : m.nw ≤ 100000) (hnr : m.nr ≤ 100000) (h1 : y.nl ≤ 100000) (h2 : y.nc ≤ 100000) {E : Int} (he : boundsE m y = E) (h0 : E ≠ 0) : Calls Try.prog 55 #[.agg #[.slice x.wa m.nw x.wc, .slice x.ra m.nr x.rc], .agg #[.slice u.ra y.nl u.rc, .slice u.ca y.nc u.cc]] w fun e w' => e = .returned (.tuple #[.agg #[.int .i64 0, .int .i64 0], .int .i64 E]) ∧ Below w.heap.size w w' :=
  (bounds_any x m u y w h hu hnw hnr h1 h2).mono (by
    rintro e w' ⟨rfl, hb⟩
    rw [he]
    have : boundsR m y = (0, 0) := if_neg (by rw [he]; exact h0)
    rw [this]
    exact ⟨rfl, hb⟩)
theorem reach_ok (x : MV) (m : Mp) (lim : Int) (w : World) (h : MpIn w x m) (hnw : m.nw ≤ 100000) (hnr : m.nr ≤ 100000) {L : List Nat} (he : rchE m lim = 0) (hl : rchN m lim m.nw = L) : Calls Try.prog 42 #[.agg #[.slice x.wa m.nw x.wc, .slice x.ra m.nr x.rc], .int .i64 lim] w fun e w' => ∃ g c, e = .returned (.tuple #[.slice g L.length c, .int .i64 0]) ∧ IntsIn w' (.slice g L.length c) L.length (zL L) ∧ Below w.heap.size w w' :=
  (Reach_any x m lim w h hnw hnr).mono (by
    subst hl
    rintro e w' ⟨hb, ⟨h, _⟩ | ⟨_, v, rfl, ho⟩⟩
    · exact absurd he h
    · obtain ⟨a, c, rfl⟩ := own_slice' ho
      exact ⟨a, c, rfl, nL_ints ho, hb⟩)
theorem faults_ok (x : MV) (m : Mp) (a : Option Addr) (n cap : Nat) (U : Nat → LV) (Y : Nat → Wl) (lim : Int) (w : World) (hm : MpIn w x m) (h : PlIn w (.slice a n cap) n U Y) (hn : n ≤ 100000) (hy : ∀ k, k < n → (Y k).nl ≤ 100000 ∧ (Y k).nc ≤ 100000) (hnw : m.nw ≤ 100000) (hnr : m.nr ≤ 100000) {A B C : List Nat} (he : fltE m Y n lim = 0) (hA : misL Y n m.nw = A) (hB : twiL Y n m.nw = B) (hC : latL m Y lim n = C) : Calls Try.prog 62 #[.agg #[.slice x.wa m.nw x.wc, .slice x.ra m.nr x.rc], .slice a n cap, .int .i64 lim] w fun e w' => ∃ a1 c1 a2 c2 a3 c3, e = .returned (.tuple #[.slice a1 A.length c1, .slice a2 B.length c2, .slice a3 C.length c3, .int .i64 0]) ∧ IntsIn w' (.slice a1 A.length c1) A.length (zL A) ∧ IntsIn w' (.slice a2 B.length c2) B.length (zL B) ∧ IntsIn w' (.slice a3 C.length c3) C.length (zL C) ∧ Below w.heap.size w w' :=
  (Faults_any x m a n cap U Y lim w hm h hn hy hnw hnr).mono (by
    subst hA hB hC
    rintro e w' ⟨hb, ⟨h, _⟩ | ⟨_, a1, c1, a2, c2, a3, c3, rfl, ho⟩⟩
    · exact absurd he h
    · exact ⟨_, _, _, _, _, _, rfl, rfI ho (i := 0) rfl, rfI ho (i := 1) rfl, rfI ho (i := 2) rfl, hb⟩)
end Go.Proofs.Ytpnkgjkoophckaa
