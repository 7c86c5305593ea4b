/- Contract: Truly. -/
import Derived.Test.YtagfcfojfjkmbaaK1
import Derived.Test.YtagfcfojfjkmbaaJ2
import Derived.Test.YtagfcfojfjkmbaaG2
import Derived.Deep.DeepCutAuto
import Derived.OrdersHeld
namespace Go.Proofs.Ytagfcfojfjkmbaa
open Go.RowKit Go.Shelf

/-- Two blocks of a round. -/
def KB (RB UB : Nat) (o1 o2 : Obj) (X : World) : Prop := X.heap[RB]? = some o1 ∧ X.heap[UB]? = some o2
theorem KB.fr {RB UB : Nat} {o1 o2 : Obj} {ex : Nat → Prop} {X X' : World} (h : KB RB UB o1 o2 X) (hf : Fr ex X X') (h1 : ¬ ex RB) (h2 : ¬ ex UB) : KB RB UB o1 o2 X' :=
  ⟨(hf.block _ (Array.getElem?_eq_some_iff.1 h.1).1 h1).trans h.1, (hf.block _ (Array.getElem?_eq_some_iff.1 h.2).1 h2).trans h.2⟩
theorem KB.cells {RB UB : Nat} {a b c d e f g : Value} {t u : TypeId} {X : World} (h : KB RB UB (.cells #[a, b, c] t (0, 0)) (.cells #[d, e, f, g] u (0, 0)) X) :
    X.cell? ⟨RB, 0, none⟩ = some a ∧ X.cell? ⟨RB, 1, none⟩ = some b ∧ X.cell? ⟨UB, 0, none⟩ = some d ∧ X.cell? ⟨UB, 1, none⟩ = some e ∧ X.cell? ⟨UB, 2, none⟩ = some f ∧ X.cell? ⟨UB, 3, none⟩ = some g :=
  ⟨cell_of_row _ _ 0 _ _ _ h.1, cell_of_row _ _ 1 _ _ _ h.1, cell_of_row _ _ 0 _ _ _ h.2, cell_of_row _ _ 1 _ _ _ h.2, cell_of_row _ _ 2 _ _ _ h.2, cell_of_row _ _ 3 _ _ _ h.2⟩
/-- All records of l are right, and allow a day. -/
def Fine (p : Pers) (birth : Int) (l : List Rc) : Prop := ∀ r ∈ l, r.ok p.nr = true ∧ p.okRc birth r = true
theorem truly_person {W : World} {p : Pers} {base : Nat} {birth : Int} {l : List Rc} {v0 v1 rv cv v2 : Value} (h : PersIn W (.agg #[v0, v1, rv, cv]) p) (ho : W.ownsRow base 59 3 v2 l.length (flatC l)) (hp : p.fault = 0) (hl : l.length ≤ p.nc) (hb : p.lo ≤ birth ∧ birth ≤ p.hi) (hf : Fine p birth l) :
    ∃ x : Pers, Hid (PersIn W (.agg #[.int .i64 p.lo, .int .i64 p.hi, rv, v2]) x) ∧ Hid (x.TrueOf p birth) := by
  obtain ⟨rv', cv', e, h1, h2⟩ := h
  simp only [Value.agg.injEq, Array.mk.injEq, List.cons.injEq, and_true] at e
  obtain ⟨_, _, rfl, rfl⟩ := e
  have hc : CR W base v2 l := ho
  refine ⟨⟨p.lo, p.hi, p.nr, p.R, l.length, fun j => l.getD j ⟨0, 0, 0⟩⟩, ⟨rv, v2, rfl, h1, hc.in⟩, true_of hp rfl rfl rfl rfl hl hb fun j hj => ?_⟩
  have hj' : j < l.length := hj
  have := hf _ (List.getElem_mem hj')
  show (l.getD j ⟨0, 0, 0⟩).ok p.nr = true ∧ p.okRc birth (l.getD j ⟨0, 0, 0⟩) = true
  simpa [hj'] using this
/-- The record that a rule writes for a known age. -/
theorem fine_next {p : Pers} {birth day t : Int} {q : Nat} {l : List Rc} (hl : Fine p birth l) (hd : -50000 ≤ day ∧ day ≤ 50000) (hq : q < p.nr) (hR : okRule (p.R q).f (p.R q).b (p.R q).m (p.R q).e = true) (hb : birth ≤ day) (ha : (day - birth) / 365 ≤ 120) (ht : 0 ≤ t ∧ t ≤ 2 * (p.R q).e) :
    0 ≤ max 0 ((day - birth) / 365 + t - (p.R q).e) ∧ max 0 ((day - birth) / 365 + t - (p.R q).e) ≤ 125 ∧ Fine p birth (l ++ [⟨day, q, wrt (p.R q).f (p.R q).b (p.R q).m (max 0 ((day - birth) / 365 + t - (p.R q).e))⟩]) := by
  obtain ⟨g0, g1, g2, g3, g4, g5, g6, g7⟩ := okRule_bd hR
  have ha0 : 0 ≤ (day - birth) / 365 := Int.ediv_nonneg (by omega) (by omega)
  generalize hk : max 0 ((day - birth) / 365 + t - (p.R q).e) = kn
  have hk0 : 0 ≤ kn := by omega
  have hk1 : kn ≤ 125 := by omega
  have hw := wrt_bd (p.R q).f (p.R q).b (p.R q).m kn g2 g3 hk0 (by omega)
  refine ⟨hk0, hk1, fun r hr => ?_⟩
  rcases List.mem_append.1 hr with hr | hr
  · exact hl r hr
  · rw [List.mem_singleton] at hr
    subst hr
    constructor
    · simp only [Rc.ok, inB, Bool.and_eq_true, decide_eq_true_eq]
      omega
    · unfold Pers.okRc
      simp only [Int.toNat_natCast, Bool.and_eq_true, decide_eq_true_eq]
      refine ⟨⟨hb, ha⟩, (agesF_iff _ _ _ _ _ _ _).2 ⟨kn.toNat, by omega, ?_, by omega, by omega⟩⟩
      rw [Int.toNat_of_nonneg hk0]

attribute [local go_sem ↓] Go.wp_at_zero Go.wp_at_succ
set_option maxRecDepth 100000 in
set_option maxHeartbeats 8000000 in
theorem truly_any (v wv : Value) (p : Pers) (n : Nat) (z : Nat → Int) (w : World) (h : PersIn w v p) (hp : p.fault = 0) (hz : WordsIn w wv n z) (hn : n ≤ maxLen) :
    Calls Try.prog 51 #[v, wv] w fun e w' => ∃ u x birth, e = .returned (.tuple #[u, .int .i64 birth]) ∧ Hid (PersIn w' u x) ∧ Hid (x.TrueOf p birth) ∧ Below w.heap.size w w' := by
  have HP := Lib.hid h
  obtain ⟨pn1, pn2, pn3, pl1, pl2, pl3, pl4, pl5, pR, pOK⟩ := Pers.ok_facts hp
  have HPF := Lib.hid hp; have POK := Lib.hid pOK; have PR := Lib.hid pR; clear hp pOK pR
  obtain ⟨rv, cv, rfl, h1, h2⟩ := h
  obtain ⟨ra, rc, rfl⟩ := h1.slice
  obtain ⟨ca, cc, rfl⟩ := h2.slice
  have HC := Lib.hid h2; have HR := Lib.hid h1; clear h1 h2
  have HWD : Hid (∀ (W : World), Below w.heap.size w W → ∀ i : Int, 0 ≤ i → i ≤ 1000 → Calls Try.prog 85 #[wv, .int .i64 i] W fun e w' => e = .returned (.int .i64 (wordF n z i)) ∧ w' = W) := fun W hW i h0 h1 => (word_any wv n z i W (hz.below hW) hn h0 (by omega)).mono fun _ _ ⟨a, b⟩ => ⟨a, b.symm⟩
  have HWB := Lib.hid (fun i => wordF_bd hz i)
  obtain ⟨la, lc, rfl⟩ := hz.len
  clear hz hn
  obtain ⟨i0, hi0, hz0, hz1, hz2⟩ := info_parts Try.infoRec
  obtain ⟨_, hb3, q0, q1, q2⟩ := alloc3 w (.cells #[.int .i64 p.lo, .int .i64 p.hi, .slice ra p.nr rc, .slice ca p.nc cc] 36) (.cells #[.int .i64 0, .int .i64 0, .slice none 0 0, .slice none 0 0] 36) (.cells #[.int .i64 p.lo, .int .i64 p.hi, .slice ra p.nr rc, .slice none 0 0] 36)
  have HBX : Hid (Below w.heap.size w ((w.alloc (.cells #[.int .i64 p.lo, .int .i64 p.hi, .slice ra p.nr rc, .slice ca p.nc cc] 36)).alloc (.cells #[.int .i64 0, .int .i64 0, .slice none 0 0, .slice none 0 0] 36))) := (below_alloc _ _).alloc (by simp) _
  have HQ := Lib.hid (And.intro q0 (And.intro q1 q2))
  clear q0 q1 q2 hb3
  go_enter Try.func51, Try.ntmps51
  go_wp2_with fail
  obtain ⟨a0, a1⟩ := HWB.out 0
  obtain ⟨b0, b1⟩ := HWB.out 1
  have hm0 : ¬ p.hi - p.lo + 1 = 0 := by omega
  have hm1 : ¬ p.hi - p.lo + 1 = -1 := by omega
  have hr0 := Int.emod_nonneg (wordF n z 0 * 7 + wordF n z 1) hm0
  have hr1 := Int.emod_lt_of_pos (wordF n z 0 * 7 + wordF n z 1) (show 0 < p.hi - p.lo + 1 by omega)
  have w0 : (wordF n z 0 * 7 + wordF n z 1).tmod (p.hi - p.lo + 1) = (wordF n z 0 * 7 + wordF n z 1) % (p.hi - p.lo + 1) := Int.tmod_eq_emod_of_nonneg (by omega)
  have w1e : IntKind.i64.wrap (wordF n z 0 * 7) = wordF n z 0 * 7 := IntWalk.i64_in _ (by omega)
  have w2e : IntKind.i64.wrap (wordF n z 0 * 7 + wordF n z 1) = wordF n z 0 * 7 + wordF n z 1 := IntWalk.i64_in _ (by omega)
  have w3e : IntKind.i64.wrap (p.hi - p.lo) = p.hi - p.lo := IntWalk.i64_in _ (by omega)
  have w4e : IntKind.i64.wrap (p.hi - p.lo + 1) = p.hi - p.lo + 1 := IntWalk.i64_in _ (by omega)
  have w5e : IntKind.i64.wrap ((wordF n z 0 * 7 + wordF n z 1) % (p.hi - p.lo + 1)) = (wordF n z 0 * 7 + wordF n z 1) % (p.hi - p.lo + 1) := IntWalk.i64_in _ (by omega)
  have w6e : IntKind.i64.wrap (p.lo + (wordF n z 0 * 7 + wordF n z 1) % (p.hi - p.lo + 1)) = p.lo + (wordF n z 0 * 7 + wordF n z 1) % (p.hi - p.lo + 1) := IntWalk.i64_in _ (by omega)
  go_quiet ((go_at_call 85; exact Calls.quiet_of_same (HWD.out _ (HBX.out.trans (below_drewS _ _ _)) _ (by omega) (by omega))))
  clear w0 w1e w2e w3e w4e w5e w6e
  have hbr : p.lo ≤ p.lo + (wordF n z 0 * 7 + wordF n z 1) % (p.hi - p.lo + 1) ∧ p.lo + (wordF n z 0 * 7 + wordF n z 1) % (p.hi - p.lo + 1) ≤ p.hi := by omega
  obtain ⟨br1, br2⟩ := hbr
  clear a0 a1 b0 b1 hm0 hm1 hr0 hr1
  go_wp2_with fail
  generalize p.lo + (wordF n z 0 * 7 + wordF n z 1) % (p.hi - p.lo + 1) = birth at *
  have HW0 : Hid (WI w (.cells #[.int .i64 p.lo, .int .i64 p.hi, .slice ra p.nr rc, .slice ca p.nc cc] 36 (0, 0)) (.cells #[.int .i64 0, .int .i64 0, .slice none 0 0, .slice none 0 0] 36 (0, 0)) (.int .i64 p.lo) (.int .i64 p.hi) (.slice ra p.nr rc) (.slice none 0 0) [] ((((w.alloc (.cells #[.int .i64 p.lo, .int .i64 p.hi, .slice ra p.nr rc, .slice ca p.nc cc] 36)).alloc (.cells #[.int .i64 0, .int .i64 0, .slice none 0 0, .slice none 0 0] 36)).drewN nq).alloc (.cells #[.int .i64 p.lo, .int .i64 p.hi, .slice ra p.nr rc, .slice none 0 0] 36))) := ⟨⟨HQ.out.1, HQ.out.2.1, HQ.out.2.2, (HBX.out.trans (below_drewS _ _ nq)).alloc HBX.out.size _⟩, World.ownsRow_nil _ _ _ _⟩
  clear HQ HBX
  go_wp2_with fail
  go_loopw [8] (fun i wr => ∃ k : Nat, k ≤ p.nc ∧ i = .int .i64 k ∧ ∃ (l : List Rc) (v : Value), l.length ≤ k ∧ Fine p birth l ∧ WI w (.cells #[.int .i64 p.lo, .int .i64 p.hi, .slice ra p.nr rc, .slice ca p.nc cc] 36 (0, 0)) (.cells #[.int .i64 0, .int .i64 0, .slice none 0 0, .slice none 0 0] 36 (0, 0)) (.int .i64 p.lo) (.int .i64 p.hi) (.slice ra p.nr rc) v l wr) (fun i _ => p.nc - (intOf i).toNat)
  case atStart => exact ⟨0, Nat.zero_le _, rfl, [], _, Nat.le_refl _, (fun r hr => by cases hr), HW0.out⟩
  case round =>
    clear HW0
    obtain ⟨k, hk, rfl, l, v, hll, hfine, hwi⟩ := hrel
    obtain ⟨av, ac, rfl⟩ := own_slice' hwi.2
    generalize hkk : l.length = kk at *
    have HWI := Lib.hid hwi
    have HBW : Hid (Below w.heap.size w wr) := hwi.1.2.2.2
    obtain ⟨d0, d1, d2, d3, e0, e1, e2, e3⟩ := hwi.1.cells
    have hws := hwi.1.low
    have HLEN := Lib.hid hkk; have HFI := Lib.hid hfine; clear hkk hfine
    clear hwi d0 d1 e0 e1 e2 e3
    by_cases hlt : k < p.nc
    · obtain ⟨b, off, rfl, hbs, x0, x1, x2⟩ := HC.out.at HBW.out hlt
      have hok := POK.out k hlt
      obtain ⟨rd1, rd2, rr1, rr2, _⟩ := Rc.ok_facts hok
      obtain ⟨q, hq⟩ : ∃ q : Nat, (p.C k).rule = (q : Int) := ⟨(p.C k).rule.toNat, by omega⟩
      have hqn : q < p.nr := by omega
      obtain ⟨rb, ro, rfl, hrb, y0, y1, y2, y3⟩ := HR.out.at HBW.out hqn
      rw [hq] at x1
      have HRO := Lib.hid (PR.out q hqn)
      have HNX := Lib.hid (fun (t : Int) day hd hb ha ht => fine_next (p := p) (birth := birth) (day := day) (t := t) (q := q) (l := l) HFI.out hd hqn HRO.out hb ha ht)
      obtain ⟨g0, g1, g2, g3, g4, g5, g6, g7⟩ := okRule_bd HRO.out
      have HWR := Lib.hid (fun (kn : Int) (W : World) (h0 : 0 ≤ kn) (h1 : kn ≤ 125) => refWrite_any (p.R q).f (p.R q).b (p.R q).m (p.R q).e kn W HRO.out h0 h1)
      clear hok hq rr1 rr2
      generalize (p.C k).day = day at *
      generalize (p.C k).num = num at *
      generalize (p.R q).f = f at *
      generalize (p.R q).b = b' at *
      generalize (p.R q).m = m at *
      generalize (p.R q).e = e at *
      have ki : (0 : Int) ≤ (k : Int) := by omega
      have kj : (k : Int) < (p.nc : Int) := by omega
      have qi : (0 : Int) ≤ (q : Int) := by omega
      have qj : (q : Int) < (p.nr : Int) := by omega
      have hw1 : w.heap.size < wr.heap.size := by omega
      have hw2 : b < wr.heap.size := by omega
      have hw3 : rb < wr.heap.size := by omega
      have hw4 : rb < wr.heap.size + 1 := by omega
      by_cases hbd : day < birth
      · go_wp2_with fail
        go_roundw
        case rel => exact ⟨k + 1, by omega, by go_num, l, _, by rw [HLEN.out]; omega, HFI.out, HWI.out.below (below_alloc _ _)⟩
        case measure => simp [intOf]; omega
      have hbd' : birth ≤ day := by omega
      have hag0 : 0 ≤ (day - birth) / 365 := Int.ediv_nonneg (by omega) (by omega)
      by_cases h120 : 120 < (day - birth) / 365
      · go_wp2_with fail
        go_roundw
        case rel => exact ⟨k + 1, by omega, by go_num, l, _, by rw [HLEN.out]; omega, HFI.out, HWI.out.below (below_alloc _ _)⟩
        case measure => simp [intOf]; omega
      have h120' : (day - birth) / 365 ≤ 120 := by omega
      go_wp2_with fail
      obtain ⟨a0, a1⟩ := HWB.out ((k : Int) + 2)
      have hm0 : ¬ 2 * e + 1 = 0 := by omega
      have hm1 : ¬ 2 * e + 1 = -1 := by omega
      have hr0 := Int.emod_nonneg (wordF n z ((k : Int) + 2)) hm0
      have hr1 := Int.emod_lt_of_pos (wordF n z ((k : Int) + 2)) (show 0 < 2 * e + 1 by omega)
      have w0 : (wordF n z ((k : Int) + 2)).tmod (2 * e + 1) = wordF n z ((k : Int) + 2) % (2 * e + 1) := Int.tmod_eq_emod_of_nonneg a0
      have w1e : (day - birth).tdiv 365 = (day - birth) / 365 := Int.tdiv_eq_ediv_of_nonneg (by omega)
      have w2e : IntKind.i64.wrap (day - birth) = day - birth := IntWalk.i64_in _ (by omega)
      have w3e : IntKind.i64.wrap ((day - birth) / 365) = (day - birth) / 365 := IntWalk.i64_in _ (by omega)
      have w4e : IntKind.i64.wrap ((k : Int) + 2) = (k : Int) + 2 := IntWalk.i64_in _ (by omega)
      have w5e : IntKind.i64.wrap (2 * e) = 2 * e := IntWalk.i64_in _ (by omega)
      have w6e : IntKind.i64.wrap (2 * e + 1) = 2 * e + 1 := IntWalk.i64_in _ (by omega)
      have w7e : IntKind.i64.wrap (wordF n z ((k : Int) + 2) % (2 * e + 1)) = wordF n z ((k : Int) + 2) % (2 * e + 1) := IntWalk.i64_in _ (by omega)
      have w8e : IntKind.i64.wrap ((day - birth) / 365 + wordF n z ((k : Int) + 2) % (2 * e + 1)) = (day - birth) / 365 + wordF n z ((k : Int) + 2) % (2 * e + 1) := IntWalk.i64_in _ (by omega)
      have w9e : IntKind.i64.wrap ((day - birth) / 365 + wordF n z ((k : Int) + 2) % (2 * e + 1) - e) = (day - birth) / 365 + wordF n z ((k : Int) + 2) % (2 * e + 1) - e := IntWalk.i64_in _ (by omega)
      have HBQ : Hid (Below w.heap.size w ((wr.alloc (.cells #[.int .i64 day, .int .i64 q, .int .i64 num] 59)).alloc (.cells #[.int .i64 f, .int .i64 b', .int .i64 m, .int .i64 e] 77))) := HBW.out.trans (((below_alloc wr (.cells #[.int .i64 day, .int .i64 q, .int .i64 num] 59)).alloc (by simp) (.cells #[.int .i64 f, .int .i64 b', .int .i64 m, .int .i64 e] 77)).mono HBW.out.size)
      obtain ⟨hkn0, hkn1, hal⟩ := HNX.out (wordF n z ((k : Int) + 2) % (2 * e + 1)) day ⟨by omega, by omega⟩ hbd' h120' ⟨by omega, by omega⟩
      have HALL2 := Lib.hid hal
      have HKN := Lib.hid (And.intro hkn0 hkn1)
      clear hal HNX hkn0 hkn1
      go_cut [11] (fun s wx => s = .int .i64 (max 0 ((day - birth) / 365 + wordF n z ((k : Int) + 2) % (2 * e + 1) - e)) ∧ ∃ nq, wx = ((wr.alloc (.cells #[.int .i64 day, .int .i64 q, .int .i64 num] 59)).alloc (.cells #[.int .i64 f, .int .i64 b', .int .i64 m, .int .i64 e] 77)).drewN nq)
      case first =>
        go_quiet ((go_at_call 85; exact Calls.quiet_of_same (HWD.out _ (HBQ.out.trans (below_drewS _ _ _)) _ (by omega) (by omega))))
        all_goals
          clear w0 w1e w2e w3e w4e w5e w6e w7e w8e w9e
          (try go_wp2_with fail)
        all_goals
          go_meet
          exact ⟨congrArg (Value.int .i64) (by omega), _, rfl⟩
      case rest =>
        obtain ⟨rfl, nq, rfl⟩ := hcut
        clear w0 w1e w2e w3e w4e w5e w6e w7e w8e w9e hr0 hr1 hm0 hm1 a0 a1
        obtain ⟨hkn0, hkn1⟩ := HKN.out
        have HWX : Hid (WI w (.cells #[.int .i64 p.lo, .int .i64 p.hi, .slice (some ⟨rb, ro, none⟩) p.nr rc, .slice (some ⟨b, off, none⟩) p.nc cc] 36 (0, 0)) (.cells #[.int .i64 0, .int .i64 0, .slice none 0 0, .slice none 0 0] 36 (0, 0)) (.int .i64 p.lo) (.int .i64 p.hi) (.slice (some ⟨rb, ro, none⟩) p.nr rc) (.slice av kk ac) l (((wr.alloc (.cells #[.int .i64 day, .int .i64 q, .int .i64 num] 59)).alloc (.cells #[.int .i64 f, .int .i64 b', .int .i64 m, .int .i64 e] 77)).drewN nq)) := HWI.out.below (below_step ((below_alloc wr (.cells #[.int .i64 day, .int .i64 q, .int .i64 num] 59)).alloc (by simp) (.cells #[.int .i64 f, .int .i64 b', .int .i64 m, .int .i64 e] 77)) (below_drewS _ _ nq))
        have HKX : Hid (KB wr.heap.size (wr.heap.size + 1) (.cells #[.int .i64 day, .int .i64 q, .int .i64 num] 59 (0, 0)) (.cells #[.int .i64 f, .int .i64 b', .int .i64 m, .int .i64 e] 77 (0, 0)) (((wr.alloc (.cells #[.int .i64 day, .int .i64 q, .int .i64 num] 59)).alloc (.cells #[.int .i64 f, .int .i64 b', .int .i64 m, .int .i64 e] 77)).drewN nq)) := by
          have h1 := heap_alloc_new wr (.cells #[.int .i64 day, .int .i64 q, .int .i64 num] 59)
          have h2 := heap_alloc_new (wr.alloc (.cells #[.int .i64 day, .int .i64 q, .int .i64 num] 59)) (.cells #[.int .i64 f, .int .i64 b', .int .i64 m, .int .i64 e] 77)
          rw [World.size_alloc] at h2
          exact ⟨(Below.heap_alloc _ _ _ (by simp)).trans h1, h2⟩
        have HRB : Hid ((¬ (Value.slice av kk ac).ownBlock = some wr.heap.size) ∧ ¬ (Value.slice av kk ac).ownBlock = some (wr.heap.size + 1)) := ⟨fun e => by have := own_lt HWI.out.2 e; omega, fun e => by have := own_lt HWI.out.2 e; omega⟩
        have HOWN : Hid (∀ W : World, W.ownsRow (w.heap.size + 3) 59 3 (.slice av kk ac) l.length (flatC l) → W.ownsRow (w.heap.size + 3) 59 3 (.slice av kk ac) kk (flatC l)) := fun W h => by rw [HLEN.out] at h; exact h
        have hR1 : w.heap.size + 1 + 1 < wr.heap.size := by omega
        generalize wr.heap.size = RB at *
        generalize World.drewN ((wr.alloc (.cells #[.int .i64 day, .int .i64 q, .int .i64 num] 59)).alloc (.cells #[.int .i64 f, .int .i64 b', .int .i64 m, .int .i64 e] 77)) nq = wx at *
        generalize (max 0 ((day - birth) / 365 + wordF n z ((k : Int) + 2) % (2 * e + 1) - e)) = kn at *
        have HWR := Lib.hid (fun W => HWR.out kn W hkn0 hkn1)
        generalize wrt f b' m kn = n' at *
        go_wp2_with fail
        have HWD := Lib.hid (HWX.out.below ((Below.refl _ _).drew))
        have HKD := Lib.hid (HKX.out.fr (Fr.below ((Below.refl wx.heap.size wx).drew) (fun _ => False)) (fun e => e) (fun e => e))
        refine wp_region_held_drew (S := fun X => X.cell? ⟨RB, 0, none⟩ = some (.int .i64 day) ∧ X.cell? ⟨RB, 1, none⟩ = some (.int .i64 q) ∧ X.cell? ⟨RB + 1, 0, none⟩ = some (.int .i64 f) ∧ X.cell? ⟨RB + 1, 1, none⟩ = some (.int .i64 b') ∧ X.cell? ⟨RB + 1, 2, none⟩ = some (.int .i64 m) ∧ X.cell? ⟨RB + 1, 3, none⟩ = some (.int .i64 e)) (by kernel_rfl) HKD.out.cells (fun hS => ?_)
        generalize World.drew wx = X at *
        refine wpAnyH_take (i := 0) (oi := ⟨some 85, Op.fieldAddr 36 (Operand.tmp 7) 2, _, _, _, _⟩) (v := .pointer (some ⟨w.heap.size + 1 + 1, 3, none⟩)) rfl (by kernel_rfl) (by kernel_rfl) (by kernel_rfl) (fun _ _ _ h => h) (Or.inl ⟨by rfl, ?_⟩) hS ?_
        · intro W' hSw; (try dsimp only at hSw); obtain ⟨s0, s1, s2, s3, s4, s5⟩ := hSw; go_simp
        try simp only [Act.put, List.setIfInBounds_toArray, List.set_cons_zero, List.set_cons_succ]
        refine wpAnyH_take (i := 2) (oi := ⟨some 87, Op.fieldAddr 59 (Operand.tmp 9) 0, _, _, _, _⟩) (v := .pointer (some ⟨RB, 0, none⟩)) rfl (by kernel_rfl) (by kernel_rfl) (by kernel_rfl) (fun _ _ _ h => h) (Or.inl ⟨by rfl, ?_⟩) hS ?_
        · intro W' hSw; (try dsimp only at hSw); obtain ⟨s0, s1, s2, s3, s4, s5⟩ := hSw; go_simp
        try simp only [Act.put, List.setIfInBounds_toArray, List.set_cons_zero, List.set_cons_succ]
        refine wpAnyH_take (i := 3) (oi := ⟨some 88, Op.load 3 (Operand.tmp 87), _, _, _, _⟩) (v := .int .i64 day) rfl (by kernel_rfl) (by kernel_rfl) (by kernel_rfl) (fun _ _ _ h => h) (Or.inl ⟨by rfl, ?_⟩) hS ?_
        · intro W' hSw; (try dsimp only at hSw); obtain ⟨s0, s1, s2, s3, s4, s5⟩ := hSw; go_simp
        try simp only [Act.put, List.setIfInBounds_toArray, List.set_cons_zero, List.set_cons_succ]
        refine wpAnyH_take (i := 4) (oi := ⟨some 89, Op.fieldAddr 59 (Operand.tmp 9) 1, _, _, _, _⟩) (v := .pointer (some ⟨RB, 1, none⟩)) rfl (by kernel_rfl) (by kernel_rfl) (by kernel_rfl) (fun _ _ _ h => h) (Or.inl ⟨by rfl, ?_⟩) hS ?_
        · intro W' hSw; (try dsimp only at hSw); obtain ⟨s0, s1, s2, s3, s4, s5⟩ := hSw; go_simp
        try simp only [Act.put, List.setIfInBounds_toArray, List.set_cons_zero, List.set_cons_succ]
        refine wpAnyH_take (i := 5) (oi := ⟨some 90, Op.load 3 (Operand.tmp 89), _, _, _, _⟩) (v := .int .i64 q) rfl (by kernel_rfl) (by kernel_rfl) (by kernel_rfl) (fun _ _ _ h => h) (Or.inl ⟨by rfl, ?_⟩) hS ?_
        · intro W' hSw; (try dsimp only at hSw); obtain ⟨s0, s1, s2, s3, s4, s5⟩ := hSw; go_simp
        try simp only [Act.put, List.setIfInBounds_toArray, List.set_cons_zero, List.set_cons_succ]
        refine wpAnyH_take (i := 6) (oi := ⟨some 91, Op.load 77 (Operand.tmp 10), _, _, _, _⟩) (v := .agg #[.int .i64 f, .int .i64 b', .int .i64 m, .int .i64 e]) rfl (by kernel_rfl) (by kernel_rfl) (by kernel_rfl) (fun _ _ _ h => h) (Or.inl ⟨by rfl, ?_⟩) hS ?_
        · intro W' hSw; (try dsimp only at hSw); obtain ⟨s0, s1, s2, s3, s4, s5⟩ := hSw; go_simp
        try simp only [Act.put, List.setIfInBounds_toArray, List.set_cons_zero, List.set_cons_succ]
        refine wpAnyH_take (i := 7) (oi := ⟨some 92, Op.move (Operand.tmp 11), _, _, _, _⟩) (v := .int .i64 kn) rfl (by kernel_rfl) (by kernel_rfl) (by kernel_rfl) (fun _ _ _ h => h) (Or.inl ⟨by rfl, ?_⟩) hS ?_
        · intro W' hSw; (try dsimp only at hSw); obtain ⟨s0, s1, s2, s3, s4, s5⟩ := hSw; go_simp
        try simp only [Act.put, List.setIfInBounds_toArray, List.set_cons_zero, List.set_cons_succ]
        refine wpAnyH_ready (rs := [1, 8]) (by kernel_rfl) (by simp) ?_
        refine AllReadyH.cons (o := ⟨some 86, Op.load 34 (Operand.tmp 85), _, _, _, _⟩) rfl (fun K hK => ?_) ?_
        ·
          have e4 := HWD.out.1.c23
          go_simp
          clear e4
          refine hK.out _ _ (hS) (fun hS => ?_)
          clear hK K
          try simp only [Act.put, List.setIfInBounds_toArray, List.set_cons_zero, List.set_cons_succ]
          refine wpAnyH_ready (rs := [8]) (by kernel_rfl) (by simp) ?_
          refine AllReadyH.cons (o := ⟨some 93, Op.call { callee := Callee.value (Operand.func 53), args := #[Operand.tmp 91, Operand.tmp 92], argTypes := #[77, 3] }, _, _, _, _⟩) rfl (fun K hK => ?_) ?_
          ·
            go_simp
            refine (HWR.out X).mono ?_
            rintro _ X1 ⟨rfl, hx1⟩
            (try go_wp2_with fail)
            have HW1 := Lib.hid (HWD.out.below hx1)
            have HK1 := Lib.hid (HKD.out.fr (Fr.below hx1 (fun _ => False)) (fun e => e) (fun e => e))
            refine hK.out _ _ (HK1.out.cells) (fun hS => ?_)
            clear hK K
            try simp only [Act.put, List.setIfInBounds_toArray, List.set_cons_zero, List.set_cons_succ]
            clear hx1
            refine wpAnyH_take (i := 9) (oi := ⟨some 94, Op.build 59 #[(0, Operand.tmp 88), (1, Operand.tmp 90), (2, Operand.tmp 93)], _, _, _, _⟩) (v := .agg #[.int .i64 day, .int .i64 q, .int .i64 n']) rfl (by kernel_rfl) (by kernel_rfl) (by kernel_rfl) (fun _ _ _ h => h) (Or.inl ⟨by rfl, ?_⟩) hS ?_
            · intro W' hSw; (try dsimp only at hSw); obtain ⟨s0, s1, s2, s3, s4, s5⟩ := hSw; go_simp
            try simp only [Act.put, List.setIfInBounds_toArray, List.set_cons_zero, List.set_cons_succ]
            refine wpAnyH_ready (rs := [10]) (by kernel_rfl) (by simp) ?_
            refine AllReadyH.cons (o := ⟨some 95, Op.buildSlice 34 1 #[(0, Operand.tmp 94)], _, _, _, _⟩) rfl (fun K hK => ?_) ?_
            ·
              go_simp
              have HW2 := Lib.hid (HW1.out.below (below_alloc X1 (.cells #[.int .i64 day, .int .i64 q, .int .i64 n'] 59)))
              have HK2 := Lib.hid (HK1.out.fr (Fr.below (below_alloc X1 (.cells #[.int .i64 day, .int .i64 q, .int .i64 n'] 59)) (fun _ => False)) (fun e => e) (fun e => e))
              have HN2 : Hid ((X1.alloc (.cells #[.int .i64 day, .int .i64 q, .int .i64 n'] 59)).heap[X1.heap.size]? = some (.cells #[.int .i64 day, .int .i64 q, .int .i64 n'] 59 (0, 0))) := heap_alloc_new X1 _
              refine hK.out _ _ (HK2.out.cells) (fun hS => ?_)
              clear hK K
              try simp only [Act.put, List.setIfInBounds_toArray, List.set_cons_zero, List.set_cons_succ]
              generalize X1.heap.size = BN2 at *
              generalize X1.alloc (.cells #[.int .i64 day, .int .i64 q, .int .i64 n'] 59) = X2 at *
              refine wpAnyH_ready (rs := [11]) (by kernel_rfl) (by simp) ?_
              refine AllReadyH.cons (o := ⟨some 96, Op.call { callee := Callee.builtin Builtin.append, args := #[Operand.tmp 86, Operand.tmp 95], argTypes := #[34, 34] }, _, _, _, _⟩) rfl (fun K hK => ?_) ?_
              ·
                refine step_append_src X2 (by rfl) (.tmp 86) (.tmp 95) 34 (by rfl) (w.heap.size + 3) 59 i0 (.agg #[.int .i64 0, .int .i64 0, .int .i64 0]) 3 24 Try.underlying34 hi0 hz0 hz1 hz2 rfl (by decide) (.slice av kk ac) kk (flatC l) (by rfl) (HOWN.out _ HW2.out.2) (some ⟨BN2, 0, none⟩) 1 1 (flatC [⟨day, q, n'⟩]) (by rfl) ⟨rfl, fun j u hu => ⟨_, rfl, World.news_of_block HN2.out j u hu⟩⟩ (flatC_one _) (by unfold maxLen; omega) (by omega) HW2.out.1.low3 ?_
                intro v3 X3 hown hgrow hat
                obtain ⟨a3, c3, rfl⟩ := own_slice hown
                have HA3 := Lib.hid hown
                have HM3 := Lib.hid (HW2.out.1.fr (Fr.grown hgrow) (fun q e => own_low HW2.out.2 e))
                have HK3 := Lib.hid (HK2.out.fr (Fr.grown hgrow) (fun e => HRB.out.1 e) (fun e => HRB.out.2 e))
                clear hown hgrow hat
                refine hK.out _ _ (HK3.out.cells) (fun hS => ?_)
                clear hK K
                try simp only [Act.put, List.setIfInBounds_toArray, List.set_cons_zero, List.set_cons_succ]
                refine wpAnyH_take (i := 12) (oi := ⟨some 97, Op.fieldAddr 36 (Operand.tmp 7) 2, _, _, _, _⟩) (v := .pointer (some ⟨w.heap.size + 1 + 1, 3, none⟩)) rfl (by kernel_rfl) (by kernel_rfl) (by kernel_rfl) (fun _ _ _ h => h) (Or.inl ⟨by rfl, ?_⟩) hS ?_
                · intro W' hSw; (try dsimp only at hSw); obtain ⟨s0, s1, s2, s3, s4, s5⟩ := hSw; go_simp
                try simp only [Act.put, List.setIfInBounds_toArray, List.set_cons_zero, List.set_cons_succ]
                refine wpAnyH_ready (rs := [13]) (by kernel_rfl) (by simp) ?_
                refine AllReadyH.cons (o := ⟨none, Op.store 34 (Operand.tmp 97) (Operand.tmp 96), _, _, _, _⟩) rfl (fun K hK => ?_) ?_
                ·
                  have e4 := HM3.out.c23
                  have e5 := HM3.out.f23
                  go_simp
                  have HM4 := Lib.hid (HM3.out.set (.slice a3 (kk + 1) c3))
                  have HA4 := Lib.hid (own_fr HA3.out (Fr.set X3 (w.heap.size + 1 + 1) 3 (.slice a3 (kk + 1) c3)) (fun g _ _ hg _ e => by omega))
                  have HK4 := Lib.hid (HK3.out.fr (Fr.set X3 (w.heap.size + 1 + 1) 3 (.slice a3 (kk + 1) c3)) (fun e => by omega) (fun e => by omega))
                  refine hK.out _ _ (HK4.out.cells) (fun hS => ?_)
                  clear hK K
                  try simp only [Act.put, List.setIfInBounds_toArray, List.set_cons_zero, List.set_cons_succ]
                  clear e4 e5
                  refine wpAnyH_done (by kernel_rfl) ?_ _
                  go_wp2
                  go_roundw
                  case rel => exact ⟨k + 1, by omega, by go_num, l ++ [⟨day, q, n'⟩], _, by rw [List.length_append, HLEN.out]; simp; omega, HALL2.out, ⟨HM4.out, by rw [flatC_append, List.length_append, HLEN.out]; exact HA4.out⟩⟩
                  case measure => simp [intOf]; omega
                exact AllReadyH.nil
              exact AllReadyH.nil
            exact AllReadyH.nil
          exact AllReadyH.nil
        refine AllReadyH.cons (o := ⟨some 93, Op.call { callee := Callee.value (Operand.func 53), args := #[Operand.tmp 91, Operand.tmp 92], argTypes := #[77, 3] }, _, _, _, _⟩) rfl (fun K hK => ?_) ?_
        ·
          go_simp
          refine (HWR.out X).mono ?_
          rintro _ X5 ⟨rfl, hx5⟩
          (try go_wp2_with fail)
          have HW5 := Lib.hid (HWD.out.below hx5)
          have HK5 := Lib.hid (HKD.out.fr (Fr.below hx5 (fun _ => False)) (fun e => e) (fun e => e))
          refine hK.out _ _ (HK5.out.cells) (fun hS => ?_)
          clear hK K
          try simp only [Act.put, List.setIfInBounds_toArray, List.set_cons_zero, List.set_cons_succ]
          clear hx5
          refine wpAnyH_take (i := 9) (oi := ⟨some 94, Op.build 59 #[(0, Operand.tmp 88), (1, Operand.tmp 90), (2, Operand.tmp 93)], _, _, _, _⟩) (v := .agg #[.int .i64 day, .int .i64 q, .int .i64 n']) rfl (by kernel_rfl) (by kernel_rfl) (by kernel_rfl) (fun _ _ _ h => h) (Or.inl ⟨by rfl, ?_⟩) hS ?_
          · intro W' hSw; (try dsimp only at hSw); obtain ⟨s0, s1, s2, s3, s4, s5⟩ := hSw; go_simp
          try simp only [Act.put, List.setIfInBounds_toArray, List.set_cons_zero, List.set_cons_succ]
          refine wpAnyH_ready (rs := [1, 10]) (by kernel_rfl) (by simp) ?_
          refine AllReadyH.cons (o := ⟨some 86, Op.load 34 (Operand.tmp 85), _, _, _, _⟩) rfl (fun K hK => ?_) ?_
          ·
            have e4 := HW5.out.1.c23
            go_simp
            clear e4
            refine hK.out _ _ (hS) (fun hS => ?_)
            clear hK K
            try simp only [Act.put, List.setIfInBounds_toArray, List.set_cons_zero, List.set_cons_succ]
            refine wpAnyH_ready (rs := [10]) (by kernel_rfl) (by simp) ?_
            refine AllReadyH.cons (o := ⟨some 95, Op.buildSlice 34 1 #[(0, Operand.tmp 94)], _, _, _, _⟩) rfl (fun K hK => ?_) ?_
            ·
              go_simp
              have HW7 := Lib.hid (HW5.out.below (below_alloc X5 (.cells #[.int .i64 day, .int .i64 q, .int .i64 n'] 59)))
              have HK7 := Lib.hid (HK5.out.fr (Fr.below (below_alloc X5 (.cells #[.int .i64 day, .int .i64 q, .int .i64 n'] 59)) (fun _ => False)) (fun e => e) (fun e => e))
              have HN7 : Hid ((X5.alloc (.cells #[.int .i64 day, .int .i64 q, .int .i64 n'] 59)).heap[X5.heap.size]? = some (.cells #[.int .i64 day, .int .i64 q, .int .i64 n'] 59 (0, 0))) := heap_alloc_new X5 _
              refine hK.out _ _ (HK7.out.cells) (fun hS => ?_)
              clear hK K
              try simp only [Act.put, List.setIfInBounds_toArray, List.set_cons_zero, List.set_cons_succ]
              generalize X5.heap.size = BN7 at *
              generalize X5.alloc (.cells #[.int .i64 day, .int .i64 q, .int .i64 n'] 59) = X7 at *
              refine wpAnyH_ready (rs := [11]) (by kernel_rfl) (by simp) ?_
              refine AllReadyH.cons (o := ⟨some 96, Op.call { callee := Callee.builtin Builtin.append, args := #[Operand.tmp 86, Operand.tmp 95], argTypes := #[34, 34] }, _, _, _, _⟩) rfl (fun K hK => ?_) ?_
              ·
                refine step_append_src X7 (by rfl) (.tmp 86) (.tmp 95) 34 (by rfl) (w.heap.size + 3) 59 i0 (.agg #[.int .i64 0, .int .i64 0, .int .i64 0]) 3 24 Try.underlying34 hi0 hz0 hz1 hz2 rfl (by decide) (.slice av kk ac) kk (flatC l) (by rfl) (HOWN.out _ HW7.out.2) (some ⟨BN7, 0, none⟩) 1 1 (flatC [⟨day, q, n'⟩]) (by rfl) ⟨rfl, fun j u hu => ⟨_, rfl, World.news_of_block HN7.out j u hu⟩⟩ (flatC_one _) (by unfold maxLen; omega) (by omega) HW7.out.1.low3 ?_
                intro v8 X8 hown hgrow hat
                obtain ⟨a8, c8, rfl⟩ := own_slice hown
                have HA8 := Lib.hid hown
                have HM8 := Lib.hid (HW7.out.1.fr (Fr.grown hgrow) (fun q e => own_low HW7.out.2 e))
                have HK8 := Lib.hid (HK7.out.fr (Fr.grown hgrow) (fun e => HRB.out.1 e) (fun e => HRB.out.2 e))
                clear hown hgrow hat
                refine hK.out _ _ (HK8.out.cells) (fun hS => ?_)
                clear hK K
                try simp only [Act.put, List.setIfInBounds_toArray, List.set_cons_zero, List.set_cons_succ]
                refine wpAnyH_take (i := 12) (oi := ⟨some 97, Op.fieldAddr 36 (Operand.tmp 7) 2, _, _, _, _⟩) (v := .pointer (some ⟨w.heap.size + 1 + 1, 3, none⟩)) rfl (by kernel_rfl) (by kernel_rfl) (by kernel_rfl) (fun _ _ _ h => h) (Or.inl ⟨by rfl, ?_⟩) hS ?_
                · intro W' hSw; (try dsimp only at hSw); obtain ⟨s0, s1, s2, s3, s4, s5⟩ := hSw; go_simp
                try simp only [Act.put, List.setIfInBounds_toArray, List.set_cons_zero, List.set_cons_succ]
                refine wpAnyH_ready (rs := [13]) (by kernel_rfl) (by simp) ?_
                refine AllReadyH.cons (o := ⟨none, Op.store 34 (Operand.tmp 97) (Operand.tmp 96), _, _, _, _⟩) rfl (fun K hK => ?_) ?_
                ·
                  have e4 := HM8.out.c23
                  have e5 := HM8.out.f23
                  go_simp
                  have HM9 := Lib.hid (HM8.out.set (.slice a8 (kk + 1) c8))
                  have HA9 := Lib.hid (own_fr HA8.out (Fr.set X8 (w.heap.size + 1 + 1) 3 (.slice a8 (kk + 1) c8)) (fun g _ _ hg _ e => by omega))
                  have HK9 := Lib.hid (HK8.out.fr (Fr.set X8 (w.heap.size + 1 + 1) 3 (.slice a8 (kk + 1) c8)) (fun e => by omega) (fun e => by omega))
                  refine hK.out _ _ (HK9.out.cells) (fun hS => ?_)
                  clear hK K
                  try simp only [Act.put, List.setIfInBounds_toArray, List.set_cons_zero, List.set_cons_succ]
                  clear e4 e5
                  refine wpAnyH_done (by kernel_rfl) ?_ _
                  go_wp2
                  go_roundw
                  case rel => exact ⟨k + 1, by omega, by go_num, l ++ [⟨day, q, n'⟩], _, by rw [List.length_append, HLEN.out]; simp; omega, HALL2.out, ⟨HM9.out, by rw [flatC_append, List.length_append, HLEN.out]; exact HA9.out⟩⟩
                  case measure => simp [intOf]; omega
                exact AllReadyH.nil
              exact AllReadyH.nil
            exact AllReadyH.nil
          refine AllReadyH.cons (o := ⟨some 95, Op.buildSlice 34 1 #[(0, Operand.tmp 94)], _, _, _, _⟩) rfl (fun K hK => ?_) ?_
          ·
            go_simp
            have HW10 := Lib.hid (HW5.out.below (below_alloc X5 (.cells #[.int .i64 day, .int .i64 q, .int .i64 n'] 59)))
            have HK10 := Lib.hid (HK5.out.fr (Fr.below (below_alloc X5 (.cells #[.int .i64 day, .int .i64 q, .int .i64 n'] 59)) (fun _ => False)) (fun e => e) (fun e => e))
            have HN10 : Hid ((X5.alloc (.cells #[.int .i64 day, .int .i64 q, .int .i64 n'] 59)).heap[X5.heap.size]? = some (.cells #[.int .i64 day, .int .i64 q, .int .i64 n'] 59 (0, 0))) := heap_alloc_new X5 _
            refine hK.out _ _ (HK10.out.cells) (fun hS => ?_)
            clear hK K
            try simp only [Act.put, List.setIfInBounds_toArray, List.set_cons_zero, List.set_cons_succ]
            generalize X5.heap.size = BN10 at *
            generalize X5.alloc (.cells #[.int .i64 day, .int .i64 q, .int .i64 n'] 59) = X10 at *
            refine wpAnyH_ready (rs := [1]) (by kernel_rfl) (by simp) ?_
            refine AllReadyH.cons (o := ⟨some 86, Op.load 34 (Operand.tmp 85), _, _, _, _⟩) rfl (fun K hK => ?_) ?_
            ·
              have e4 := HW10.out.1.c23
              go_simp
              clear e4
              refine hK.out _ _ (hS) (fun hS => ?_)
              clear hK K
              try simp only [Act.put, List.setIfInBounds_toArray, List.set_cons_zero, List.set_cons_succ]
              refine wpAnyH_ready (rs := [11]) (by kernel_rfl) (by simp) ?_
              refine AllReadyH.cons (o := ⟨some 96, Op.call { callee := Callee.builtin Builtin.append, args := #[Operand.tmp 86, Operand.tmp 95], argTypes := #[34, 34] }, _, _, _, _⟩) rfl (fun K hK => ?_) ?_
              ·
                refine step_append_src X10 (by rfl) (.tmp 86) (.tmp 95) 34 (by rfl) (w.heap.size + 3) 59 i0 (.agg #[.int .i64 0, .int .i64 0, .int .i64 0]) 3 24 Try.underlying34 hi0 hz0 hz1 hz2 rfl (by decide) (.slice av kk ac) kk (flatC l) (by rfl) (HOWN.out _ HW10.out.2) (some ⟨BN10, 0, none⟩) 1 1 (flatC [⟨day, q, n'⟩]) (by rfl) ⟨rfl, fun j u hu => ⟨_, rfl, World.news_of_block HN10.out j u hu⟩⟩ (flatC_one _) (by unfold maxLen; omega) (by omega) HW10.out.1.low3 ?_
                intro v12 X12 hown hgrow hat
                obtain ⟨a12, c12, rfl⟩ := own_slice hown
                have HA12 := Lib.hid hown
                have HM12 := Lib.hid (HW10.out.1.fr (Fr.grown hgrow) (fun q e => own_low HW10.out.2 e))
                have HK12 := Lib.hid (HK10.out.fr (Fr.grown hgrow) (fun e => HRB.out.1 e) (fun e => HRB.out.2 e))
                clear hown hgrow hat
                refine hK.out _ _ (HK12.out.cells) (fun hS => ?_)
                clear hK K
                try simp only [Act.put, List.setIfInBounds_toArray, List.set_cons_zero, List.set_cons_succ]
                refine wpAnyH_take (i := 12) (oi := ⟨some 97, Op.fieldAddr 36 (Operand.tmp 7) 2, _, _, _, _⟩) (v := .pointer (some ⟨w.heap.size + 1 + 1, 3, none⟩)) rfl (by kernel_rfl) (by kernel_rfl) (by kernel_rfl) (fun _ _ _ h => h) (Or.inl ⟨by rfl, ?_⟩) hS ?_
                · intro W' hSw; (try dsimp only at hSw); obtain ⟨s0, s1, s2, s3, s4, s5⟩ := hSw; go_simp
                try simp only [Act.put, List.setIfInBounds_toArray, List.set_cons_zero, List.set_cons_succ]
                refine wpAnyH_ready (rs := [13]) (by kernel_rfl) (by simp) ?_
                refine AllReadyH.cons (o := ⟨none, Op.store 34 (Operand.tmp 97) (Operand.tmp 96), _, _, _, _⟩) rfl (fun K hK => ?_) ?_
                ·
                  have e4 := HM12.out.c23
                  have e5 := HM12.out.f23
                  go_simp
                  have HM13 := Lib.hid (HM12.out.set (.slice a12 (kk + 1) c12))
                  have HA13 := Lib.hid (own_fr HA12.out (Fr.set X12 (w.heap.size + 1 + 1) 3 (.slice a12 (kk + 1) c12)) (fun g _ _ hg _ e => by omega))
                  have HK13 := Lib.hid (HK12.out.fr (Fr.set X12 (w.heap.size + 1 + 1) 3 (.slice a12 (kk + 1) c12)) (fun e => by omega) (fun e => by omega))
                  refine hK.out _ _ (HK13.out.cells) (fun hS => ?_)
                  clear hK K
                  try simp only [Act.put, List.setIfInBounds_toArray, List.set_cons_zero, List.set_cons_succ]
                  clear e4 e5
                  refine wpAnyH_done (by kernel_rfl) ?_ _
                  go_wp2
                  go_roundw
                  case rel => exact ⟨k + 1, by omega, by go_num, l ++ [⟨day, q, n'⟩], _, by rw [List.length_append, HLEN.out]; simp; omega, HALL2.out, ⟨HM13.out, by rw [flatC_append, List.length_append, HLEN.out]; exact HA13.out⟩⟩
                  case measure => simp [intOf]; omega
                exact AllReadyH.nil
              exact AllReadyH.nil
            exact AllReadyH.nil
          exact AllReadyH.nil
        exact AllReadyH.nil
    · obtain rfl : k = p.nc := by omega
      have HHW := Lib.hid (HP.out.below HBW.out)
      have hpi := HWI.out.1
      obtain ⟨k0, k1, k2, k3⟩ := cells4 hpi.2.1
      have f0 : wr.frozen? ⟨w.heap.size + 1, 0, none⟩ = false := frozen_of_row _ _ 0 _ _ hpi.2.1
      have f1 : wr.frozen? ⟨w.heap.size + 1, 1, none⟩ = false := frozen_of_row _ _ 1 _ _ hpi.2.1
      have f2 : wr.frozen? ⟨w.heap.size + 1, 2, none⟩ = false := frozen_of_row _ _ 2 _ _ hpi.2.1
      have f3 : wr.frozen? ⟨w.heap.size + 1, 3, none⟩ = false := frozen_of_row _ _ 3 _ _ hpi.2.1
      obtain ⟨_, _, _, _, m0, m1, m2, m3⟩ := hpi.cells
      have HFR : Hid (∀ (a b c d : Value), Fr (fun q => q = w.heap.size + 1) wr ((((wr.setCell ⟨w.heap.size + 1, 0, none⟩ a).setCell ⟨w.heap.size + 1, 1, none⟩ b).setCell ⟨w.heap.size + 1, 2, none⟩ c).setCell ⟨w.heap.size + 1, 3, none⟩ d)) := fun a b c d => (((Fr.set _ _ _ _).trans (Fr.set _ _ _ _)).trans (Fr.set _ _ _ _)).trans (Fr.set _ _ _ _)
      have HXF : Hid (∀ W', Fr (fun q => q = w.heap.size + 1) wr W' → ∃ x : Pers, Hid (PersIn W' (.agg #[.int .i64 p.lo, .int .i64 p.hi, .slice ra p.nr rc, .slice av kk ac]) x) ∧ Hid (x.TrueOf p birth)) := fun W' hf =>
        truly_person (HP.out.below (HBW.out.trans (hf.low HBW.out.size (fun q hq e => by omega)))) (own_fr HWI.out.2 hf (fun g _ _ hg _ e => by omega)) HPF.out (by rw [HLEN.out]; exact hll) ⟨br1, br2⟩ HFI.out
      clear hpi
      go_wp2
      obtain ⟨x, HX, HXO⟩ := HXF.out _ (HFR.out (.int .i64 p.lo) (.int .i64 p.hi) (.slice ra p.nr rc) (.slice av kk ac))
      refine bodyPost_ret (v := .tuple #[.agg #[.int .i64 p.lo, .int .i64 p.hi, .slice ra p.nr rc, .slice av kk ac], .int .i64 birth]) (by simp [results, Try.results51, go_sem, k0, k1, k2, k3]) rfl ⟨_, x, birth, rfl, HX, HXO, ?_⟩
      exact HBW.out.trans ((HFR.out _ _ _ _).low HBW.out.size (fun q hq e => by omega))
end Go.Proofs.Ytagfcfojfjkmbaa
