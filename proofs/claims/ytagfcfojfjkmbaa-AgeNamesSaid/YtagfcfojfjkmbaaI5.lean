/- AgeLater: the walk. -/
import Derived.Test.YtagfcfojfjkmbaaI4
import Derived.Deep.RegionHeld3
import Derived.Outline
namespace Go.Proofs.Ytagfcfojfjkmbaa
open Go.RowKit Go.Shelf

theorem own_slice' {X : World} {base E size n : Nat} {v : Value} {xs : List Value} (h : X.ownsRow base E size v n xs) : ∃ a c, v = .slice a n c := by
  rcases h.2 with ⟨rfl, rfl⟩ | ⟨g, cap, cur, rfl, _⟩
  · exact ⟨_, _, rfl⟩
  · exact ⟨_, _, rfl⟩

theorem cells4 {W : World} {B : Nat} {a b c d : Value} {t : TypeId} {f : Nat × Nat} (h : W.heap[B]? = some (.cells #[a, b, c, d] t f)) : W.cell? ⟨B, 0, none⟩ = some a ∧ W.cell? ⟨B, 1, none⟩ = some b ∧ W.cell? ⟨B, 2, none⟩ = some c ∧ W.cell? ⟨B, 3, none⟩ = some d :=
  ⟨cell_of_row _ _ 0 _ _ _ h, cell_of_row _ _ 1 _ _ _ h, cell_of_row _ _ 2 _ _ _ h, cell_of_row _ _ 3 _ _ _ h⟩
theorem cells3 {W : World} {B : Nat} {a b c : Value} {t : TypeId} {f : Nat × Nat} (h : W.heap[B]? = some (.cells #[a, b, c] t f)) : W.cell? ⟨B, 0, none⟩ = some a ∧ W.cell? ⟨B, 1, none⟩ = some b ∧ W.cell? ⟨B, 2, none⟩ = some c :=
  ⟨cell_of_row _ _ 0 _ _ _ h, cell_of_row _ _ 1 _ _ _ h, cell_of_row _ _ 2 _ _ _ h⟩

/-- While a person of the reference is built in block B: its records v so far. -/
def LI (w w1 : World) (o0 : Obj) (a b c : Value) (v : Value) (l : List Rc) (W : World) : Prop :=
  W.heap[w.heap.size]? = some o0 ∧ W.heap[w1.heap.size]? = some (.cells #[a, b, c, v] 36 (0, 0)) ∧ Below w1.heap.size w1 W ∧ W.ownsRow (w1.heap.size + 1) 59 3 v l.length (flatC l)
theorem LI.next {w w1 : World} {o0 : Obj} {a b c v v' : Value} {l l' : List Rc} {W W' : World} {ex : Nat → Prop} (h : LI w w1 o0 a b c v l W) (hw : w.heap.size < w1.heap.size) (hf : Fr ex W W') (hx : ∀ q, ex q → w1.heap.size + 1 ≤ q)
    (ho : W'.ownsRow (w1.heap.size + 1) 59 3 v' l'.length (flatC l')) : LI w w1 o0 a b c v' l' (W'.setCell ⟨w1.heap.size, 3, none⟩ v') := by
  obtain ⟨h0, h1, h2, _⟩ := h
  have g0 := (hf.block _ (Array.getElem?_eq_some_iff.1 h0).1 (fun e => by have := hx _ e; omega)).trans h0
  have g1 := (hf.block _ (Array.getElem?_eq_some_iff.1 h1).1 (fun e => by have := hx _ e; omega)).trans h1
  have hs := Fr.set W' w1.heap.size 3 v'
  have gl1 := (Array.getElem?_eq_some_iff.1 g1).1
  refine ⟨(hs.block _ (by omega) (by omega)).trans g0, ?_, ?_, own_fr ho hs (fun g _ _ hg _ e => by omega)⟩
  · simp [World.setCell, Array.getElem?_modify, g1]
  · have hb := h2.trans (hf.low h2.size (fun q hq e => by have := hx _ e; omega))
    exact hb.trans (hs.low hb.size (fun q hq e => by omega))

theorem later_person {W : World} {p : Pers} {n : Int} {base : Nat} {v0 v1 rv cv v2 : Value} (h : PersIn W (.agg #[v0, v1, rv, cv]) p) (ho : W.ownsRow base 59 3 v2 (rcTo (fun j => (p.C j).later n) p.nc).length (flatC (rcTo (fun j => (p.C j).later n) p.nc))) :
    ∃ x : Pers, Hid (x.LaterOf p n) ∧ Hid (PersIn W (.agg #[.int .i64 (p.lo + n), .int .i64 (p.hi + n), rv, v2]) x) := by
  obtain ⟨rv', cv', e, h1, h2⟩ := h
  simp only [Value.agg.injEq, Array.mk.injEq, List.cons.injEq, and_true] at e
  obtain ⟨_, _, rfl, rfl⟩ := e
  have hc : CR W base v2 (rcTo (fun j => (p.C j).later n) p.nc) := ho
  have hin := hc.in
  rw [rcTo_length] at hin
  refine ⟨⟨p.lo + n, p.hi + n, p.nr, p.R, p.nc, fun j => (rcTo (fun j => (p.C j).later n) p.nc).getD j ⟨0, 0, 0⟩⟩, ⟨rfl, rfl, rfl, rfl, rfl, fun j hj => ?_⟩, ⟨rv, v2, rfl, h1, hin⟩⟩
  simp [rcTo, hj]
theorem shiftL_length (n : Int) (l : RL) : (shiftL n l).length = l.length := by simp [shiftL]

attribute [local go_sem ↓] Go.wp_at_zero Go.wp_at_succ
set_option maxRecDepth 100000 in
set_option maxHeartbeats 8000000 in
theorem ageLater_walk (v : Value) (p : Pers) (n : Int) (w : World) (h : PersIn w v p) (hn0 : -32768 ≤ n) (hn1 : n ≤ 32767) :
    Calls Try.prog 9 #[v, .int .i16 n] w fun e w' => e = .returned (.bool true) ∧ Below w.heap.size w w' := by
  have HP := Lib.hid h
  have HAW := Lib.hid awake_any
  obtain ⟨rv, cv, rfl, h1, h2⟩ := h
  obtain ⟨ra, rc, rfl⟩ := h1.slice
  obtain ⟨ca, cc, rfl⟩ := h2.slice
  have HR := Lib.hid h1
  have HC := Lib.hid h2; clear h1 h2
  have HB0 : Hid (Below w.heap.size w (w.alloc (.cells #[.int .i64 p.lo, .int .i64 p.hi, .slice ra p.nr rc, .slice ca p.nc cc] 36))) := below_alloc _ _
  have HK0 : Hid ((w.alloc (.cells #[.int .i64 p.lo, .int .i64 p.hi, .slice ra p.nr rc, .slice ca p.nc cc] 36)).heap[w.heap.size]? = some (.cells #[.int .i64 p.lo, .int .i64 p.hi, .slice ra p.nr rc, .slice ca p.nc cc] 36 (0, 0))) := heap_alloc_new _ _
  obtain ⟨i0, hi0, hz0, hz1, hz2⟩ := info_parts Try.infoRec
  cases hp : (p.fault == 0)
  · go_enter Try.func9, Try.ntmps9
    go_wp2_with (first | (go_at_call 36; refine (ready_any _ p _ (HP.out.below HB0.out)).mono ?_; rintro _ w1 ⟨rfl, hb1⟩) | (go_at_call 20; refine (HAW.out _).mono ?_; rintro _ w3 ⟨rfl, hb3⟩))
    go_ret
    exact ⟨rfl, below_step (below_step HB0.out hb1) hb3⟩
  have hpf : p.fault = 0 := by simpa using hp
  obtain ⟨pn1, pn2, pn3, pl1, pl2, pl3, pl4, pl5, _, pOK⟩ := Pers.ok_facts hpf
  have HPF := Lib.hid hpf; have POK := Lib.hid pOK; clear hpf pOK
  go_enter Try.func9, Try.ntmps9
  go_wp2_with fail
  refine (ready_any _ p _ (HP.out.below HB0.out)).mono ?_
  rintro _ w1 ⟨rfl, hb1⟩
  have HK1 : Hid (w1.heap[w.heap.size]? = some (.cells #[.int .i64 p.lo, .int .i64 p.hi, .slice ra p.nr rc, .slice ca p.nc cc] 36 (0, 0))) := (hb1.block _ (by simp)).trans HK0.out
  have hs1 : w.heap.size < w1.heap.size := (Array.getElem?_eq_some_iff.1 HK1.out).1
  have HB1 : Hid (Below w.heap.size w w1) := below_step HB0.out hb1
  obtain ⟨d0, d1, d2, d3⟩ := cells4 HK1.out
  clear hb1 HB0 HK0
  go_wp2_with fail
  have HL0 : Hid (LI w w1 (.cells #[.int .i64 p.lo, .int .i64 p.hi, .slice ra p.nr rc, .slice ca p.nc cc] 36 (0, 0)) (.int .i64 (p.lo + n)) (.int .i64 (p.hi + n)) (.slice ra p.nr rc) (.slice none 0 0) [] (w1.alloc (.cells #[.int .i64 (p.lo + n), .int .i64 (p.hi + n), .slice ra p.nr rc, .slice none 0 0] 36))) := ⟨(Below.heap_alloc _ _ _ hs1).trans HK1.out, heap_alloc_new _ _, below_alloc _ _, World.ownsRow_nil _ _ _ _⟩
  clear d0 d1 d2 d3
  go_loopw [7] (fun i wr => ∃ k : Nat, k ≤ p.nc ∧ i = .int .i64 k ∧ ∃ v, LI w w1 (.cells #[.int .i64 p.lo, .int .i64 p.hi, .slice ra p.nr rc, .slice ca p.nc cc] 36 (0, 0)) (.int .i64 (p.lo + n)) (.int .i64 (p.hi + n)) (.slice ra p.nr rc) v (rcTo (fun j => (p.C j).later n) k) wr) (fun i _ => p.nc - (intOf i).toNat)
  case atStart => exact ⟨0, Nat.zero_le _, rfl, _, HL0.out⟩
  case round =>
    clear HL0
    obtain ⟨k, hk, rfl, v, hli⟩ := hrel
    obtain ⟨av, ac, rfl⟩ := own_slice' hli.2.2.2
    have hlen := rcTo_length (fun j => (p.C j).later n) k
    rw [hlen] at hli
    have HLI := Lib.hid hli
    have HBW : Hid (Below w.heap.size w wr) := HB1.out.trans (hli.2.2.1.mono (by omega))
    obtain ⟨d0, d1, d2, d3⟩ := cells4 hli.1
    obtain ⟨e0, e1, e2, e3⟩ := cells4 hli.2.1
    have hsW := (Array.getElem?_eq_some_iff.1 hli.2.1).1
    clear hli d0 d1 d2
    by_cases hlt : k < p.nc
    · obtain ⟨b, off, rfl, hbs, x0, x1, x2⟩ := HC.out.at HBW.out hlt
      obtain ⟨rd1, rd2, _⟩ := Rc.ok_facts (POK.out k hlt)
      have HRS : Hid (rcTo (fun j => (p.C j).later n) (k + 1) = rcTo (fun j => (p.C j).later n) k ++ [⟨(p.C k).day + n, (p.C k).rule, (p.C k).num⟩]) := rcTo_succ _ _
      have HLEN := Lib.hid hlen; clear hlen
      generalize rcTo (fun j => (p.C j).later n) k = l at *
      generalize (p.C k).day = day at *
      generalize (p.C k).rule = rule at *
      generalize (p.C k).num = num at *
      have ki : (0 : Int) ≤ (k : Int) := by omega
      have kj : (k : Int) < (p.nc : Int) := by omega
      have hs3 : w1.heap.size < wr.heap.size + 1 := by omega
      have hs4 : w1.heap.size < wr.heap.size + 1 + 1 := by omega
      have HOWN : Hid (wr.ownsRow (w1.heap.size + 1) 59 3 (.slice av k ac) k (flatC l)) := by have := HLI.out.2.2.2; rw [HLEN.out] at this; exact this
      go_wp2_with (at_builtin; refine wpList_append_lies _ rfl (.tmp 52) (.tmp 54) 34 rfl (w1.heap.size + 1) 59 i0 (.agg #[.int .i64 0, .int .i64 0, .int .i64 0]) 3 24 Try.underlying34 hi0 hz0 hz1 hz2 rfl (by omega) (.slice av k ac) k (flatC l) rfl (World.ownsRow.alloc (World.ownsRow.alloc HOWN.out _) _) ⟨wr.heap.size + 1, 0, none⟩ 1 1 [.int .i64 (day + n), .int .i64 rule, .int .i64 num] rfl rfl ?c1 ?c2 ?c3 ?c4 ?c5 ?c6 (wr.heap.size + 1 + 1) ?c7 ?_)
      case c1 =>
        have := heap_alloc_new (wr.alloc (.cells #[.int .i64 (day + n), .int .i64 rule, .int .i64 num] 59)) (.cells #[.int .i64 (day + n), .int .i64 rule, .int .i64 num] 59)
        rw [World.size_alloc] at this
        exact World.news_of_block this
      case c2 => simp [Value.oneCell']
      case c3 => omega
      case c4 => unfold maxLen; omega
      case c5 => omega
      case c6 => simp; omega
      case c7 => simp
      intro g cap' X hown hgrow hat hlt1
      have HF : Hid (Fr (fun q => (Value.slice av k ac).ownBlock = some q) wr X) := (Fr.below ((below_alloc wr (.cells #[.int .i64 (day + n), .int .i64 rule, .int .i64 num] 59)).alloc (by simp) (.cells #[.int .i64 (day + n), .int .i64 rule, .int .i64 num] 59)) _).trans (Fr.grown hgrow)
      have hlow : ∀ q, (Value.slice av k ac).ownBlock = some q → w1.heap.size + 1 ≤ q := fun q e => own_low HOWN.out e
      have HK : Hid (X.heap[w1.heap.size]? = some (.cells #[.int .i64 (p.lo + n), .int .i64 (p.hi + n), .slice ra p.nr rc, .slice av k ac] 36 (0, 0))) := (HF.out.block _ hsW (fun e => by have := hlow _ e; omega)).trans HLI.out.2.1
      have e4 := (cells4 HK.out).2.2.2
      have e5 : X.frozen? ⟨w1.heap.size, 3, none⟩ = false := frozen_of_row _ _ 3 _ _ HK.out
      have HN : Hid (LI w w1 (.cells #[.int .i64 p.lo, .int .i64 p.hi, .slice ra p.nr rc, (.slice (some ⟨b, off, none⟩) p.nc cc)] 36 (0, 0)) (.int .i64 (p.lo + n)) (.int .i64 (p.hi + n)) (.slice ra p.nr rc) (.slice (some ⟨g, 0, none⟩) (k + 1) cap') (l ++ [⟨day + n, rule, num⟩]) (X.setCell ⟨w1.heap.size, 3, none⟩ (.slice (some ⟨g, 0, none⟩) (k + 1) cap'))) := HLI.out.next hs1 HF.out hlow (by rw [flatC_append, List.length_append, HLEN.out]; exact hown)
      clear hown hgrow hat hlt1 hlow HF d3 e0 e1 e2 e3 x0 x1 x2
      go_wp2
      go_roundw
      case rel => exact ⟨k + 1, by omega, by go_num, _, by rw [HRS.out]; exact HN.out⟩
      case measure => simp [intOf]; omega
    · obtain rfl : k = p.nc := by omega
      obtain ⟨d0, d1, d2, d3⟩ := cells4 HLI.out.1
      obtain ⟨x, HLO, HPX⟩ : ∃ x : Pers, Hid (x.LaterOf p n) ∧ Hid (PersIn wr (.agg #[.int .i64 (p.lo + n), .int .i64 (p.hi + n), .slice ra p.nr rc, .slice av p.nc ac]) x) := later_person (HP.out.below HBW.out) HLI.out.2.2.2
      have HPW := Lib.hid (HP.out.below HBW.out)
      clear HLI hlen POK HR HC hi0 hz0 hz1 hz2 HP
      go_wp2_with fail
      refine (fault_any _ x _ HPX.out).mono ?_
      rintro _ w2 ⟨rfl, hb2⟩
      cases hx : (x.fault != 0)
      rotate_left
      · go_wp2_with (go_at_call 20; refine (HAW.out _).mono ?_; rintro _ w3 ⟨rfl, hb3⟩)
        go_ret
        exact ⟨rfl, below_step (below_step HBW.out hb2) hb3⟩
      have hxf : x.fault = 0 := by simpa using hx
      have HXF := Lib.hid hxf
      obtain ⟨xn1, xn2, _⟩ := Pers.ok_facts hxf
      clear hxf
      obtain ⟨f0, f1, f2, f3, f4, f5, f6, f7⟩ : w2.cell? ⟨w.heap.size, 0, none⟩ = some (.int .i64 p.lo) ∧ w2.cell? ⟨w.heap.size, 1, none⟩ = some (.int .i64 p.hi) ∧ w2.cell? ⟨w.heap.size, 2, none⟩ = some (.slice ra p.nr rc) ∧ w2.cell? ⟨w.heap.size, 3, none⟩ = some (.slice ca p.nc cc) ∧ w2.cell? ⟨w1.heap.size, 0, none⟩ = some (.int .i64 (p.lo + n)) ∧ w2.cell? ⟨w1.heap.size, 1, none⟩ = some (.int .i64 (p.hi + n)) ∧ w2.cell? ⟨w1.heap.size, 2, none⟩ = some (.slice ra p.nr rc) ∧ w2.cell? ⟨w1.heap.size, 3, none⟩ = some (.slice av p.nc ac) :=
        ⟨kept hb2 (by omega) d0, kept hb2 (by omega) d1, kept hb2 (by omega) d2, kept hb2 (by omega) d3, kept hb2 hsW e0, kept hb2 hsW e1, kept hb2 hsW e2, kept hb2 hsW e3⟩
      have HB2 := Lib.hid hb2
      have hs2 := hb2.size
      clear d0 d1 d2 d3 e0 e1 e2 e3 hb2
      go_wp2_with fail
      refine (person_any _ p _ (HPW.out.below HB2.out) (by omega) (by omega)).mono ?_
      rintro _ w3 ⟨u3, rfl, hu3, hb3⟩
      have HU3 := Lib.hid hu3
      go_wp2_with fail
      refine (Births_any _ p _ HU3.out (by omega) (by omega)).mono ?_
      rintro _ w4 ⟨v4, rfl, hr4, hb4⟩
      have HR4 := Lib.hid hr4
      have HB24 : Hid (Below w2.heap.size w2 w4) := below_step hb3 hb4
      obtain ⟨a4, c4, rfl⟩ := hr4.slice
      have f4 := kept HB24.out (by omega) f4
      have f5 := kept HB24.out (by omega) f5
      have f6 := kept HB24.out (by omega) f6
      have f7 := kept HB24.out (by omega) f7
      clear hu3 hb3 hr4 hb4 f0 f1 f2 f3
      go_wp2_with fail
      refine (person_any _ x _ ((HPX.out.below HB2.out).below HB24.out) (by omega) (by omega)).mono ?_
      rintro _ w5 ⟨u5, rfl, hu5, hb5⟩
      have HU5 := Lib.hid hu5
      go_wp2_with fail
      refine (Births_any _ x _ HU5.out (by omega) (by omega)).mono ?_
      rintro _ w6 ⟨v6, rfl, hr6, hb6⟩
      have HB46 : Hid (Below w4.heap.size w4 w6) := below_step hb5 hb6
      have HB26 : Hid (Below w2.heap.size w2 w6) := below_step HB24.out HB46.out
      have HBX : Hid (x.born = shiftL n p.born) := later_born HLO.out HPF.out HXF.out
      have HEE : Hid (x.bErr = p.bErr) := by unfold Hid; rw [bErr_of HXF.out, bErr_of HPF.out, HBX.out]; unfold shiftL; simp
      rw [HBX.out] at hr6
      rw [HEE.out]
      obtain ⟨a6, c6, rfl⟩ := hr6.slice
      rw [shiftL_length] at hr6 ⊢
      have HA := Lib.hid (HR4.out.bel HB46.out).rg
      have HBB := Lib.hid hr6.rg
      have hl1 := born_length p
      have hlb : ∀ r ∈ p.born, -50000 ≤ r.1 ∧ r.1 ≤ r.2 ∧ r.2 ≤ 50000 := born_in p
      have HLB := Lib.hid hlb
      have HE1 : Hid (p.bErr = if p.born = [] then 9 else 0) := bErr_of HPF.out
      clear f4 f5 f6 f7 hu5 hb5 hb6 hr6 hlb
      have HSL : Hid (∀ k (hk : k < p.born.length), ∃ hk' : k < (shiftL n p.born).length, (shiftL n p.born)[k]'hk' = ((p.born[k]).1 + n, (p.born[k]).2 + n)) := fun k hk => ⟨by rw [shiftL_length]; exact hk, by simp [shiftL]⟩
      have HLX : Hid ((shiftL n p.born).length = p.born.length) := shiftL_length _ _
      generalize shiftL n p.born = lx at *
      clear HEE HBX HXF HPX HPW HU3 HU5 HB24 HB46 hx HR4
      have HBW6 : Hid (Below w.heap.size w w6) := below_step (below_step HBW.out HB2.out) HB26.out
      go_wp2_with fail
      go_loopw [13] (fun i wr => ∃ k : Nat, k ≤ p.born.length ∧ i = .int .i64 k ∧ Below w6.heap.size w6 wr) (fun i _ => p.born.length - (intOf i).toNat)
      case atStart => exact ⟨0, Nat.zero_le _, rfl, Below.refl _ _⟩
      case round =>
        obtain ⟨k, hk, rfl, hbl⟩ := hrel
        have HBL := Lib.hid hbl; clear hbl
        by_cases hlt : k < p.born.length
        · obtain ⟨ga, oa, rfl, xa, ya⟩ := HA.out.get hlt
          obtain ⟨hk', hval⟩ := HSL.out k hlt
          obtain ⟨gb, ob, rfl, xb, yb⟩ := (show RgAt w6 (.slice a6 lx.length c6) lx by have := HBB.out; rw [← HLX.out] at this; exact this).get hk'
          rw [hval] at xb yb
          obtain ⟨lb1, lb2, lb3⟩ := HLB.out _ (List.getElem_mem hlt)
          have ga1 := World.block_lt_of_cell? _ _ xa
          have gb1 := World.block_lt_of_cell? _ _ xb
          clear hval
          generalize (p.born[k]).1 = lo at *
          generalize (p.born[k]).2 = hi at *
          have HSB : Hid (∀ X : World, Below w6.heap.size w6 X → X.cell? ⟨ga, oa + k * 2, none⟩ = some (.int .i64 lo) ∧ X.cell? ⟨ga, oa + k * 2 + 1, none⟩ = some (.int .i64 hi) ∧ X.cell? ⟨gb, ob + k * 2, none⟩ = some (.int .i64 (lo + n)) ∧ X.cell? ⟨gb, ob + k * 2 + 1, none⟩ = some (.int .i64 (hi + n)) ∧ Below w6.heap.size w6 X) :=
            fun X hX => ⟨kept hX ga1 xa, kept hX ga1 ya, kept hX gb1 xb, kept hX gb1 yb, hX⟩
          clear xa ya xb yb ga1 gb1
          have ki : (0 : Int) ≤ (k : Int) := by omega
          have kj : (k : Int) < (p.born.length : Int) := by omega
          have hq : ∀ W : World, (binOp .neq 41 (.agg #[.int .i64 (lo + n), .int .i64 (hi + n)]) (.agg #[.int .i64 (lo + n), .int .i64 (hi + n)])).run Try.prog W = .ok (.bool false) W := fun W => by rw [neq_range]; simp
          go_wp2_with fail
          have w1e : IntKind.i64.wrap (lo + n) = lo + n := IntWalk.i64_in _ (by omega)
          have w2e : IntKind.i64.wrap (hi + n) = hi + n := IntWalk.i64_in _ (by omega)
          go_region_held3 (fun X => X.cell? ⟨ga, oa + k * 2, none⟩ = some (.int .i64 lo) ∧ X.cell? ⟨ga, oa + k * 2 + 1, none⟩ = some (.int .i64 hi) ∧ X.cell? ⟨gb, ob + k * 2, none⟩ = some (.int .i64 (lo + n)) ∧ X.cell? ⟨gb, ob + k * 2 + 1, none⟩ = some (.int .i64 (hi + n)) ∧ Below w6.heap.size w6 X)
            (first | exact HSB.out _ (HBL.out.trans ((Below.refl _ _).drew)) | (go_split_ands; refine HSB.out _ (below_step ?_ hbX); assumption))
            ((go_at_call 41; refine (between_any _ _ _).mono ?_; rintro e wX ⟨rfl, hbX⟩))
          all_goals
            clear w1e w2e
            go_wp2
            go_roundw
            case rel => (go_split_ands; exact ⟨k + 1, by omega, by go_num, by assumption⟩)
            case measure => simp [intOf]; omega
        · obtain rfl : k = p.born.length := by omega
          by_cases b1 : p.born = []
          all_goals
            rw [HE1.out]
            first | rw [if_pos b1] | rw [if_neg b1]
            clear b1
            go_wp2_with (go_at_call 20; refine (HAW.out _).mono ?_; rintro _ w12 ⟨rfl, hb12⟩)
            go_ret
            exact ⟨rfl, HBW6.out.trans ((HBL.out.trans (hb12.mono HBL.out.size)).mono HBW6.out.size)⟩
end Go.Proofs.Ytagfcfojfjkmbaa
