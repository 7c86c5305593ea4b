/- Reference: Ages. -/
import Derived.Test.YtagfcfojfjkmbaaR1
import Derived.Test.YtagfcfojfjkmbaaK1
namespace Go.Proofs.Ytagfcfojfjkmbaa
open Go.RowKit Go.Shelf

def Pers.fl (p : Pers) (j : Nat) : Nat → Bool := agesF (p.rl j).f (p.rl j).b (p.rl j).m (p.rl j).e (p.C j).num 126
theorem okB_alw (p : Pers) (j : Nat) (b : Int) : p.okB j b = alw (p.fl j) (p.C j).day b := rfl
theorem flagsL_length (fl : Nat → Bool) : (flagsL fl).length = 121 := by simp [flagsL]
theorem flagsA_list (fl : Nat → Bool) : (flagsA fl).toList = flagsL fl := rfl
theorem flagsL_get (fl : Nat → Bool) (i : Nat) (h : i < 121) : (flagsL fl)[i]? = some (.bool (fl i)) := by simp [flagsL, h]
theorem flagsL_one (fl : Nat → Bool) : ∀ u ∈ flagsL fl, u.oneCell' = true := by
  intro u hu
  obtain ⟨i, hi, rfl⟩ := List.getElem_of_mem hu
  simp [flagsL, Value.oneCell']
def flatF (F : Nat → Nat → Bool) (k : Nat) : List Value := (List.range k).flatMap fun j => flagsL (F j)
theorem flatF_succ (F : Nat → Nat → Bool) (k : Nat) : flatF F (k + 1) = flatF F k ++ flagsL (F k) := by simp [flatF, List.range_succ]
theorem flatF_length (F : Nat → Nat → Bool) (k : Nat) : (flatF F k).length = k * 121 := by
  induction k with
  | zero => rfl
  | succ k ih => rw [flatF_succ, List.length_append, ih, flagsL_length]; omega
theorem flatF_get (F : Nat → Nat → Bool) (k j i : Nat) (hj : j < k) (hi : i < 121) : (flatF F k)[j * 121 + i]? = (flagsL (F j))[i]? := by
  induction k with
  | zero => omega
  | succ k ih =>
    rw [flatF_succ]
    by_cases h : j < k
    · rw [List.getElem?_append_left (by rw [flatF_length]; omega)]; exact ih h
    · obtain rfl : j = k := by omega
      rw [List.getElem?_append_right (by rw [flatF_length]; omega), flatF_length]
      congr 1; omega
/-- A slice of true ages. -/
def FlagsAt (w : World) (v : Value) (F : Nat → Nat → Bool) (n : Nat) : Prop :=
  (v = .slice none 0 0 ∧ n = 0) ∨ ∃ g cap, v = .slice (some ⟨g, 0, none⟩) n cap ∧ g < w.heap.size ∧ ∀ j, j < n → w.rangeAt g (j * 121) (flagsL (F j))
theorem FlagsAt.slice {w : World} {v : Value} {F : Nat → Nat → Bool} {n : Nat} (h : FlagsAt w v F n) : ∃ a c, v = .slice a n c := by
  rcases h with ⟨rfl, rfl⟩ | ⟨g, cap, rfl, _⟩
  · exact ⟨_, _, rfl⟩
  · exact ⟨_, _, rfl⟩
theorem FlagsAt.below {w w' : World} {v : Value} {F : Nat → Nat → Bool} {n : Nat} (h : FlagsAt w v F n) (hb : Below w.heap.size w w') : FlagsAt w' v F n := by
  rcases h with h | ⟨g, cap, rfl, hg, hr⟩
  · exact .inl h
  · exact .inr ⟨g, cap, rfl, Nat.lt_of_lt_of_le hg hb.size, fun j hj i u hu => kept hb hg (hr j hj i u hu)⟩
theorem flags_of_own {w : World} {base : Nat} {v : Value} {F : Nat → Nat → Bool} {n : Nat} (h : w.ownsRow base 94 121 v n (flatF F n)) : FlagsAt w v F n := by
  have h0 := h
  rcases h.2 with ⟨rfl, hl⟩ | ⟨g, cap, cur, rfl, _, hc, _⟩
  · exact .inl ⟨rfl, hl⟩
  · refine .inr ⟨g, cap, rfl, (Array.getElem?_eq_some_iff.1 hc).1, fun j hj i u hu => ?_⟩
    have hi : i < 121 := by have := (List.getElem?_eq_some_iff.1 hu).1; rwa [flagsL_length] at this
    rw [h0.cellAt _ (by omega), flatF_get F n j i hj hi]
    exact hu
theorem Try.infoFlags : (Try.prog.info? 94).map (fun i => (i.zero, i.size, i.bytes)) = some (some (.agg (flagsA fun _ => false)), 121, 121) := by kernel_rfl
theorem Try.sizeFlags : (Try.prog.info? 94).map (·.size) = some 121 := by kernel_rfl

/-- A slice of one row of flags. -/
theorem run_build_flags (fl : Nat → Bool) (W : World) : (Instr.buildSlice 74 1 #[(0, .agg (flagsA fl))]).run Try.prog W = .ok (.slice (some ⟨W.heap.size, 0, none⟩) 1 1) (W.alloc (.cells (flagsA fl) 94)) := by kernel_rfl
theorem step_build_flags {ops : Array Oper} {o : Oper} {a : Act} {w : World} {K : Act → World → Prop} {Q : Exit → Act → World → Prop} {E : Prop} (hgd : o.guard = none) (x : Operand)
    (ho : o.op = .buildSlice 74 1 #[(0, x)]) (fl : Nat → Bool) (hx : a.eval x = .agg (flagsA fl))
    (h : K (a.put o.dst (.slice (some ⟨w.heap.size, 0, none⟩) 1 1)) (w.alloc (.cells (flagsA fl) 94))) : if Region.wanted o (yielded ops a.tmps) = true then Oper.wp Try.prog o a w K Q else E := by
  have hw : Region.wanted o (yielded ops a.tmps) = true := by simp [Region.wanted, hgd]
  rw [if_pos hw]
  unfold Oper.wp execOp
  simp only [ho, List.map_toArray, List.map_cons, List.map_nil, hx, Sem.run_bind, run_build_flags, Result.andThen_ok]
  exact h

attribute [local go_sem ↓] Go.wp_at_zero Go.wp_at_succ
set_option maxRecDepth 100000 in
set_option maxHeartbeats 8000000 in
theorem refAges_any (v : Value) (p : Pers) (w : World) (h : PersIn w v p) (hp : p.fault = 0) :
    Calls Try.prog 45 #[v] w fun e w' => ∃ u, e = .returned u ∧ FlagsAt w' u p.fl p.nc ∧ Below w.heap.size w w' := by
  have HP := Lib.hid h
  obtain ⟨pn1, pn2, pn3, pl1, pl2, pl3, pl4, pl5, pR, pOK⟩ := Pers.ok_facts hp
  have POK := Lib.hid pOK; have PR := Lib.hid pR; clear hp pOK pR
  obtain ⟨rv, cv, rfl, h1, h2⟩ := h
  obtain ⟨ra, rc, rfl⟩ := h1.slice
  obtain ⟨ca, cc, rfl⟩ := h2.slice
  have HC := Lib.hid h2; have HR := Lib.hid h1; clear h1 h2
  obtain ⟨i0, hi0, hz0, hz1, hz2⟩ := info_parts Try.infoFlags
  go_enter Try.func45, Try.ntmps45
  go_wp2_with fail
  have HW0 : Hid (Below w.heap.size w (w.alloc (.cells #[.int .i64 p.lo, .int .i64 p.hi, .slice ra p.nr rc, .slice ca p.nc cc] 36))) := below_alloc _ _
  have HK0 : Hid ((w.alloc (.cells #[.int .i64 p.lo, .int .i64 p.hi, .slice ra p.nr rc, .slice ca p.nc cc] 36)).heap[w.heap.size]? = some (.cells #[.int .i64 p.lo, .int .i64 p.hi, .slice ra p.nr rc, .slice ca p.nc cc] 36 (0, 0))) := heap_alloc_new _ _
  have hsz0 : (w.alloc (.cells #[.int .i64 p.lo, .int .i64 p.hi, .slice ra p.nr rc, .slice ca p.nc cc] 36)).heap.size = w.heap.size + 1 := by simp
  have HSZ := Lib.hid hsz0; clear hsz0
  generalize w.alloc (.cells #[.int .i64 p.lo, .int .i64 p.hi, .slice ra p.nr rc, .slice ca p.nc cc] 36) = W0 at *
  go_loopw [3, 4] (fun v i wr => ∃ k : Nat, k ≤ p.nc ∧ i = .int .i64 k ∧ wr.ownsRow (w.heap.size + 1) 94 121 v k (flatF p.fl k) ∧ Below (w.heap.size + 1) W0 wr) (fun _ i _ => p.nc - (intOf i).toNat)
  case atStart => exact ⟨0, Nat.zero_le _, rfl, World.ownsRow_nil _ _ _ _, Below.refl _ _⟩
  case round =>
    obtain ⟨k, hk, rfl, hown, hbl⟩ := hrel
    obtain ⟨av, ac, rfl⟩ := own_slice' hown
    have HBL := Lib.hid hbl
    have HBW : Hid (Below w.heap.size w wr) := HW0.out.trans (hbl.mono (by omega))
    have HKW : Hid (wr.heap[w.heap.size]? = some (.cells #[.int .i64 p.lo, .int .i64 p.hi, .slice ra p.nr rc, .slice ca p.nc cc] 36 (0, 0))) := (hbl.block _ (by omega)).trans HK0.out
    obtain ⟨d0, d1, d2, d3⟩ := cells4 HKW.out
    have HA0 := Lib.hid hown
    clear hown hbl d0 d1 d2
    by_cases hlt : k < p.nc
    · obtain ⟨b, off, rfl, hbs, _, x1, x2⟩ := HC.out.at HBW.out hlt
      have hok := POK.out k hlt
      obtain ⟨_, _, rr1, rr2, rn1, rn2⟩ := Rc.ok_facts hok
      obtain ⟨q, hq⟩ : ∃ q : Nat, (p.C k).rule = (q : Int) := ⟨(p.C k).rule.toNat, by omega⟩
      have hqn : q < p.nr := by omega
      obtain ⟨rb, ro, rfl, hrb, _⟩ := HR.out.at HBW.out hqn
      have hrl : p.rl k = p.R q := by unfold Pers.rl; rw [hq]; rfl
      have HFS : Hid (flatF p.fl (k + 1) = flatF p.fl k ++ flagsL (p.fl k)) := flatF_succ _ _
      have hfl : p.fl k = agesF (p.R q).f (p.R q).b (p.R q).m (p.R q).e (p.C k).num 126 := by unfold Pers.fl; rw [hrl]
      have HTR := Lib.hid (fun W => refTrue_any (p.R q).f (p.R q).b (p.R q).m (p.R q).e (p.C k).num W (PR.out q hqn))
      rw [← hfl] at HTR
      have HCAT := Lib.hid (fun (W : World) (hW : Below w.heap.size w W) => HC.out.at hW hlt)
      have HRAT := Lib.hid (fun (W : World) (hW : Below w.heap.size w W) => HR.out.at hW hqn)
      rw [hq] at HCAT
      clear hok hrl hq hfl x1 x2 rr1 rr2 rn1 rn2
      generalize p.fl k = fl at *
      generalize flatF p.fl k = lf at *
      generalize (p.C k).num = num at *
      generalize (p.R q).f = f at *
      generalize (p.R q).b = b' at *
      generalize (p.R q).m = m at *
      generalize (p.R q).e = e at *
      have ki : (0 : Int) ≤ (k : Int) := by omega
      have kj : (k : Int) < (p.nc : Int) := by omega
      have qi : (0 : Int) ≤ (q : Int) := by omega
      have qj : (q : Int) < (p.nr : Int) := by omega
      have HSC : Hid (∀ X : World, Below (w.heap.size + 1) W0 X → X.cell? ⟨w.heap.size, 2, none⟩ = some (.slice (some ⟨rb, ro, none⟩) p.nr rc) ∧ X.cell? ⟨w.heap.size, 3, none⟩ = some (.slice (some ⟨b, off, none⟩) p.nc cc) ∧ X.cell? ⟨b, off + k * 3 + 1, none⟩ = some (.int .i64 q) ∧ X.cell? ⟨b, off + k * 3 + 2, none⟩ = some (.int .i64 num) ∧ X.cell? ⟨rb, ro + q * 4, none⟩ = some (.int .i64 f) ∧ X.cell? ⟨rb, ro + q * 4 + 1, none⟩ = some (.int .i64 b') ∧ X.cell? ⟨rb, ro + q * 4 + 2, none⟩ = some (.int .i64 m) ∧ X.cell? ⟨rb, ro + q * 4 + 3, none⟩ = some (.int .i64 e)) := fun X hX => by
        have hXW : Below w.heap.size w X := HW0.out.trans (hX.mono (by omega))
        obtain ⟨_, _, e1, _, _, y1, y2⟩ := HCAT.out X hXW
        cases e1
        obtain ⟨_, _, e2, _, z0, z1, z2, z3⟩ := HRAT.out X hXW
        cases e2
        obtain ⟨_, _, c2, c3⟩ := cells4 ((hX.block _ (by omega)).trans HK0.out)
        exact ⟨c2, c3, y1, y2, z0, z1, z2, z3⟩
      have HSB : Hid (∀ X : World, Below wr.heap.size wr X → X.cell? ⟨w.heap.size, 2, none⟩ = some (.slice (some ⟨rb, ro, none⟩) p.nr rc) ∧ X.cell? ⟨w.heap.size, 3, none⟩ = some (.slice (some ⟨b, off, none⟩) p.nc cc) ∧ X.cell? ⟨b, off + k * 3 + 1, none⟩ = some (.int .i64 q) ∧ X.cell? ⟨b, off + k * 3 + 2, none⟩ = some (.int .i64 num) ∧ X.cell? ⟨rb, ro + q * 4, none⟩ = some (.int .i64 f) ∧ X.cell? ⟨rb, ro + q * 4 + 1, none⟩ = some (.int .i64 b') ∧ X.cell? ⟨rb, ro + q * 4 + 2, none⟩ = some (.int .i64 m) ∧ X.cell? ⟨rb, ro + q * 4 + 3, none⟩ = some (.int .i64 e)) := fun X hX => HSC.out X (HBL.out.trans (hX.mono (by have := HBL.out.size; have := HSZ.out; omega)))
      have HBS : Hid (w.heap.size + 1 ≤ wr.heap.size) := by have := HBL.out.size; have := HSZ.out; unfold Hid; omega
      go_wp2_with fail
      clear d3
      have HA := Lib.hid (own_fr HA0.out (Fr.below ((Below.refl wr.heap.size wr).drew) (fun _ => False)) (fun _ _ _ _ _ e => e))
      have HL : Hid (Below wr.heap.size wr wr.drew) := (Below.refl _ _).drew
      clear HA0
      refine wp_region_held_drew (S := fun X => X.cell? ⟨w.heap.size, 2, none⟩ = some (.slice (some ⟨rb, ro, none⟩) p.nr rc) ∧ X.cell? ⟨w.heap.size, 3, none⟩ = some (.slice (some ⟨b, off, none⟩) p.nc cc) ∧ X.cell? ⟨b, off + k * 3 + 1, none⟩ = some (.int .i64 q) ∧ X.cell? ⟨b, off + k * 3 + 2, none⟩ = some (.int .i64 num) ∧ X.cell? ⟨rb, ro + q * 4, none⟩ = some (.int .i64 f) ∧ X.cell? ⟨rb, ro + q * 4 + 1, none⟩ = some (.int .i64 b') ∧ X.cell? ⟨rb, ro + q * 4 + 2, none⟩ = some (.int .i64 m) ∧ X.cell? ⟨rb, ro + q * 4 + 3, none⟩ = some (.int .i64 e)) (by kernel_rfl) (HSB.out _ HL.out) (fun hS => ?_)
      generalize World.drew wr = X at *
      refine wpAnyH_take (i := 0) (oi := ⟨some 12, Op.move (Operand.tmp 3), _, _, _, _⟩) (v := .slice av k ac) rfl (by kernel_rfl) (by kernel_rfl) (by kernel_rfl) (fun _ _ _ h => h) (Or.inl ⟨by rfl, ?_⟩) hS ?_
      · intro W' hSw; (try dsimp only at hSw); obtain ⟨s0, s1, s2, s3, s4, s5, s6, s7⟩ := hSw; go_simp
      try simp only [Act.put, List.setIfInBounds_toArray, List.set_cons_zero, List.set_cons_succ]
      refine wpAnyH_take (i := 1) (oi := ⟨some 13, Op.fieldAddr 36 (Operand.tmp 1) 1, _, _, _, _⟩) (v := .pointer (some ⟨w.heap.size, 2, none⟩)) rfl (by kernel_rfl) (by kernel_rfl) (by kernel_rfl) (fun _ _ _ h => h) (Or.inl ⟨by rfl, ?_⟩) hS ?_
      · intro W' hSw; (try dsimp only at hSw); obtain ⟨s0, s1, s2, s3, s4, s5, s6, s7⟩ := hSw; go_simp
      try simp only [Act.put, List.setIfInBounds_toArray, List.set_cons_zero, List.set_cons_succ]
      refine wpAnyH_take (i := 2) (oi := ⟨some 14, Op.load 33 (Operand.tmp 13), _, _, _, _⟩) (v := .slice (some ⟨rb, ro, none⟩) p.nr rc) rfl (by kernel_rfl) (by kernel_rfl) (by kernel_rfl) (fun _ _ _ h => h) (Or.inl ⟨by rfl, ?_⟩) hS ?_
      · intro W' hSw; (try dsimp only at hSw); obtain ⟨s0, s1, s2, s3, s4, s5, s6, s7⟩ := hSw; go_simp
      try simp only [Act.put, List.setIfInBounds_toArray, List.set_cons_zero, List.set_cons_succ]
      refine wpAnyH_take (i := 3) (oi := ⟨some 15, Op.fieldAddr 36 (Operand.tmp 1) 2, _, _, _, _⟩) (v := .pointer (some ⟨w.heap.size, 3, none⟩)) rfl (by kernel_rfl) (by kernel_rfl) (by kernel_rfl) (fun _ _ _ h => h) (Or.inl ⟨by rfl, ?_⟩) hS ?_
      · intro W' hSw; (try dsimp only at hSw); obtain ⟨s0, s1, s2, s3, s4, s5, s6, s7⟩ := hSw; go_simp
      try simp only [Act.put, List.setIfInBounds_toArray, List.set_cons_zero, List.set_cons_succ]
      refine wpAnyH_take (i := 4) (oi := ⟨some 16, Op.load 34 (Operand.tmp 15), _, _, _, _⟩) (v := .slice (some ⟨b, off, none⟩) p.nc cc) rfl (by kernel_rfl) (by kernel_rfl) (by kernel_rfl) (fun _ _ _ h => h) (Or.inl ⟨by rfl, ?_⟩) hS ?_
      · intro W' hSw; (try dsimp only at hSw); obtain ⟨s0, s1, s2, s3, s4, s5, s6, s7⟩ := hSw; go_simp
      try simp only [Act.put, List.setIfInBounds_toArray, List.set_cons_zero, List.set_cons_succ]
      refine wpAnyH_take (i := 5) (oi := ⟨some 17, Op.move (Operand.tmp 4), _, _, _, _⟩) (v := .int .i64 k) rfl (by kernel_rfl) (by kernel_rfl) (by kernel_rfl) (fun _ _ _ h => h) (Or.inl ⟨by rfl, ?_⟩) hS ?_
      · intro W' hSw; (try dsimp only at hSw); obtain ⟨s0, s1, s2, s3, s4, s5, s6, s7⟩ := hSw; go_simp
      try simp only [Act.put, List.setIfInBounds_toArray, List.set_cons_zero, List.set_cons_succ]
      refine wpAnyH_take (i := 6) (oi := ⟨some 18, Op.indexAddr 34 (Operand.tmp 16) (Operand.tmp 17), _, _, _, _⟩) (v := .pointer (some ⟨b, off + k * 3, none⟩)) rfl (by kernel_rfl) (by kernel_rfl) (by kernel_rfl) (fun _ _ _ h => h) (Or.inl ⟨by rfl, ?_⟩) hS ?_
      · intro W' hSw; (try dsimp only at hSw); obtain ⟨s0, s1, s2, s3, s4, s5, s6, s7⟩ := hSw; go_simp
      try simp only [Act.put, List.setIfInBounds_toArray, List.set_cons_zero, List.set_cons_succ]
      refine wpAnyH_take (i := 7) (oi := ⟨some 19, Op.fieldAddr 59 (Operand.tmp 18) 1, _, _, _, _⟩) (v := .pointer (some ⟨b, off + k * 3 + 1, none⟩)) rfl (by kernel_rfl) (by kernel_rfl) (by kernel_rfl) (fun _ _ _ h => h) (Or.inl ⟨by rfl, ?_⟩) hS ?_
      · intro W' hSw; (try dsimp only at hSw); obtain ⟨s0, s1, s2, s3, s4, s5, s6, s7⟩ := hSw; go_simp
      try simp only [Act.put, List.setIfInBounds_toArray, List.set_cons_zero, List.set_cons_succ]
      refine wpAnyH_take (i := 8) (oi := ⟨some 20, Op.load 3 (Operand.tmp 19), _, _, _, _⟩) (v := .int .i64 q) rfl (by kernel_rfl) (by kernel_rfl) (by kernel_rfl) (fun _ _ _ h => h) (Or.inl ⟨by rfl, ?_⟩) hS ?_
      · intro W' hSw; (try dsimp only at hSw); obtain ⟨s0, s1, s2, s3, s4, s5, s6, s7⟩ := hSw; go_simp
      try simp only [Act.put, List.setIfInBounds_toArray, List.set_cons_zero, List.set_cons_succ]
      refine wpAnyH_take (i := 9) (oi := ⟨some 21, Op.indexAddr 33 (Operand.tmp 14) (Operand.tmp 20), _, _, _, _⟩) (v := .pointer (some ⟨rb, ro + q * 4, none⟩)) rfl (by kernel_rfl) (by kernel_rfl) (by kernel_rfl) (fun _ _ _ h => h) (Or.inl ⟨by rfl, ?_⟩) hS ?_
      · intro W' hSw; (try dsimp only at hSw); obtain ⟨s0, s1, s2, s3, s4, s5, s6, s7⟩ := hSw; go_simp
      try simp only [Act.put, List.setIfInBounds_toArray, List.set_cons_zero, List.set_cons_succ]
      refine wpAnyH_take (i := 10) (oi := ⟨some 22, Op.load 77 (Operand.tmp 21), _, _, _, _⟩) (v := .agg #[.int .i64 f, .int .i64 b', .int .i64 m, .int .i64 e]) rfl (by kernel_rfl) (by kernel_rfl) (by kernel_rfl) (fun _ _ _ h => h) (Or.inl ⟨by rfl, ?_⟩) hS ?_
      · intro W' hSw; (try dsimp only at hSw); obtain ⟨s0, s1, s2, s3, s4, s5, s6, s7⟩ := hSw; go_simp
      try simp only [Act.put, List.setIfInBounds_toArray, List.set_cons_zero, List.set_cons_succ]
      refine wpAnyH_take (i := 11) (oi := ⟨some 23, Op.fieldAddr 36 (Operand.tmp 1) 2, _, _, _, _⟩) (v := .pointer (some ⟨w.heap.size, 3, none⟩)) rfl (by kernel_rfl) (by kernel_rfl) (by kernel_rfl) (fun _ _ _ h => h) (Or.inl ⟨by rfl, ?_⟩) hS ?_
      · intro W' hSw; (try dsimp only at hSw); obtain ⟨s0, s1, s2, s3, s4, s5, s6, s7⟩ := hSw; go_simp
      try simp only [Act.put, List.setIfInBounds_toArray, List.set_cons_zero, List.set_cons_succ]
      refine wpAnyH_take (i := 12) (oi := ⟨some 24, Op.load 34 (Operand.tmp 23), _, _, _, _⟩) (v := .slice (some ⟨b, off, none⟩) p.nc cc) rfl (by kernel_rfl) (by kernel_rfl) (by kernel_rfl) (fun _ _ _ h => h) (Or.inl ⟨by rfl, ?_⟩) hS ?_
      · intro W' hSw; (try dsimp only at hSw); obtain ⟨s0, s1, s2, s3, s4, s5, s6, s7⟩ := hSw; go_simp
      try simp only [Act.put, List.setIfInBounds_toArray, List.set_cons_zero, List.set_cons_succ]
      refine wpAnyH_take (i := 13) (oi := ⟨some 25, Op.move (Operand.tmp 4), _, _, _, _⟩) (v := .int .i64 k) rfl (by kernel_rfl) (by kernel_rfl) (by kernel_rfl) (fun _ _ _ h => h) (Or.inl ⟨by rfl, ?_⟩) hS ?_
      · intro W' hSw; (try dsimp only at hSw); obtain ⟨s0, s1, s2, s3, s4, s5, s6, s7⟩ := hSw; go_simp
      try simp only [Act.put, List.setIfInBounds_toArray, List.set_cons_zero, List.set_cons_succ]
      refine wpAnyH_take (i := 14) (oi := ⟨some 26, Op.indexAddr 34 (Operand.tmp 24) (Operand.tmp 25), _, _, _, _⟩) (v := .pointer (some ⟨b, off + k * 3, none⟩)) rfl (by kernel_rfl) (by kernel_rfl) (by kernel_rfl) (fun _ _ _ h => h) (Or.inl ⟨by rfl, ?_⟩) hS ?_
      · intro W' hSw; (try dsimp only at hSw); obtain ⟨s0, s1, s2, s3, s4, s5, s6, s7⟩ := hSw; go_simp
      try simp only [Act.put, List.setIfInBounds_toArray, List.set_cons_zero, List.set_cons_succ]
      refine wpAnyH_take (i := 15) (oi := ⟨some 27, Op.fieldAddr 59 (Operand.tmp 26) 2, _, _, _, _⟩) (v := .pointer (some ⟨b, off + k * 3 + 2, none⟩)) rfl (by kernel_rfl) (by kernel_rfl) (by kernel_rfl) (fun _ _ _ h => h) (Or.inl ⟨by rfl, ?_⟩) hS ?_
      · intro W' hSw; (try dsimp only at hSw); obtain ⟨s0, s1, s2, s3, s4, s5, s6, s7⟩ := hSw; go_simp
      try simp only [Act.put, List.setIfInBounds_toArray, List.set_cons_zero, List.set_cons_succ]
      refine wpAnyH_take (i := 16) (oi := ⟨some 28, Op.load 3 (Operand.tmp 27), _, _, _, _⟩) (v := .int .i64 num) rfl (by kernel_rfl) (by kernel_rfl) (by kernel_rfl) (fun _ _ _ h => h) (Or.inl ⟨by rfl, ?_⟩) hS ?_
      · intro W' hSw; (try dsimp only at hSw); obtain ⟨s0, s1, s2, s3, s4, s5, s6, s7⟩ := hSw; go_simp
      try simp only [Act.put, List.setIfInBounds_toArray, List.set_cons_zero, List.set_cons_succ]
      refine wpAnyH_ready (rs := [17]) (by kernel_rfl) (by simp) ?_
      refine AllReadyH.cons (o := ⟨some 29, Op.call { callee := Callee.value (Operand.func 54), args := #[Operand.tmp 22, Operand.tmp 28], argTypes := #[77, 3] }, _, _, _, _⟩) rfl (fun K hK => ?_) ?_
      ·
        go_simp
        refine (HTR.out X).mono ?_
        rintro _ X0 ⟨rfl, hx0⟩
        (try go_wp2_with fail)
        have HA0 := Lib.hid (own_fr HA.out (Fr.below hx0 (fun _ => False)) (fun _ _ _ _ _ e => e))
        have HL0 := Lib.hid (below_step HL.out hx0)
        refine hK.out _ _ (HSB.out _ HL0.out) (fun hS => ?_)
        clear hK K
        try simp only [Act.put, List.setIfInBounds_toArray, List.set_cons_zero, List.set_cons_succ]
        clear hx0
        refine wpAnyH_ready (rs := [18]) (by kernel_rfl) (by simp) ?_
        refine AllReadyH.cons (o := ⟨some 30, Op.buildSlice 74 1 #[(0, Operand.tmp 29)], _, _, _, _⟩) rfl (fun K hK => ?_) ?_
        ·
          refine step_build_flags (by rfl) (.tmp 29) (by rfl) fl (by rfl) ?_
          have HA1 := Lib.hid (own_fr HA0.out (Fr.below (below_alloc X0 (.cells (flagsA fl) 94)) (fun _ => False)) (fun _ _ _ _ _ e => e))
          have HL1 := Lib.hid (below_step HL0.out (below_alloc X0 (.cells (flagsA fl) 94)))
          have HN1 : Hid ((X0.alloc (.cells (flagsA fl) 94)).heap[X0.heap.size]? = some (.cells (flagsA fl) 94 (0, 0))) := heap_alloc_new X0 _
          refine hK.out _ _ (HSB.out _ HL1.out) (fun hS => ?_)
          clear hK K
          try simp only [Act.put, List.setIfInBounds_toArray, List.set_cons_zero, List.set_cons_succ]
          generalize X0.heap.size = BN1 at *
          generalize X0.alloc (.cells (flagsA fl) 94) = X1 at *
          refine wpAnyH_ready (rs := [19]) (by kernel_rfl) (by simp) ?_
          refine AllReadyH.cons (o := ⟨some 31, Op.call { callee := Callee.builtin Builtin.append, args := #[Operand.tmp 12, Operand.tmp 30], argTypes := #[74, 74] }, _, _, _, _⟩) rfl (fun K hK => ?_) ?_
          ·
            refine step_append_lies X1 (by rfl) (.tmp 12) (.tmp 30) 74 (by rfl) (w.heap.size + 1) 94 i0 (.agg (flagsA fun _ => false)) 121 121 Try.underlying74 hi0 hz0 hz1 hz2 (flagsA_size _) (by omega) (.slice av k ac) k lf (by rfl) HA1.out ⟨BN1, 0, none⟩ 1 1 (flagsL fl) (by rfl) (by rw [flagsL_length]) (fun j u hu => World.news_of_block HN1.out j u (by rw [flagsA_list]; exact hu)) (flagsL_one fl) (by omega) (by unfold maxLen; omega) (by omega) (by have := HL1.out.size; have := HBS.out; omega) _ rfl ?_
            intro g2 c2 X2 hown hgrow hat hlt1
            have HA2 := Lib.hid hown
            have HB2 : Hid (Below (w.heap.size + 1) W0 X2) := HBL.out.trans ((HL1.out.mono HBS.out).trans ((Fr.grown hgrow).low (by have := HL1.out.size; have := HBS.out; omega) (fun q' hq e => by have := own_low HA1.out e; omega)))
            clear hown hgrow hat hlt1
            refine hK.out _ _ (HSC.out _ HB2.out) (fun hS => ?_)
            clear hK K
            try simp only [Act.put, List.setIfInBounds_toArray, List.set_cons_zero, List.set_cons_succ]
            refine wpAnyH_take (i := 20) (oi := ⟨some 3, Op.assign (Operand.tmp 31), _, _, _, _⟩) (v := (.slice (some ⟨g2, 0, none⟩) (k + 1) c2)) rfl (by kernel_rfl) (by kernel_rfl) (by kernel_rfl) (fun _ _ _ h => h) (Or.inl ⟨by rfl, ?_⟩) hS ?_
            · intro W' hSw; (try dsimp only at hSw); obtain ⟨s0, s1, s2, s3, s4, s5, s6, s7⟩ := hSw; go_simp
            try simp only [Act.put, List.setIfInBounds_toArray, List.set_cons_zero, List.set_cons_succ]
            refine wpAnyH_done (by kernel_rfl) ?_ _
            go_wp2
            go_roundw
            case rel => exact ⟨k + 1, by omega, by go_num, by rw [HFS.out]; exact HA2.out, HB2.out⟩
            case measure => simp [intOf]; omega
          exact AllReadyH.nil
        exact AllReadyH.nil
      exact AllReadyH.nil
    · obtain rfl : k = p.nc := by omega
      go_wp2
      go_ret
      exact ⟨_, rfl, flags_of_own HA0.out, HBW.out⟩
end Go.Proofs.Ytagfcfojfjkmbaa
