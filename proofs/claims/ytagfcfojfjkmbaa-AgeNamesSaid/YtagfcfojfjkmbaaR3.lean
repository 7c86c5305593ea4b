/- Reference: Denies, Possible. -/
import Derived.Test.YtagfcfojfjkmbaaR2
import Derived.Deep.DeepCutAuto
import Derived.Deep.MidRow
import Derived.OrdersHeld
namespace Go.Proofs.Ytagfcfojfjkmbaa
open Go.RowKit Go.Shelf

theorem yieldsIf_load_flags {ops : Array Oper} {S : World → Prop} {op : Oper} {a : Act} (hw : Region.wanted op (yielded ops a.tmps) = true) (x : Operand) (ho : op.op = .load 94 x)
    (b o : Nat) (hx : a.eval x = .pointer (some ⟨b, o, none⟩)) (fl : Nat → Bool) (hS : ∀ w, S w → w.rangeAt b o (flagsL fl)) : YieldsIf Try.prog ops S op (.agg (flagsA fl)) a :=
  yieldsIf_load_mid hw 94 x ho b o hx (flagsL fl) _ hS Try.underlying94 rfl (by rw [flagsL_length]; exact Try.sizeFlags)
/-- The records below k that do not allow a day. -/
def dnTo (p : Pers) (b : Int) (k : Nat) : List Nat := (List.range k).filter fun j => !p.okB j b
theorem dnTo_succ (p : Pers) (b : Int) (k : Nat) : dnTo p b (k + 1) = if p.okB k b = true then dnTo p b k else dnTo p b k ++ [k] := by
  unfold dnTo
  rw [List.range_succ, List.filter_append]
  cases h : p.okB k b <;> simp [h]
theorem dnTo_length (p : Pers) (b : Int) (k : Nat) : (dnTo p b k).length ≤ k := by
  unfold dnTo
  have := List.length_filter_le (fun j => !p.okB j b) (List.range k)
  simpa using this
def GivesN (w : World) (l : List Int) (e : Ending) (w' : World) : Prop := ∃ v, e = .returned v ∧ IL w' v l ∧ Below w.heap.size w w'

attribute [local go_sem ↓] Go.wp_at_zero Go.wp_at_succ
set_option maxRecDepth 100000 in
set_option maxHeartbeats 8000000 in
theorem denies_any (v av : Value) (p : Pers) (birth : Int) (w : World) (h : PersIn w v p) (hp : p.fault = 0) (ha : FlagsAt w av p.fl p.nc) (hb0 : -50000 ≤ birth) (hb1 : birth ≤ 50000) :
    Calls Try.prog 75 #[v, av, .int .i64 birth] w (GivesN w (castL (p.denies birth))) := by
  obtain ⟨pn1, pn2, pn3, pl1, pl2, pl3, pl4, pl5, pR, pOK⟩ := Pers.ok_facts hp
  have POK := Lib.hid pOK; clear hp pOK pR
  obtain ⟨rv, cv, rfl, h1, h2⟩ := h
  obtain ⟨ra, rc, rfl⟩ := h1.slice
  obtain ⟨ca, cc, rfl⟩ := h2.slice
  have HC := Lib.hid h2; clear h1 h2
  obtain ⟨aa, ac, rfl⟩ := ha.slice
  have HF := Lib.hid ha; clear ha
  obtain ⟨i0, hi0, hz0, hz1, hz2⟩ := info_parts Try.infoInt
  go_enter Try.func75, Try.ntmps75
  go_wp2_with fail
  have HW0 : Hid (Below w.heap.size w (w.alloc (.cells #[.int .i64 p.lo, .int .i64 p.hi, .slice ra p.nr rc, .slice ca p.nc cc] 36))) := below_alloc _ _
  have HK0 : Hid ((w.alloc (.cells #[.int .i64 p.lo, .int .i64 p.hi, .slice ra p.nr rc, .slice ca p.nc cc] 36)).heap[w.heap.size]? = some (.cells #[.int .i64 p.lo, .int .i64 p.hi, .slice ra p.nr rc, .slice ca p.nc cc] 36 (0, 0))) := heap_alloc_new _ _
  have hsz0 : (w.alloc (.cells #[.int .i64 p.lo, .int .i64 p.hi, .slice ra p.nr rc, .slice ca p.nc cc] 36)).heap.size = w.heap.size + 1 := by simp
  have HSZ := Lib.hid hsz0; clear hsz0
  generalize w.alloc (.cells #[.int .i64 p.lo, .int .i64 p.hi, .slice ra p.nr rc, .slice ca p.nc cc] 36) = W0 at *
  go_loopw [7, 8] (fun v i wr => ∃ k : Nat, k ≤ p.nc ∧ i = .int .i64 k ∧ wr.ownsRow (w.heap.size + 1) 3 1 v (castL (dnTo p birth k)).length (intsV (castL (dnTo p birth k))) ∧ Below (w.heap.size + 1) W0 wr) (fun _ i _ => p.nc - (intOf i).toNat)
  case atStart => exact ⟨0, Nat.zero_le _, rfl, World.ownsRow_nil _ _ _ _, Below.refl _ _⟩
  case round =>
    obtain ⟨k, hk, rfl, hown, hbl⟩ := hrel
    obtain ⟨ov, oc, rfl⟩ := own_slice' hown
    have hlen := dnTo_length p birth k
    rw [← castL_length] at hlen
    generalize hkk : (castL (dnTo p birth k)).length = kk at *
    have HBL := Lib.hid hbl
    have HBW : Hid (Below w.heap.size w wr) := HW0.out.trans (hbl.mono (by omega))
    have HKW : Hid (wr.heap[w.heap.size]? = some (.cells #[.int .i64 p.lo, .int .i64 p.hi, .slice ra p.nr rc, .slice ca p.nc cc] 36 (0, 0))) := (hbl.block _ (by omega)).trans HK0.out
    obtain ⟨d0, d1, d2, d3⟩ := cells4 HKW.out
    have HOWN := Lib.hid hown; have HKK := Lib.hid hkk
    have HBS : Hid (w.heap.size + 1 ≤ wr.heap.size) := by have := hbl.size; have := HSZ.out; unfold Hid; omega
    clear hown hbl d0 d1 d2 hkk
    by_cases hlt : k < p.nc
    · obtain ⟨b, off, rfl, hbs, _⟩ := HC.out.at HBW.out hlt
      have hok := POK.out k hlt
      obtain ⟨rd1, rd2, _⟩ := Rc.ok_facts hok
      obtain ⟨ag, rfl, hag⟩ : ∃ ag, aa = some ⟨ag, 0, none⟩ ∧ ∀ X : World, Below w.heap.size w X → X.rangeAt ag (k * 121) (flagsL (p.fl k)) := by
        rcases HF.out with ⟨_, h⟩ | ⟨g, cap, e, hg, hr⟩
        · omega
        · cases e; exact ⟨g, rfl, fun X hX i u hu => kept hX hg (hr k hlt i u hu)⟩
      have HAG := Lib.hid hag; clear hag hok
      have HCAT := Lib.hid (fun (W : World) (hW : Below w.heap.size w W) => HC.out.at hW hlt)
      have HDS : Hid (dnTo p birth (k + 1) = if alw (p.fl k) (p.C k).day birth = true then dnTo p birth k else dnTo p birth k ++ [k]) := dnTo_succ p birth k
      generalize (p.C k).day = day at *
      generalize (p.C k).rule = rule at *
      generalize (p.C k).num = num at *
      generalize p.fl k = fl at *
      have HALW := Lib.hid (fun W => allows_any day rule num fl birth W rd1 rd2 hb0 hb1)
      have ki : (0 : Int) ≤ (k : Int) := by omega
      have kj : (k : Int) < (p.nc : Int) := by omega
      have HSB : Hid (∀ X : World, Below wr.heap.size wr X → X.cell? ⟨w.heap.size, 3, none⟩ = some (.slice (some ⟨b, off, none⟩) p.nc cc) ∧ X.cell? ⟨b, off + k * 3, none⟩ = some (.int .i64 day) ∧ X.cell? ⟨b, off + k * 3 + 1, none⟩ = some (.int .i64 rule) ∧ X.cell? ⟨b, off + k * 3 + 2, none⟩ = some (.int .i64 num) ∧ X.rangeAt ag (k * 121) (flagsL fl)) := fun X hX => by
        have hXW : Below w.heap.size w X := below_step HBW.out hX
        obtain ⟨_, _, e1, _, y0, y1, y2⟩ := HCAT.out X hXW
        cases e1
        exact ⟨kept hX (by have := HBS.out; omega) d3, y0, y1, y2, HAG.out X hXW⟩
      go_upto_region 5 with fail
      go_cut [27] (fun s wx => s = .bool (!(alw fl day birth)) ∧ Below wr.heap.size wr wx)
      case first =>
        have HL : Hid (Below wr.heap.size wr wr.drew) := (Below.refl _ _).drew
        clear d3
        refine wp_region_held_drew (S := fun X => X.cell? ⟨w.heap.size, 3, none⟩ = some (.slice (some ⟨b, off, none⟩) p.nc cc) ∧ X.cell? ⟨b, off + k * 3, none⟩ = some (.int .i64 day) ∧ X.cell? ⟨b, off + k * 3 + 1, none⟩ = some (.int .i64 rule) ∧ X.cell? ⟨b, off + k * 3 + 2, none⟩ = some (.int .i64 num) ∧ X.rangeAt ag (k * 121) (flagsL fl)) (by kernel_rfl) (HSB.out _ HL.out) (fun hS => ?_)
        generalize World.drew wr = X at *
        refine wpAnyH_take (i := 0) (oi := ⟨some 16, Op.fieldAddr 36 (Operand.tmp 3) 2, _, _, _, _⟩) (v := .pointer (some ⟨w.heap.size, 3, none⟩)) rfl (by kernel_rfl) (by kernel_rfl) (by kernel_rfl) (fun _ _ _ h => h) (Or.inl ⟨by rfl, ?_⟩) hS ?_
        · intro W' hSw; (try dsimp only at hSw); obtain ⟨s0, s1, s2, s3, _⟩ := hSw; go_simp
        try simp only [Act.put, List.setIfInBounds_toArray, List.set_cons_zero, List.set_cons_succ]
        refine wpAnyH_take (i := 1) (oi := ⟨some 17, Op.load 34 (Operand.tmp 16), _, _, _, _⟩) (v := .slice (some ⟨b, off, none⟩) p.nc cc) rfl (by kernel_rfl) (by kernel_rfl) (by kernel_rfl) (fun _ _ _ h => h) (Or.inl ⟨by rfl, ?_⟩) hS ?_
        · intro W' hSw; (try dsimp only at hSw); obtain ⟨s0, s1, s2, s3, _⟩ := hSw; go_simp
        try simp only [Act.put, List.setIfInBounds_toArray, List.set_cons_zero, List.set_cons_succ]
        refine wpAnyH_take (i := 2) (oi := ⟨some 18, Op.move (Operand.tmp 8), _, _, _, _⟩) (v := .int .i64 k) rfl (by kernel_rfl) (by kernel_rfl) (by kernel_rfl) (fun _ _ _ h => h) (Or.inl ⟨by rfl, ?_⟩) hS ?_
        · intro W' hSw; (try dsimp only at hSw); obtain ⟨s0, s1, s2, s3, _⟩ := hSw; go_simp
        try simp only [Act.put, List.setIfInBounds_toArray, List.set_cons_zero, List.set_cons_succ]
        refine wpAnyH_take (i := 3) (oi := ⟨some 19, Op.indexAddr 34 (Operand.tmp 17) (Operand.tmp 18), _, _, _, _⟩) (v := .pointer (some ⟨b, off + k * 3, none⟩)) rfl (by kernel_rfl) (by kernel_rfl) (by kernel_rfl) (fun _ _ _ h => h) (Or.inl ⟨by rfl, ?_⟩) hS ?_
        · intro W' hSw; (try dsimp only at hSw); obtain ⟨s0, s1, s2, s3, _⟩ := hSw; go_simp
        try simp only [Act.put, List.setIfInBounds_toArray, List.set_cons_zero, List.set_cons_succ]
        refine wpAnyH_take (i := 4) (oi := ⟨some 20, Op.load 59 (Operand.tmp 19), _, _, _, _⟩) (v := .agg #[.int .i64 day, .int .i64 rule, .int .i64 num]) rfl (by kernel_rfl) (by kernel_rfl) (by kernel_rfl) (fun _ _ _ h => h) (Or.inl ⟨by rfl, ?_⟩) hS ?_
        · intro W' hSw; (try dsimp only at hSw); obtain ⟨s0, s1, s2, s3, _⟩ := hSw; go_simp
        try simp only [Act.put, List.setIfInBounds_toArray, List.set_cons_zero, List.set_cons_succ]
        refine wpAnyH_take (i := 5) (oi := ⟨some 21, Op.move (Operand.tmp 1), _, _, _, _⟩) (v := .slice (some ⟨ag, 0, none⟩) p.nc ac) rfl (by kernel_rfl) (by kernel_rfl) (by kernel_rfl) (fun _ _ _ h => h) (Or.inl ⟨by rfl, ?_⟩) hS ?_
        · intro W' hSw; (try dsimp only at hSw); obtain ⟨s0, s1, s2, s3, _⟩ := hSw; go_simp
        try simp only [Act.put, List.setIfInBounds_toArray, List.set_cons_zero, List.set_cons_succ]
        refine wpAnyH_take (i := 6) (oi := ⟨some 22, Op.move (Operand.tmp 8), _, _, _, _⟩) (v := .int .i64 k) rfl (by kernel_rfl) (by kernel_rfl) (by kernel_rfl) (fun _ _ _ h => h) (Or.inl ⟨by rfl, ?_⟩) hS ?_
        · intro W' hSw; (try dsimp only at hSw); obtain ⟨s0, s1, s2, s3, _⟩ := hSw; go_simp
        try simp only [Act.put, List.setIfInBounds_toArray, List.set_cons_zero, List.set_cons_succ]
        refine wpAnyH_take (i := 7) (oi := ⟨some 23, Op.indexAddr 74 (Operand.tmp 21) (Operand.tmp 22), _, _, _, _⟩) (v := .pointer (some ⟨ag, k * 121, none⟩)) rfl (by kernel_rfl) (by kernel_rfl) (by kernel_rfl) (fun _ _ _ h => h) (Or.inl ⟨by rfl, ?_⟩) hS ?_
        · intro W' hSw; (try dsimp only at hSw); obtain ⟨s0, s1, s2, s3, _⟩ := hSw; go_simp
        try simp only [Act.put, List.setIfInBounds_toArray, List.set_cons_zero, List.set_cons_succ]
        refine wpAnyH_take (i := 8) (oi := ⟨some 24, Op.load 94 (Operand.tmp 23), _, _, _, _⟩) (v := .agg (flagsA fl)) rfl (by kernel_rfl) (by kernel_rfl) (by kernel_rfl) (fun _ _ _ h => h) (yieldsIf_load_flags (by rfl) (.tmp 23) (by rfl) ag (k * 121) (by rfl) fl (fun W hW => hW.2.2.2.2)) hS ?_
        try simp only [Act.put, List.setIfInBounds_toArray, List.set_cons_zero, List.set_cons_succ]
        refine wpAnyH_take (i := 9) (oi := ⟨some 25, Op.move (Operand.tmp 2), _, _, _, _⟩) (v := .int .i64 birth) rfl (by kernel_rfl) (by kernel_rfl) (by kernel_rfl) (fun _ _ _ h => h) (Or.inl ⟨by rfl, ?_⟩) hS ?_
        · intro W' hSw; (try dsimp only at hSw); obtain ⟨s0, s1, s2, s3, _⟩ := hSw; go_simp
        try simp only [Act.put, List.setIfInBounds_toArray, List.set_cons_zero, List.set_cons_succ]
        refine wpAnyH_ready (rs := [10]) (by kernel_rfl) (by simp) ?_
        refine AllReadyH.cons (o := ⟨some 26, Op.call { callee := Callee.value (Operand.func 97), args := #[Operand.tmp 20, Operand.tmp 24, Operand.tmp 25], argTypes := #[59, 94, 3] }, _, _, _, _⟩) rfl (fun K hK => ?_) ?_
        ·
          go_simp
          refine (HALW.out X).mono ?_
          rintro _ X0 ⟨rfl, hx0⟩
          (try go_wp2_with fail)
          have HL0 := Lib.hid (below_step HL.out hx0)
          refine hK.out _ _ (HSB.out _ HL0.out) (fun hS => ?_)
          clear hK K
          try simp only [Act.put, List.setIfInBounds_toArray, List.set_cons_zero, List.set_cons_succ]
          clear hx0
          refine wpAnyH_take (i := 11) (oi := ⟨some 27, Op.unOp UnOp.not 4 (Operand.tmp 26), _, _, _, _⟩) (v := .bool (!(alw fl day birth))) rfl (by kernel_rfl) (by kernel_rfl) (by kernel_rfl) (fun _ _ _ h => h) (Or.inl ⟨by rfl, ?_⟩) hS ?_
          · intro W' hSw; (try dsimp only at hSw); obtain ⟨s0, s1, s2, s3, _⟩ := hSw; go_simp
          try simp only [Act.put, List.setIfInBounds_toArray, List.set_cons_zero, List.set_cons_succ]
          refine wpAnyH_done (by kernel_rfl) ?_ _
          go_wp2_with fail
          go_meet
          exact ⟨rfl, HL0.out⟩
        exact AllReadyH.nil
      case rest =>
        obtain ⟨rfl, hbc⟩ := hcut
        have HBC := Lib.hid hbc
        clear hbc d3
        have HO2 := Lib.hid (own_fr HOWN.out (Fr.below HBC.out (fun _ => False)) (fun _ _ _ _ _ e => e))
        have HB2 : Hid (Below (w.heap.size + 1) W0 wc) := HBL.out.trans (HBC.out.mono HBS.out)
        have hsc : wr.heap.size ≤ wc.heap.size := HBC.out.size
        cases hal : alw fl day birth
        · have HN : Hid (castL (dnTo p birth (k + 1)) = castL (dnTo p birth k) ++ [(k : Int)]) := by unfold Hid; rw [HDS.out, if_neg (by rw [hal]; decide)]; simp [castL]
          generalize castL (dnTo p birth k) = l at *
          go_wp2_with (at_builtin; refine wpList_append_lies _ rfl (.tmp 28) (.tmp 30) 22 rfl (w.heap.size + 1) 3 i0 (.int .i64 0) 1 8 Try.underlying22 hi0 hz0 hz1 hz2 rfl (by omega) (.slice ov kk oc) kk (intsV l) rfl (World.ownsRow.alloc HO2.out _) ⟨wc.heap.size, 0, none⟩ 1 1 [.int .i64 k] rfl rfl ?c1 ?c2 ?c3 ?c4 ?c5 ?c6 (wc.heap.size + 1) ?c7 ?_)
          case c1 => exact World.news_of_block (heap_alloc_new wc (.cells #[.int .i64 k] 3))
          case c2 => simp [Value.oneCell']
          case c3 => omega
          case c4 => unfold maxLen; omega
          case c5 => omega
          case c6 => have := HBS.out; simp; omega
          case c7 => simp
          intro g cap' X hown hgrow hat hlt1
          have HX : Hid (Below (w.heap.size + 1) W0 X) := HB2.out.trans (((below_alloc wc (.cells #[.int .i64 k] 3)).mono (by have := HBS.out; omega)).trans ((Fr.grown hgrow).low (by have := HBS.out; simp; omega) (fun q hq e => by have := own_low HO2.out e; omega)))
          have HO : Hid (X.ownsRow (w.heap.size + 1) 3 1 (.slice (some ⟨g, 0, none⟩) (kk + 1) cap') (l ++ [(k : Int)]).length (intsV (l ++ [(k : Int)]))) := by unfold Hid; rw [intsV_snoc, List.length_append, HKK.out]; exact hown
          clear hown hgrow hat hlt1
          go_wp2
          go_roundw
          case rel => exact ⟨k + 1, by omega, by go_num, by rw [HN.out]; exact HO.out, HX.out⟩
          case measure => simp [intOf]; omega
        · have HN : Hid (castL (dnTo p birth (k + 1)) = castL (dnTo p birth k)) := by unfold Hid; rw [HDS.out, if_pos hal]
          go_wp2
          go_roundw
          case rel => exact ⟨k + 1, by omega, by go_num, by rw [HN.out, HKK.out]; exact HO2.out, HB2.out⟩
          case measure => simp [intOf]; omega
    · obtain rfl : k = p.nc := by omega
      go_wp2
      go_ret
      refine ⟨_, rfl, ?_, HBW.out⟩
      unfold IL
      rw [show castL (p.denies birth) = castL (dnTo p birth p.nc) from rfl, HKK.out]
      exact own_mono HOWN.out (Nat.zero_le _)

theorem possible_iff {p : Pers} (hp : p.fault = 0) (b : Int) : hasR p.born b = (inB b p.lo p.hi && ((p.denies b).length == 0)) := by
  rw [Bool.eq_iff_iff, (born_has hp).2, Bool.and_eq_true, beq_iff_eq, List.length_eq_zero_iff]
  have h1 : inB b p.lo p.hi = true ↔ p.lo ≤ b ∧ b ≤ p.hi := by simp [inB]
  have h2 : p.denies b = [] ↔ ∀ j : Nat, j < p.nc → p.okB j b = true := by
    unfold Pers.denies
    rw [List.filter_eq_nil_iff]
    constructor
    · intro h j hj; have := h j (List.mem_range.2 hj); simpa using this
    · intro h j hj; simp [h j (List.mem_range.1 hj)]
  rw [h1, h2, and_assoc]
set_option maxRecDepth 100000 in
set_option maxHeartbeats 4000000 in
theorem possible_any (v av : Value) (p : Pers) (birth : Int) (w : World) (h : PersIn w v p) (hp : p.fault = 0) (ha : FlagsAt w av p.fl p.nc) :
    Calls Try.prog 44 #[v, av, .int .i64 birth] w fun e w' => e = .returned (.bool (hasR p.born birth)) ∧ Below w.heap.size w w' := by
  have HPF := Lib.hid hp
  obtain ⟨pn1, pn2, pn3, pl1, pl2, pl3, pl4, pl5, _⟩ := Pers.ok_facts hp
  have HPI := Lib.hid (possible_iff hp birth)
  have HP := Lib.hid h
  obtain ⟨rv, cv, rfl, h1, h2⟩ := h
  obtain ⟨ra, rc, rfl⟩ := h1.slice
  obtain ⟨ca, cc, rfl⟩ := h2.slice
  have HF := Lib.hid ha
  obtain ⟨aa, ac, rfl⟩ := ha.slice
  clear hp h1 h2 ha
  have HB0 : Hid (Below w.heap.size w (w.alloc (.cells #[.int .i64 p.lo, .int .i64 p.hi, .slice ra p.nr rc, .slice ca p.nc cc] 36))) := below_alloc _ _
  cases hin : inB birth p.lo p.hi
  · have HR : Hid (hasR p.born birth = false) := by unfold Hid; rw [HPI.out, hin]; rfl
    go_enter Try.func44, Try.ntmps44
    go_wp2_with (go_at_call 23; refine (refIn_any _ _ _ _).mono ?_; rintro _ _ ⟨rfl, rfl⟩)
    go_ret
    exact ⟨ret_bool HR.out.symm, HB0.out⟩
  · have hbb : p.lo ≤ birth ∧ birth ≤ p.hi := by simpa [inB] using hin
    obtain ⟨bb1, bb2⟩ := hbb
    have HR : Hid (hasR p.born birth = ((castL (p.denies birth)).length == 0)) := by unfold Hid; rw [HPI.out, hin, castL_length]; rfl
    go_enter Try.func44, Try.ntmps44
    go_wp2_with (go_at_call 23; refine (refIn_any _ _ _ _).mono ?_; rintro _ _ ⟨rfl, rfl⟩)
    refine (denies_any _ _ p birth _ (HP.out.below HB0.out) HPF.out (HF.out.below HB0.out) (by omega) (by omega)).mono ?_
    rintro _ w1 ⟨v1, rfl, hi1, hb1⟩
    obtain ⟨a1, c1, rfl⟩ := hi1.ints.len
    have HB1 : Hid (Below w.heap.size w w1) := below_step HB0.out hb1
    clear hi1 hb1
    generalize (castL (p.denies birth)).length = m at *
    go_wp2
    go_ret
    exact ⟨ret_bool (by rw [HR.out, Bool.eq_iff_iff]; simp), HB1.out⟩
end Go.Proofs.Ytagfcfojfjkmbaa
