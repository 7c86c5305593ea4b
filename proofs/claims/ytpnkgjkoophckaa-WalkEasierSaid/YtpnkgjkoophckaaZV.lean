/- Walk: WalkEasier's walk. Printed by gen_zv.py. -/
import Derived.Test.YtpnkgjkoophckaaZP
import Derived.Test.YtpnkgjkoophckaaZQ
import Derived.Deep.CutBlock
namespace Go.Proofs.Ytpnkgjkoophckaa
open Go.RowKit Go.Shelf

theorem RsIn.src {W : World} {a : Option Addr} {cap n : Nat} {R : Nat → R2} (h : RsIn W (.slice a n cap) n R) : Src W a 2 n (fR R n) := by
  refine ⟨by rw [fR_length], fun j u hu => ?_⟩
  have hj : j < n * 2 := by have := (List.getElem?_eq_some_iff.1 hu).1; rw [fR_length] at this; exact this
  obtain ⟨b, off, rfl, _, h0, h1⟩ := h.at (k := j / 2) (by omega)
  obtain ⟨g0, g1⟩ := fR_get R n (j / 2) (by omega)
  refine ⟨_, rfl, ?_⟩
  rw [addr_add]
  have e : j = j / 2 * 2 ∨ j = j / 2 * 2 + 1 := by omega
  rcases e with e | e
  · rw [e] at hu ⊢
    rw [g0] at hu
    cases hu
    exact h0
  · rw [e] at hu ⊢
    rw [g1] at hu
    cases hu
    exact h1
theorem RdIn.src {W : World} {a : Option Addr} {cap n : Nat} {m : Mp} (h : RdIn W (.slice a n cap) n m) : Src W a 4 n (fD m n) := by
  refine ⟨by rw [fD_length], fun j u hu => ?_⟩
  have hj : j < n * 4 := by have := (List.getElem?_eq_some_iff.1 hu).1; rw [fD_length] at this; exact this
  obtain ⟨b, off, rfl, _, h0, h1, h2, h3⟩ := h.at (k := j / 4) (by omega)
  obtain ⟨g0, g1, g2, g3⟩ := fD_get m n (j / 4) (by omega)
  refine ⟨_, rfl, ?_⟩
  rw [addr_add]
  have e : j = j / 4 * 4 ∨ j = j / 4 * 4 + 1 ∨ j = j / 4 * 4 + 2 ∨ j = j / 4 * 4 + 3 := by omega
  rcases e with e | e | e | e
  · rw [e] at hu ⊢
    rw [g0] at hu
    cases hu
    exact h0
  · rw [e] at hu ⊢
    rw [g1] at hu
    cases hu
    exact h1
  · rw [e] at hu ⊢
    rw [g2] at hu
    cases hu
    exact h2
  · rw [e] at hu ⊢
    rw [g3] at hu
    cases hu
    exact h3
theorem fR_one (R : Nat → R2) (n : Nat) : ∀ u ∈ fR R n, u.oneCell' = true := by
  intro u hu; unfold fR at hu; simp only [List.mem_flatMap, List.mem_cons, List.not_mem_nil, or_false] at hu
  obtain ⟨_, _, h | h⟩ := hu <;> rw [h] <;> rfl
theorem fD_one (m : Mp) (n : Nat) : ∀ u ∈ fD m n, u.oneCell' = true := by
  intro u hu; unfold fD at hu; simp only [List.mem_flatMap, List.mem_cons, List.not_mem_nil, or_false] at hu
  obtain ⟨_, _, h | h | h | h⟩ := hu <;> rw [h] <;> rfl
theorem fR_congr {R R' : Nat → R2} {n : Nat} (h : ∀ i, i < n → R i = R' i) : fR R n = fR R' n := by
  induction n with
  | zero => rfl
  | succ n ih => rw [fR_succ, fR_succ, ih (fun i hi => h i (by omega)), h n (by omega)]
theorem fR_set (R : Nat → R2) (v : Int) {j : Nat} : ∀ {n : Nat}, j < n → (fR R n).set (j * 2 + 1) (.int .i64 v) = fR (fun i => if i = j then ((R i).1, v) else R i) n := by
  intro n
  induction n with
  | zero => intro h; omega
  | succ n ih =>
    intro h
    have hl := fR_length R n
    rw [fR_succ, fR_succ]
    rcases Nat.lt_succ_iff_lt_or_eq.1 h with h | rfl
    · rw [List.set_append_left _ _ (by omega), ih h, if_neg (by omega)]
    · rw [List.set_append_right _ _ (by omega), hl, show j * 2 + 1 - j * 2 = 1 by omega, if_pos rfl, fR_congr (R := R) (R' := fun i => if i = j then ((R i).1, v) else R i) (fun i hi => (if_neg (by omega)).symm)]
      rfl
theorem fD_congr {m m' : Mp} {n : Nat} (h : ∀ i, i < n → m.ra i = m'.ra i ∧ m.rb i = m'.rb i ∧ m.rt i = m'.rt i) : fD m n = fD m' n := by
  induction n with
  | zero => rfl
  | succ n ih =>
    obtain ⟨h1, h2, h3⟩ := h n (by omega)
    rw [fD_succ, fD_succ, ih (fun i hi => h i (by omega)), h1, h2, h3]
theorem fD_set (m : Mp) (v : Int) {j : Nat} : ∀ {n : Nat}, j < n → (fD m n).set (j * 4 + 3) (.int .i64 v) = fD (m.setR j v) n := by
  intro n
  induction n with
  | zero => intro h; omega
  | succ n ih =>
    intro h
    have hl := fD_length m n
    rw [fD_succ, fD_succ]
    rcases Nat.lt_succ_iff_lt_or_eq.1 h with h | rfl
    · have e : (m.setR j v).rt n = m.rt n := if_neg (by omega)
      rw [List.set_append_left _ _ (by omega), ih h, e]
      rfl
    · have e : (m.setR j v).rt j = ((m.rt j).1, v) := if_pos rfl
      rw [List.set_append_right _ _ (by omega), hl, show j * 4 + 3 - j * 4 = 3 by omega, fD_congr (m := m) (m' := m.setR j v) (fun i hi => ⟨rfl, rfl, (if_neg (show ¬ i = j by omega)).symm⟩), e]
      rfl
theorem fD_more (m : Mp) (a b : Int) (r : R2) : fD (m.more a b r) (m.nr + 1) = fD m m.nr ++ [.int .i64 a, .int .i64 b, .int .i64 r.1, .int .i64 r.2] := by
  have e1 : (m.more a b r).ra m.nr = a := if_pos rfl
  have e2 : (m.more a b r).rb m.nr = b := if_pos rfl
  have e3 : (m.more a b r).rt m.nr = r := if_pos rfl
  rw [fD_succ, fD_congr (m' := m) (fun i hi => ⟨if_neg (show ¬ i = m.nr by omega), if_neg (show ¬ i = m.nr by omega), if_neg (show ¬ i = m.nr by omega)⟩), e1, e2, e3]
theorem BF.growb {w X Y : World} {base : Nat} {L : List OR} {Lb : List (Nat × Array Value × TypeId)} {i sz n : Nat} {T : TypeId} {v : Value} {xs : List Value} (hA : BF w X Lb) (h : Rws base X L) (hi : L[i]? = some ⟨T, sz, v, n, xs⟩) (hl : ∀ p, p ∈ Lb → p.1 < base) (hw : w.heap.size ≤ base) (hg : X.grownBy Y v.ownBlock) : BF w Y Lb :=
  hA.fro (Fr.grown hg) (fun q hq e => by have := own_low (h.own i _ hi) e; omega) (fun p hp e => by have := own_low (h.own i _ hi) e; have := hl p hp; omega)
theorem Rws.rng {base : Nat} {X : World} {L : List OR} (h : Rws base X L) {i n : Nat} {v : Value} {R : Nat → R2} (hi : L[i]? = some ⟨77, 2, v, n, fR R n⟩) : RsIn X v n R := RsIn.own (h.own i _ hi)
theorem Rws.rds {base : Nat} {X : World} {L : List OR} (h : Rws base X L) {i n : Nat} {v : Value} {m : Mp} (hi : L[i]? = some ⟨79, 4, v, n, fD m n⟩) : RdIn X v n m := RdIn.own (h.own i _ hi)
set_option maxRecDepth 100000 in
set_option maxHeartbeats 32000000 in
theorem walkEasier_walk (x : MV) (m : Mp) (c ra rb lo hi d g : Int) (w : World) (h : MpLaw w x m) (hc : 0 ≤ c ∧ c ≤ 65535) (hd : 0 ≤ d ∧ d ≤ 255) (hg : 0 ≤ g ∧ g ≤ 255) :
    Calls Try.prog 9 #[.agg #[.slice x.wa m.nw x.wc, .slice x.ra m.nr x.rc], .int .u16 c, .agg #[.int .i64 ra, .int .i64 rb, .int .i64 lo, .int .i64 hi], .int .u8 d, .int .u8 g] w fun e w' => e = .returned (.bool true) ∧ Below w.heap.size w w' := by
  obtain ⟨i1, hj1, hy0, hy1, hy2⟩ := info_parts Try.infoRangeF
  obtain ⟨i2, hj2, hu0, hu1, hu2⟩ := info_parts Try.infoRoadF
  obtain ⟨c, rfl⟩ : ∃ k : Nat, c = k := ⟨c.toNat, by omega⟩
  obtain ⟨d, rfl⟩ : ∃ k : Nat, d = k := ⟨d.toNat, by omega⟩
  obtain ⟨g, rfl⟩ : ∃ k : Nat, g = k := ⟨g.toNat, by omega⟩
  have HMP := Lib.hid h.l
  have HRE := Lib.hid (fun W (hW : Below w.heap.size w W) => ready_any x m W (h.l.below hW) h.bw h.br)
  clear h
  obtain ⟨rdy, hrb⟩ : ∃ rdy, rdy = readyB m := ⟨_, rfl⟩
  have HRB : Hid (rdy = true → m.fault = 0) := fun h => by rw [hrb] at h; unfold readyB at h; simp only [Bool.and_eq_true, decide_eq_true_eq] at h; exact h.2
  rw [← hrb] at HRE
  clear hrb
  have HA0 : Hid (BF w ((w.alloc (.cells #[.slice x.wa m.nw x.wc, .slice x.ra m.nr x.rc] 25)).alloc (.cells #[.int .i64 ra, .int .i64 rb, .int .i64 lo, .int .i64 hi] 79)) [(w.heap.size, #[.slice x.wa m.nw x.wc, .slice x.ra m.nr x.rc], 25), (w.heap.size + 1, #[.int .i64 ra, .int .i64 rb, .int .i64 lo, .int .i64 hi], 79)]) := BF.made2 _ _ _ _ _
  go_enter Try.func9, Try.ntmps9
  go_upto_region 1 with fail
  generalize ((w.alloc (.cells #[.slice x.wa m.nw x.wc, .slice x.ra m.nr x.rc] 25)).alloc (.cells #[.int .i64 ra, .int .i64 rb, .int .i64 lo, .int .i64 hi] 79)) = w0 at *
  generalize w.heap.size + 1 = OB at *
  have c0 := HA0.out.cell (.head _) 0
  have c1 := HA0.out.cell (.head _) 1
  cases rdy
  · go_wp2_with (first | (go_at_call 35; refine (HRE.out _ HA0.out.fr).mono ?_; rintro _ w1 ⟨rfl, hb⟩; have HA1 := Lib.hid (HA0.out.below hb); clear hb) | (go_at_call 19; refine (awake_any _).mono ?_; rintro _ w2 ⟨rfl, hb⟩; have HA2 := Lib.hid (HA1.out.below hb); clear hb))
    go_ret
    exact ⟨rfl, HA2.out.fr⟩
  have hf := HRB.out rfl
  have ok := okM_of hf
  have hnw := ok.nw
  have hnr := ok.nr
  have kw1 : m.nw ≤ 100000 := by omega
  have kr1 : m.nr ≤ 100000 := by omega
  have HOK := Lib.hid ok
  have HFZ := Lib.hid hf
  have HWK := Lib.hid (fun i hi => (ok.wk i hi).2.1)
  have HRK := Lib.hid (fun i hi => (ok.rt i hi).2.1)
  clear ok hf HRB
  have e7 : ((c : Int) % 400) = ((c % 400 : Nat) : Int) := rfl
  obtain ⟨q, hq⟩ : ∃ q, q = c % 400 := ⟨_, rfl⟩
  rw [← hq] at e7
  have q7 : q < 400 := by rw [hq]; exact Nat.mod_lt _ (by decide)
  clear hq
  go_wp2_with fail
  refine (HRE.out _ HA0.out.fr).mono ?_
  rintro _ w1 ⟨rfl, hb⟩
  have HA1 := Lib.hid (HA0.out.below hb)
  have e0 := HA1.out.cell (.head _) 0
  have e1 := HA1.out.cell (.head _) 1
  have HA2 : Hid (BF w (w1.alloc (.cells #[.slice x.wa m.nw x.wc, .slice x.ra m.nr x.rc] 25)) [(w1.heap.size, #[.slice x.wa m.nw x.wc, .slice x.ra m.nr x.rc], 25), (w.heap.size, #[.slice x.wa m.nw x.wc, .slice x.ra m.nr x.rc], 25), (OB, #[.int .i64 ra, .int .i64 rb, .int .i64 lo, .int .i64 hi], 79)]) := HA1.out.alloc _ _
  clear hb HA0 HRE c0 c1
  go_upto_region 5 with fail
  rw [e7]
  generalize w1.alloc (.cells #[.slice x.wa m.nw x.wc, .slice x.ra m.nr x.rc] 25) = w2 at *
  have hlm := (HA1.out.lt (.head _)).2
  have hlo := (HA1.out.lt (.tail _ (.head _))).2
  have hxs := HA1.out.fr.size
  generalize w1.heap.size = xb at *
  clear HA1 e0 e1
  have hb1 := (HA2.out.lt (.head _)).2
  have hb2 := (HA2.out.lt (.tail _ (.head _))).2
  have hb3 := (HA2.out.lt (.tail _ (.tail _ (.head _)))).2
  have hwb := HA2.out.fr.size
  obtain ⟨bs, hbs⟩ : ∃ bs, w2.heap.size = bs := ⟨_, rfl⟩
  have HBS := Lib.hid hbs
  rw [hbs] at hb1 hb2 hb3 hwb
  clear hbs
  go_cut [13] (fun s13 wx => s13 = .int .i64 (q : Int) ∧ ∃ qa qc ga gc, bs ≤ wx.heap.size ∧ BF w wx [(xb, #[.slice qa m.nw qc, .slice ga m.nr gc], 25), (w.heap.size, #[.slice x.wa m.nw x.wc, .slice x.ra m.nr x.rc], 25), (OB, #[.int .i64 ra, .int .i64 rb, .int .i64 lo, .int .i64 hi], 79)] ∧ Rws bs wx [⟨77, 2, .slice qa m.nw qc, m.nw, fR m.wk m.nw⟩, ⟨79, 4, .slice ga m.nr gc, m.nr, fD m m.nr⟩])
  case first =>
    have HAX : Hid (BF w w2.drew [(xb, #[.slice x.wa m.nw x.wc, .slice x.ra m.nr x.rc], 25), (w.heap.size, #[.slice x.wa m.nw x.wc, .slice x.ra m.nr x.rc], 25), (OB, #[.int .i64 ra, .int .i64 rb, .int .i64 lo, .int .i64 hi], 79)]) := HA2.out.below (Below.refl _ _).drew
    have hz0 : bs ≤ w2.drew.heap.size := by rw [← HBS.out]; exact (show w2.heap.size ≤ w2.drew.heap.size from ((Below.refl w2.heap.size w2).drew).size)
    have HRX : Hid (Rws bs w2.drew [⟨77, 2, .slice none 0 0, 0, []⟩, ⟨79, 4, .slice none 0 0, 0, []⟩]) := Rws.nils _ _ _ (by intro p hp; simp only [List.mem_cons, List.not_mem_nil, or_false] at hp; rcases hp with rfl | rfl <;> exact ⟨rfl, rfl, rfl⟩)
    refine wp_region_Z (S := fun X => X.cell? ⟨w.heap.size, 0, none⟩ = some (.slice x.wa m.nw x.wc) ∧ X.cell? ⟨w.heap.size, 1, none⟩ = some (.slice x.ra m.nr x.rc)) (by kernel_rfl) (⟨HAX.out.cell (.tail _ (.head _)) 0, HAX.out.cell (.tail _ (.head _)) 1⟩) (fun hS => ?_)
    generalize w2.drew = X at *
    refine tk [1, 2, 5, 6] ?_
    repeat (refine tkZ (oi := ⟨_, _, _, _, _, _⟩) (v := ?_) rfl (by kernel_rfl) (by rfl) (fun _ _ _ h => h) hS ?_ ?_; rotate_left; (· rintro W' ⟨z0, z1⟩; go_simp; try with_reducible rfl); try simp only [Act.put, putA, putZ, putS])
    refine tk0 ?_
    refine wpAnyZ_next (rs := [0, 4]) (by kernel_rfl) (by simp) ?_
    refine NextZ.cons (o := ⟨some 34, _, _, _, _, _⟩) rfl (fun K hK => ?_) ?_
    ·
     go_simp
     have HA0 := Lib.hid (HAX.out.below (below_alloc X (.cells #[] 77)))
     have HR0 : Hid (Rws bs (X.alloc (.cells #[] 77)) [⟨77, 2, .slice (some ⟨X.heap.size, 0, none⟩) 0 0, 0, []⟩, ⟨79, 4, .slice none 0 0, 0, []⟩]) := HRX.out.made hz0 0 77 2
     have hz0 : bs ≤ (X.alloc (.cells #[] 77)).heap.size := Nat.le_trans hz0 (below_alloc X (.cells #[] 77)).size
     refine hK.out _ _ (⟨HA0.out.cell (.tail _ (.head _)) 0, HA0.out.cell (.tail _ (.head _)) 1⟩) (fun hS => ?_)
     clear hK K
     try simp only [Act.put, putA, putZ, putS]
     generalize X.heap.size = J0 at *
     generalize (X.alloc (.cells #[] 77)) = X0 at *
     refine wpAnyZ_next (rs := [3, 4]) (by kernel_rfl) (by simp) ?_
     refine NextZ.cons (o := ⟨some 37, _, _, _, _, _⟩) rfl (fun K hK => ?_) ?_
     ·
      refine step_append_src X0 (by rfl) (.tmp 34) (.tmp 36) 22 (by rfl) bs 77 i1 (.agg #[.int .i64 0, .int .i64 0]) 2 16 Try.underlying22 hj1 hy0 hy1 hy2 rfl (by decide) (.slice (some ⟨J0, 0, none⟩) 0 0) 0 [] (by rfl) (HR0.out.own 0 _ rfl) x.wa m.nw x.wc (fR m.wk m.nw) (by rfl) ((HMP.out.below HA0.out.fr).wk.src) (fR_one _ _) (by unfold maxLen; omega) (by omega) hz0 ?_
      intro v1 X1 hown hgr hl
      rw [Nat.zero_add, List.nil_append] at hown
      obtain ⟨qa, qc, rfl⟩ := own_slice' hown
      have HA1 := Lib.hid (BF.growb HA0.out HR0.out (i := 0) rfl (List.forall_mem_cons.2 ⟨hb1, List.forall_mem_cons.2 ⟨hb2, List.forall_mem_cons.2 ⟨hb3, List.forall_mem_nil _⟩⟩⟩) hwb hgr)
      have hz1 := Nat.le_trans hz0 hgr.size
      have HR1 : Hid (Rws bs X1 [⟨77, 2, .slice qa m.nw qc, m.nw, fR m.wk m.nw⟩, ⟨79, 4, .slice none 0 0, 0, []⟩]) := HR0.out.app2 (i := 0) rfl hown hgr hl
      clear hown hgr hl
      refine hK.out _ _ (⟨HA1.out.cell (.tail _ (.head _)) 0, HA1.out.cell (.tail _ (.head _)) 1⟩) (fun hS => ?_)
      clear hK K
      try simp only [Act.put, putA, putZ, putS]
      refine tZ 8 (oi := ⟨_, _, _, _, _, _⟩) (v := ?_) rfl (by kernel_rfl) (by rfl) (fun _ _ _ h => h) hS ?_ ?_
      rotate_left
      · rintro W' ⟨z0, z1⟩; go_simp; try with_reducible rfl
      try simp only [Act.put, putA, putZ, putS]
      refine wpAnyZ_next (rs := [4]) (by kernel_rfl) (by simp) ?_
      refine NextZ.cons (o := ⟨some 38, _, _, _, _, _⟩) rfl (fun K hK => ?_) NextZ.nil
      go_simp
      have HA2 := Lib.hid (HA1.out.below (below_alloc X1 (.cells #[] 79)))
      have HR2 : Hid (Rws bs (X1.alloc (.cells #[] 79)) [⟨77, 2, .slice qa m.nw qc, m.nw, fR m.wk m.nw⟩, ⟨79, 4, .slice (some ⟨X1.heap.size, 0, none⟩) 0 0, 0, []⟩]) := HR1.out.made hz1 1 79 4
      have hz2 : bs ≤ (X1.alloc (.cells #[] 79)).heap.size := Nat.le_trans hz1 (below_alloc X1 (.cells #[] 79)).size
      refine hK.out _ _ (⟨HA2.out.cell (.tail _ (.head _)) 0, HA2.out.cell (.tail _ (.head _)) 1⟩) (fun hS => ?_)
      clear hK K
      try simp only [Act.put, putA, putZ, putS]
      generalize X1.heap.size = J1 at *
      generalize (X1.alloc (.cells #[] 79)) = X2 at *
      refine wpAnyZ_next (rs := [7]) (by kernel_rfl) (by simp) ?_
      refine NextZ.cons (o := ⟨some 41, _, _, _, _, _⟩) rfl (fun K hK => ?_) NextZ.nil
      refine step_append_src X2 (by rfl) (.tmp 38) (.tmp 40) 23 (by rfl) bs 79 i2 (.agg #[.int .i64 0, .int .i64 0, .int .i64 0, .int .i64 0]) 4 32 Try.underlying23 hj2 hu0 hu1 hu2 rfl (by decide) (.slice (some ⟨J1, 0, none⟩) 0 0) 0 [] (by rfl) (HR2.out.own 1 _ rfl) x.ra m.nr x.rc (fD m m.nr) (by rfl) ((HMP.out.below HA2.out.fr).rd.src) (fD_one _ _) (by unfold maxLen; omega) (by omega) hz2 ?_
      intro v3 X3 hown hgr hl
      rw [Nat.zero_add, List.nil_append] at hown
      obtain ⟨ga, gc, rfl⟩ := own_slice' hown
      have HA3 := Lib.hid (BF.growb HA2.out HR2.out (i := 1) rfl (List.forall_mem_cons.2 ⟨hb1, List.forall_mem_cons.2 ⟨hb2, List.forall_mem_cons.2 ⟨hb3, List.forall_mem_nil _⟩⟩⟩) hwb hgr)
      have hz3 := Nat.le_trans hz2 hgr.size
      have HR3 : Hid (Rws bs X3 [⟨77, 2, .slice qa m.nw qc, m.nw, fR m.wk m.nw⟩, ⟨79, 4, .slice ga m.nr gc, m.nr, fD m m.nr⟩]) := HR2.out.app2 (i := 1) rfl hown hgr hl
      clear hown hgr hl
      refine hK.out _ _ (⟨HA3.out.cell (.tail _ (.head _)) 0, HA3.out.cell (.tail _ (.head _)) 1⟩) (fun hS => ?_)
      clear hK K
      try simp only [Act.put, putA, putZ, putS]
      refine wpAnyZ_next (rs := [9]) (by kernel_rfl) (by simp) ?_
      refine NextZ.cons (o := ⟨none, _, _, _, _, _⟩) rfl (fun K hK => ?_) NextZ.nil
      have e0 := HA3.out.cell (.head _) 0
      have f0 := HA3.out.thaw (.head _) 0
      have HA4 := Lib.hid (BF.set1 (i := 0) (cs' := #[.slice qa m.nw qc, .slice x.ra m.nr x.rc]) HA3.out (.head _) (.slice qa m.nw qc) (by simp) rfl (L' := [(w.heap.size, #[.slice x.wa m.nw x.wc, .slice x.ra m.nr x.rc], 25), (OB, #[.int .i64 ra, .int .i64 rb, .int .i64 lo, .int .i64 hi], 79)]) (List.forall_mem_cons.2 ⟨⟨show w.heap.size ≠ xb by omega, (.tail _ (.head _))⟩, List.forall_mem_cons.2 ⟨⟨show OB ≠ xb by omega, (.tail _ (.tail _ (.head _)))⟩, List.forall_mem_nil _⟩⟩))
      have HR4 : Hid (Rws bs (X3.setCell ⟨xb, 0, none⟩ (.slice qa m.nw qc)) [⟨77, 2, .slice qa m.nw qc, m.nw, fR m.wk m.nw⟩, ⟨79, 4, .slice ga m.nr gc, m.nr, fD m m.nr⟩]) := HR3.out.tab (HA3.out.bk _ _ _ (.head _)).2 (List.forall_mem_cons.2 ⟨(show 25 ≠ 77 by decide), List.forall_mem_cons.2 ⟨(show 25 ≠ 79 by decide), List.forall_mem_nil _⟩⟩) (Fr.set _ _ _ _)
      go_simp
      have hz4 : bs ≤ (X3.setCell ⟨xb, 0, none⟩ (.slice qa m.nw qc)).heap.size := by simpa using hz3
      refine hK.out _ _ (⟨HA4.out.cell (.tail _ (.head _)) 0, HA4.out.cell (.tail _ (.head _)) 1⟩) (fun hS => ?_)
      clear hK K
      (try simp only [Act.put])
      clear e0 f0
      refine tZ 10 (oi := ⟨_, _, _, _, _, _⟩) (v := ?_) rfl (by kernel_rfl) (by rfl) (fun _ _ _ h => h) hS ?_ ?_
      rotate_left
      · rintro W' ⟨z0, z1⟩; go_simp; try with_reducible rfl
      try simp only [Act.put, putA, putZ, putS]
      refine wpAnyZ_next (rs := [11]) (by kernel_rfl) (by simp) ?_
      refine NextZ.last (o := ⟨none, _, _, _, _, _⟩) rfl (by kernel_rfl) (fun K hK => ?_)
      have e0 := HA4.out.cell (.head _) 1
      have f0 := HA4.out.thaw (.head _) 1
      have HA5 := Lib.hid (BF.set1 (i := 1) (cs' := #[.slice qa m.nw qc, .slice ga m.nr gc]) HA4.out (.head _) (.slice ga m.nr gc) (by simp) rfl (L' := [(w.heap.size, #[.slice x.wa m.nw x.wc, .slice x.ra m.nr x.rc], 25), (OB, #[.int .i64 ra, .int .i64 rb, .int .i64 lo, .int .i64 hi], 79)]) (List.forall_mem_cons.2 ⟨⟨show w.heap.size ≠ xb by omega, (.tail _ (.head _))⟩, List.forall_mem_cons.2 ⟨⟨show OB ≠ xb by omega, (.tail _ (.tail _ (.head _)))⟩, List.forall_mem_nil _⟩⟩))
      have HR5 : Hid (Rws bs ((X3.setCell ⟨xb, 0, none⟩ (.slice qa m.nw qc)).setCell ⟨xb, 1, none⟩ (.slice ga m.nr gc)) [⟨77, 2, .slice qa m.nw qc, m.nw, fR m.wk m.nw⟩, ⟨79, 4, .slice ga m.nr gc, m.nr, fD m m.nr⟩]) := HR4.out.tab (HA4.out.bk _ _ _ (.head _)).2 (List.forall_mem_cons.2 ⟨(show 25 ≠ 77 by decide), List.forall_mem_cons.2 ⟨(show 25 ≠ 79 by decide), List.forall_mem_nil _⟩⟩) (Fr.set _ _ _ _)
      go_simp
      have hz5 : bs ≤ ((X3.setCell ⟨xb, 0, none⟩ (.slice qa m.nw qc)).setCell ⟨xb, 1, none⟩ (.slice ga m.nr gc)).heap.size := by simpa using hz4
      refine hK.out _ _ ?_
      clear hK K
      (try simp only [Act.put])
      clear e0 f0
      refine wpAnyZ_done (by kernel_rfl) ?_ _
      go_wp2_with fail
      go_meet
      exact ⟨rfl, qa, qc, ga, gc, hz5, HA5.out, HR5.out⟩
     refine NextZ.cons (o := ⟨some 38, _, _, _, _, _⟩) rfl (fun K hK => ?_) NextZ.nil
     go_simp
     have HA6 := Lib.hid (HA0.out.below (below_alloc X0 (.cells #[] 79)))
     have HR6 : Hid (Rws bs (X0.alloc (.cells #[] 79)) [⟨77, 2, .slice (some ⟨J0, 0, none⟩) 0 0, 0, []⟩, ⟨79, 4, .slice (some ⟨X0.heap.size, 0, none⟩) 0 0, 0, []⟩]) := HR0.out.made hz0 1 79 4
     have hz6 : bs ≤ (X0.alloc (.cells #[] 79)).heap.size := Nat.le_trans hz0 (below_alloc X0 (.cells #[] 79)).size
     refine hK.out _ _ (⟨HA6.out.cell (.tail _ (.head _)) 0, HA6.out.cell (.tail _ (.head _)) 1⟩) (fun hS => ?_)
     clear hK K
     try simp only [Act.put, putA, putZ, putS]
     generalize X0.heap.size = J1 at *
     generalize (X0.alloc (.cells #[] 79)) = X6 at *
     refine wpAnyZ_next (rs := [3]) (by kernel_rfl) (by simp) ?_
     refine NextZ.cons (o := ⟨some 37, _, _, _, _, _⟩) rfl (fun K hK => ?_) NextZ.nil
     refine step_append_src X6 (by rfl) (.tmp 34) (.tmp 36) 22 (by rfl) bs 77 i1 (.agg #[.int .i64 0, .int .i64 0]) 2 16 Try.underlying22 hj1 hy0 hy1 hy2 rfl (by decide) (.slice (some ⟨J0, 0, none⟩) 0 0) 0 [] (by rfl) (HR6.out.own 0 _ rfl) x.wa m.nw x.wc (fR m.wk m.nw) (by rfl) ((HMP.out.below HA6.out.fr).wk.src) (fR_one _ _) (by unfold maxLen; omega) (by omega) hz6 ?_
     intro v7 X7 hown hgr hl
     rw [Nat.zero_add, List.nil_append] at hown
     obtain ⟨qa, qc, rfl⟩ := own_slice' hown
     have HA7 := Lib.hid (BF.growb HA6.out HR6.out (i := 0) rfl (List.forall_mem_cons.2 ⟨hb1, List.forall_mem_cons.2 ⟨hb2, List.forall_mem_cons.2 ⟨hb3, List.forall_mem_nil _⟩⟩⟩) hwb hgr)
     have hz7 := Nat.le_trans hz6 hgr.size
     have HR7 : Hid (Rws bs X7 [⟨77, 2, .slice qa m.nw qc, m.nw, fR m.wk m.nw⟩, ⟨79, 4, .slice (some ⟨J1, 0, none⟩) 0 0, 0, []⟩]) := HR6.out.app2 (i := 0) rfl hown hgr hl
     clear hown hgr hl
     refine hK.out _ _ (⟨HA7.out.cell (.tail _ (.head _)) 0, HA7.out.cell (.tail _ (.head _)) 1⟩) (fun hS => ?_)
     clear hK K
     try simp only [Act.put, putA, putZ, putS]
     refine tZ 8 (oi := ⟨_, _, _, _, _, _⟩) (v := ?_) rfl (by kernel_rfl) (by rfl) (fun _ _ _ h => h) hS ?_ ?_
     rotate_left
     · rintro W' ⟨z0, z1⟩; go_simp; try with_reducible rfl
     try simp only [Act.put, putA, putZ, putS]
     refine wpAnyZ_next (rs := [7]) (by kernel_rfl) (by simp) ?_
     refine NextZ.cons (o := ⟨some 41, _, _, _, _, _⟩) rfl (fun K hK => ?_) NextZ.nil
     refine step_append_src X7 (by rfl) (.tmp 38) (.tmp 40) 23 (by rfl) bs 79 i2 (.agg #[.int .i64 0, .int .i64 0, .int .i64 0, .int .i64 0]) 4 32 Try.underlying23 hj2 hu0 hu1 hu2 rfl (by decide) (.slice (some ⟨J1, 0, none⟩) 0 0) 0 [] (by rfl) (HR7.out.own 1 _ rfl) x.ra m.nr x.rc (fD m m.nr) (by rfl) ((HMP.out.below HA7.out.fr).rd.src) (fD_one _ _) (by unfold maxLen; omega) (by omega) hz7 ?_
     intro v8 X8 hown hgr hl
     rw [Nat.zero_add, List.nil_append] at hown
     obtain ⟨ga, gc, rfl⟩ := own_slice' hown
     have HA8 := Lib.hid (BF.growb HA7.out HR7.out (i := 1) rfl (List.forall_mem_cons.2 ⟨hb1, List.forall_mem_cons.2 ⟨hb2, List.forall_mem_cons.2 ⟨hb3, List.forall_mem_nil _⟩⟩⟩) hwb hgr)
     have hz8 := Nat.le_trans hz7 hgr.size
     have HR8 : Hid (Rws bs X8 [⟨77, 2, .slice qa m.nw qc, m.nw, fR m.wk m.nw⟩, ⟨79, 4, .slice ga m.nr gc, m.nr, fD m m.nr⟩]) := HR7.out.app2 (i := 1) rfl hown hgr hl
     clear hown hgr hl
     refine hK.out _ _ (⟨HA8.out.cell (.tail _ (.head _)) 0, HA8.out.cell (.tail _ (.head _)) 1⟩) (fun hS => ?_)
     clear hK K
     try simp only [Act.put, putA, putZ, putS]
     refine wpAnyZ_next (rs := [9]) (by kernel_rfl) (by simp) ?_
     refine NextZ.cons (o := ⟨none, _, _, _, _, _⟩) rfl (fun K hK => ?_) NextZ.nil
     have e0 := HA8.out.cell (.head _) 0
     have f0 := HA8.out.thaw (.head _) 0
     have HA9 := Lib.hid (BF.set1 (i := 0) (cs' := #[.slice qa m.nw qc, .slice x.ra m.nr x.rc]) HA8.out (.head _) (.slice qa m.nw qc) (by simp) rfl (L' := [(w.heap.size, #[.slice x.wa m.nw x.wc, .slice x.ra m.nr x.rc], 25), (OB, #[.int .i64 ra, .int .i64 rb, .int .i64 lo, .int .i64 hi], 79)]) (List.forall_mem_cons.2 ⟨⟨show w.heap.size ≠ xb by omega, (.tail _ (.head _))⟩, List.forall_mem_cons.2 ⟨⟨show OB ≠ xb by omega, (.tail _ (.tail _ (.head _)))⟩, List.forall_mem_nil _⟩⟩))
     have HR9 : Hid (Rws bs (X8.setCell ⟨xb, 0, none⟩ (.slice qa m.nw qc)) [⟨77, 2, .slice qa m.nw qc, m.nw, fR m.wk m.nw⟩, ⟨79, 4, .slice ga m.nr gc, m.nr, fD m m.nr⟩]) := HR8.out.tab (HA8.out.bk _ _ _ (.head _)).2 (List.forall_mem_cons.2 ⟨(show 25 ≠ 77 by decide), List.forall_mem_cons.2 ⟨(show 25 ≠ 79 by decide), List.forall_mem_nil _⟩⟩) (Fr.set _ _ _ _)
     go_simp
     have hz9 : bs ≤ (X8.setCell ⟨xb, 0, none⟩ (.slice qa m.nw qc)).heap.size := by simpa using hz8
     refine hK.out _ _ (⟨HA9.out.cell (.tail _ (.head _)) 0, HA9.out.cell (.tail _ (.head _)) 1⟩) (fun hS => ?_)
     clear hK K
     (try simp only [Act.put])
     clear e0 f0
     refine tZ 10 (oi := ⟨_, _, _, _, _, _⟩) (v := ?_) rfl (by kernel_rfl) (by rfl) (fun _ _ _ h => h) hS ?_ ?_
     rotate_left
     · rintro W' ⟨z0, z1⟩; go_simp; try with_reducible rfl
     try simp only [Act.put, putA, putZ, putS]
     refine wpAnyZ_next (rs := [11]) (by kernel_rfl) (by simp) ?_
     refine NextZ.last (o := ⟨none, _, _, _, _, _⟩) rfl (by kernel_rfl) (fun K hK => ?_)
     have e0 := HA9.out.cell (.head _) 1
     have f0 := HA9.out.thaw (.head _) 1
     have HA10 := Lib.hid (BF.set1 (i := 1) (cs' := #[.slice qa m.nw qc, .slice ga m.nr gc]) HA9.out (.head _) (.slice ga m.nr gc) (by simp) rfl (L' := [(w.heap.size, #[.slice x.wa m.nw x.wc, .slice x.ra m.nr x.rc], 25), (OB, #[.int .i64 ra, .int .i64 rb, .int .i64 lo, .int .i64 hi], 79)]) (List.forall_mem_cons.2 ⟨⟨show w.heap.size ≠ xb by omega, (.tail _ (.head _))⟩, List.forall_mem_cons.2 ⟨⟨show OB ≠ xb by omega, (.tail _ (.tail _ (.head _)))⟩, List.forall_mem_nil _⟩⟩))
     have HR10 : Hid (Rws bs ((X8.setCell ⟨xb, 0, none⟩ (.slice qa m.nw qc)).setCell ⟨xb, 1, none⟩ (.slice ga m.nr gc)) [⟨77, 2, .slice qa m.nw qc, m.nw, fR m.wk m.nw⟩, ⟨79, 4, .slice ga m.nr gc, m.nr, fD m m.nr⟩]) := HR9.out.tab (HA9.out.bk _ _ _ (.head _)).2 (List.forall_mem_cons.2 ⟨(show 25 ≠ 77 by decide), List.forall_mem_cons.2 ⟨(show 25 ≠ 79 by decide), List.forall_mem_nil _⟩⟩) (Fr.set _ _ _ _)
     go_simp
     have hz10 : bs ≤ ((X8.setCell ⟨xb, 0, none⟩ (.slice qa m.nw qc)).setCell ⟨xb, 1, none⟩ (.slice ga m.nr gc)).heap.size := by simpa using hz9
     refine hK.out _ _ ?_
     clear hK K
     (try simp only [Act.put])
     clear e0 f0
     refine wpAnyZ_done (by kernel_rfl) ?_ _
     go_wp2_with fail
     go_meet
     exact ⟨rfl, qa, qc, ga, gc, hz10, HA10.out, HR10.out⟩
    refine NextZ.cons (o := ⟨some 38, _, _, _, _, _⟩) rfl (fun K hK => ?_) NextZ.nil
    go_simp
    have HA11 := Lib.hid (HAX.out.below (below_alloc X (.cells #[] 79)))
    have HR11 : Hid (Rws bs (X.alloc (.cells #[] 79)) [⟨77, 2, .slice none 0 0, 0, []⟩, ⟨79, 4, .slice (some ⟨X.heap.size, 0, none⟩) 0 0, 0, []⟩]) := HRX.out.made hz0 1 79 4
    have hz11 : bs ≤ (X.alloc (.cells #[] 79)).heap.size := Nat.le_trans hz0 (below_alloc X (.cells #[] 79)).size
    refine hK.out _ _ (⟨HA11.out.cell (.tail _ (.head _)) 0, HA11.out.cell (.tail _ (.head _)) 1⟩) (fun hS => ?_)
    clear hK K
    try simp only [Act.put, putA, putZ, putS]
    generalize X.heap.size = J1 at *
    generalize (X.alloc (.cells #[] 79)) = X11 at *
    refine wpAnyZ_next (rs := [0]) (by kernel_rfl) (by simp) ?_
    refine NextZ.cons (o := ⟨some 34, _, _, _, _, _⟩) rfl (fun K hK => ?_) NextZ.nil
    go_simp
    have HA12 := Lib.hid (HA11.out.below (below_alloc X11 (.cells #[] 77)))
    have HR12 : Hid (Rws bs (X11.alloc (.cells #[] 77)) [⟨77, 2, .slice (some ⟨X11.heap.size, 0, none⟩) 0 0, 0, []⟩, ⟨79, 4, .slice (some ⟨J1, 0, none⟩) 0 0, 0, []⟩]) := HR11.out.made hz11 0 77 2
    have hz12 : bs ≤ (X11.alloc (.cells #[] 77)).heap.size := Nat.le_trans hz11 (below_alloc X11 (.cells #[] 77)).size
    refine hK.out _ _ (⟨HA12.out.cell (.tail _ (.head _)) 0, HA12.out.cell (.tail _ (.head _)) 1⟩) (fun hS => ?_)
    clear hK K
    try simp only [Act.put, putA, putZ, putS]
    generalize X11.heap.size = J0 at *
    generalize (X11.alloc (.cells #[] 77)) = X12 at *
    refine wpAnyZ_next (rs := [3]) (by kernel_rfl) (by simp) ?_
    refine NextZ.cons (o := ⟨some 37, _, _, _, _, _⟩) rfl (fun K hK => ?_) NextZ.nil
    refine step_append_src X12 (by rfl) (.tmp 34) (.tmp 36) 22 (by rfl) bs 77 i1 (.agg #[.int .i64 0, .int .i64 0]) 2 16 Try.underlying22 hj1 hy0 hy1 hy2 rfl (by decide) (.slice (some ⟨J0, 0, none⟩) 0 0) 0 [] (by rfl) (HR12.out.own 0 _ rfl) x.wa m.nw x.wc (fR m.wk m.nw) (by rfl) ((HMP.out.below HA12.out.fr).wk.src) (fR_one _ _) (by unfold maxLen; omega) (by omega) hz12 ?_
    intro v13 X13 hown hgr hl
    rw [Nat.zero_add, List.nil_append] at hown
    obtain ⟨qa, qc, rfl⟩ := own_slice' hown
    have HA13 := Lib.hid (BF.growb HA12.out HR12.out (i := 0) rfl (List.forall_mem_cons.2 ⟨hb1, List.forall_mem_cons.2 ⟨hb2, List.forall_mem_cons.2 ⟨hb3, List.forall_mem_nil _⟩⟩⟩) hwb hgr)
    have hz13 := Nat.le_trans hz12 hgr.size
    have HR13 : Hid (Rws bs X13 [⟨77, 2, .slice qa m.nw qc, m.nw, fR m.wk m.nw⟩, ⟨79, 4, .slice (some ⟨J1, 0, none⟩) 0 0, 0, []⟩]) := HR12.out.app2 (i := 0) rfl hown hgr hl
    clear hown hgr hl
    refine hK.out _ _ (⟨HA13.out.cell (.tail _ (.head _)) 0, HA13.out.cell (.tail _ (.head _)) 1⟩) (fun hS => ?_)
    clear hK K
    try simp only [Act.put, putA, putZ, putS]
    refine tZ 8 (oi := ⟨_, _, _, _, _, _⟩) (v := ?_) rfl (by kernel_rfl) (by rfl) (fun _ _ _ h => h) hS ?_ ?_
    rotate_left
    · rintro W' ⟨z0, z1⟩; go_simp; try with_reducible rfl
    try simp only [Act.put, putA, putZ, putS]
    refine wpAnyZ_next (rs := [7]) (by kernel_rfl) (by simp) ?_
    refine NextZ.cons (o := ⟨some 41, _, _, _, _, _⟩) rfl (fun K hK => ?_) NextZ.nil
    refine step_append_src X13 (by rfl) (.tmp 38) (.tmp 40) 23 (by rfl) bs 79 i2 (.agg #[.int .i64 0, .int .i64 0, .int .i64 0, .int .i64 0]) 4 32 Try.underlying23 hj2 hu0 hu1 hu2 rfl (by decide) (.slice (some ⟨J1, 0, none⟩) 0 0) 0 [] (by rfl) (HR13.out.own 1 _ rfl) x.ra m.nr x.rc (fD m m.nr) (by rfl) ((HMP.out.below HA13.out.fr).rd.src) (fD_one _ _) (by unfold maxLen; omega) (by omega) hz13 ?_
    intro v14 X14 hown hgr hl
    rw [Nat.zero_add, List.nil_append] at hown
    obtain ⟨ga, gc, rfl⟩ := own_slice' hown
    have HA14 := Lib.hid (BF.growb HA13.out HR13.out (i := 1) rfl (List.forall_mem_cons.2 ⟨hb1, List.forall_mem_cons.2 ⟨hb2, List.forall_mem_cons.2 ⟨hb3, List.forall_mem_nil _⟩⟩⟩) hwb hgr)
    have hz14 := Nat.le_trans hz13 hgr.size
    have HR14 : Hid (Rws bs X14 [⟨77, 2, .slice qa m.nw qc, m.nw, fR m.wk m.nw⟩, ⟨79, 4, .slice ga m.nr gc, m.nr, fD m m.nr⟩]) := HR13.out.app2 (i := 1) rfl hown hgr hl
    clear hown hgr hl
    refine hK.out _ _ (⟨HA14.out.cell (.tail _ (.head _)) 0, HA14.out.cell (.tail _ (.head _)) 1⟩) (fun hS => ?_)
    clear hK K
    try simp only [Act.put, putA, putZ, putS]
    refine wpAnyZ_next (rs := [9]) (by kernel_rfl) (by simp) ?_
    refine NextZ.cons (o := ⟨none, _, _, _, _, _⟩) rfl (fun K hK => ?_) NextZ.nil
    have e0 := HA14.out.cell (.head _) 0
    have f0 := HA14.out.thaw (.head _) 0
    have HA15 := Lib.hid (BF.set1 (i := 0) (cs' := #[.slice qa m.nw qc, .slice x.ra m.nr x.rc]) HA14.out (.head _) (.slice qa m.nw qc) (by simp) rfl (L' := [(w.heap.size, #[.slice x.wa m.nw x.wc, .slice x.ra m.nr x.rc], 25), (OB, #[.int .i64 ra, .int .i64 rb, .int .i64 lo, .int .i64 hi], 79)]) (List.forall_mem_cons.2 ⟨⟨show w.heap.size ≠ xb by omega, (.tail _ (.head _))⟩, List.forall_mem_cons.2 ⟨⟨show OB ≠ xb by omega, (.tail _ (.tail _ (.head _)))⟩, List.forall_mem_nil _⟩⟩))
    have HR15 : Hid (Rws bs (X14.setCell ⟨xb, 0, none⟩ (.slice qa m.nw qc)) [⟨77, 2, .slice qa m.nw qc, m.nw, fR m.wk m.nw⟩, ⟨79, 4, .slice ga m.nr gc, m.nr, fD m m.nr⟩]) := HR14.out.tab (HA14.out.bk _ _ _ (.head _)).2 (List.forall_mem_cons.2 ⟨(show 25 ≠ 77 by decide), List.forall_mem_cons.2 ⟨(show 25 ≠ 79 by decide), List.forall_mem_nil _⟩⟩) (Fr.set _ _ _ _)
    go_simp
    have hz15 : bs ≤ (X14.setCell ⟨xb, 0, none⟩ (.slice qa m.nw qc)).heap.size := by simpa using hz14
    refine hK.out _ _ (⟨HA15.out.cell (.tail _ (.head _)) 0, HA15.out.cell (.tail _ (.head _)) 1⟩) (fun hS => ?_)
    clear hK K
    (try simp only [Act.put])
    clear e0 f0
    refine tZ 10 (oi := ⟨_, _, _, _, _, _⟩) (v := ?_) rfl (by kernel_rfl) (by rfl) (fun _ _ _ h => h) hS ?_ ?_
    rotate_left
    · rintro W' ⟨z0, z1⟩; go_simp; try with_reducible rfl
    try simp only [Act.put, putA, putZ, putS]
    refine wpAnyZ_next (rs := [11]) (by kernel_rfl) (by simp) ?_
    refine NextZ.last (o := ⟨none, _, _, _, _, _⟩) rfl (by kernel_rfl) (fun K hK => ?_)
    have e0 := HA15.out.cell (.head _) 1
    have f0 := HA15.out.thaw (.head _) 1
    have HA16 := Lib.hid (BF.set1 (i := 1) (cs' := #[.slice qa m.nw qc, .slice ga m.nr gc]) HA15.out (.head _) (.slice ga m.nr gc) (by simp) rfl (L' := [(w.heap.size, #[.slice x.wa m.nw x.wc, .slice x.ra m.nr x.rc], 25), (OB, #[.int .i64 ra, .int .i64 rb, .int .i64 lo, .int .i64 hi], 79)]) (List.forall_mem_cons.2 ⟨⟨show w.heap.size ≠ xb by omega, (.tail _ (.head _))⟩, List.forall_mem_cons.2 ⟨⟨show OB ≠ xb by omega, (.tail _ (.tail _ (.head _)))⟩, List.forall_mem_nil _⟩⟩))
    have HR16 : Hid (Rws bs ((X14.setCell ⟨xb, 0, none⟩ (.slice qa m.nw qc)).setCell ⟨xb, 1, none⟩ (.slice ga m.nr gc)) [⟨77, 2, .slice qa m.nw qc, m.nw, fR m.wk m.nw⟩, ⟨79, 4, .slice ga m.nr gc, m.nr, fD m m.nr⟩]) := HR15.out.tab (HA15.out.bk _ _ _ (.head _)).2 (List.forall_mem_cons.2 ⟨(show 25 ≠ 77 by decide), List.forall_mem_cons.2 ⟨(show 25 ≠ 79 by decide), List.forall_mem_nil _⟩⟩) (Fr.set _ _ _ _)
    go_simp
    have hz16 : bs ≤ ((X14.setCell ⟨xb, 0, none⟩ (.slice qa m.nw qc)).setCell ⟨xb, 1, none⟩ (.slice ga m.nr gc)).heap.size := by simpa using hz15
    refine hK.out _ _ ?_
    clear hK K
    (try simp only [Act.put])
    clear e0 f0
    refine wpAnyZ_done (by kernel_rfl) ?_ _
    go_wp2_with fail
    go_meet
    exact ⟨rfl, qa, qc, ga, gc, hz16, HA16.out, HR16.out⟩
  case rest =>
  obtain ⟨rfl, qa, qc, ga, gc, hzx, hbf, hrw⟩ := hcut
  rename World => wx
  have HA3 := Lib.hid hbf
  have HR3 := Lib.hid hrw
  clear hbf hrw HA2
  obtain ⟨qb, rfl⟩ := own_somep (HR3.out.own 0 _ rfl) (show 0 < m.nw by omega)
  have e9 : ((d : Int) % 4) = ((d % 4 : Nat) : Int) := rfl
  obtain ⟨sel, hsel⟩ : ∃ sel, sel = d % 4 := ⟨_, rfl⟩
  rw [← hsel] at e9
  have s4 : sel < 4 := by rw [hsel]; exact Nat.mod_lt _ (by decide)
  clear hsel
  go_upto_block 0 with (fail)
  rw [e9]
  go_cut [13] (fun s13 wy => ∃ (wide : Int) (y : MV) (m' : Mp), s13 = .int .i64 wide ∧ Hid ((q : Int) ≤ wide ∧ wide ≤ 10000) ∧ Hid (Ez m m') ∧ Hid (m'.nr ≤ 21) ∧ MpIn wy y m' ∧ BF w wy [(xb, #[.slice y.wa m'.nw y.wc, .slice y.ra m'.nr y.rc], 25), (w.heap.size, #[.slice x.wa m.nw x.wc, .slice x.ra m.nr x.rc], 25)])
  case first =>
    by_cases hs0 : sel = 0
    · subst hs0
      have hE := Ez.refl m
      go_wp2_with fail
      go_meet
      exact ⟨(q : Int) + (g : Int), ⟨some ⟨qb, 0, none⟩, qc, ga, gc⟩, m, rfl, ⟨by omega, by omega⟩, hE, (show m.nr ≤ 21 by omega), ⟨HR3.out.rng (i := 0) rfl, HR3.out.rds (i := 1) rfl⟩, HA3.out.sub (List.forall_mem_cons.2 ⟨.head _, List.forall_mem_cons.2 ⟨.tail _ (.head _), List.forall_mem_nil _⟩⟩)⟩
    by_cases hs1 : sel = 1
    · subst hs1
      have x0 := HA3.out.cell (.head _) 0
      have x1 := HA3.out.cell (.head _) 1
      have f1 := HA3.out.thaw (.head _) 1
      have o0 := HA3.out.cell (.tail _ (.tail _ (.head _))) 0
      have o1 := HA3.out.cell (.tail _ (.tail _ (.head _))) 1
      have o2 := HA3.out.cell (.tail _ (.tail _ (.head _))) 2
      have o3 := HA3.out.cell (.tail _ (.tail _ (.head _))) 3
      clear x1 f1
      have x1 := HA3.out.cell (.head _) 1
      go_wp2_with (at_builtin; refine wpList_append_src _ rfl (.tmp 85) (.tmp 87) 23 rfl bs 79 i2 (.agg #[.int .i64 0, .int .i64 0, .int .i64 0, .int .i64 0]) 4 32 Try.underlying23 hj2 hu0 hu1 hu2 rfl (by decide) (.slice ga m.nr gc) m.nr (fD m m.nr) rfl ((HR3.out.below (below_alloc _ _)).own 1 _ rfl) (some ⟨wx.heap.size, 0, none⟩) 1 1 [.int .i64 ra, .int .i64 rb, .int .i64 lo, .int .i64 hi] rfl ⟨rfl, fun j u hu => ⟨_, rfl, World.news_of_block (heap_alloc_new wx _) j u hu⟩⟩ (by simp [Value.oneCell']) ?a1 ?a2 ?a3 ?_)
      case a1 => unfold maxLen; omega
      case a2 => omega
      case a3 => simp; omega
      intro v2 w6 hown hgr hlt1
      obtain ⟨ea, ec, rfl⟩ := own_slice' hown
      have HR6 : Hid (Rws bs w6 [⟨77, 2, .slice (some ⟨qb, 0, none⟩) m.nw qc, m.nw, fR m.wk m.nw⟩, ⟨79, 4, .slice ea (m.nr + 1) ec, m.nr + 1, fD m m.nr ++ [.int .i64 ra, .int .i64 rb, .int .i64 lo, .int .i64 hi]⟩]) := (HR3.out.below (below_alloc wx _)).app2 (i := 1) rfl hown hgr (by simpa using hlt1)
      have HA6 : Hid (BF w w6 [(xb, #[.slice (some ⟨qb, 0, none⟩) m.nw qc, .slice ga m.nr gc], 25), (w.heap.size, #[.slice x.wa m.nw x.wc, .slice x.ra m.nr x.rc], 25)]) := (BF.growb (HA3.out.below (below_alloc wx (.cells #[.int .i64 ra, .int .i64 rb, .int .i64 lo, .int .i64 hi] 79))) (HR3.out.below (below_alloc wx _)) (i := 1) rfl (List.forall_mem_cons.2 ⟨hb1, List.forall_mem_cons.2 ⟨hb2, List.forall_mem_cons.2 ⟨hb3, List.forall_mem_nil _⟩⟩⟩) hwb hgr).sub (List.forall_mem_cons.2 ⟨.head _, List.forall_mem_cons.2 ⟨.tail _ (.head _), List.forall_mem_nil _⟩⟩)
      clear hown hgr hlt1 x0 x1 o0 o1 o2 o3
      have x1 := HA6.out.cell (.head _) 1
      have f1 := HA6.out.thaw (.head _) 1
      have HA7 : Hid (BF w (w6.setCell ⟨xb, 1, none⟩ (.slice ea (m.nr + 1) ec)) [(xb, #[.slice (some ⟨qb, 0, none⟩) m.nw qc, .slice ea (m.nr + 1) ec], 25), (w.heap.size, #[.slice x.wa m.nw x.wc, .slice x.ra m.nr x.rc], 25)]) := BF.set1 (i := 1) (cs' := #[.slice (some ⟨qb, 0, none⟩) m.nw qc, .slice ea (m.nr + 1) ec]) HA6.out (.head _) (.slice ea (m.nr + 1) ec) (by simp) rfl (L' := [(w.heap.size, #[.slice x.wa m.nw x.wc, .slice x.ra m.nr x.rc], 25)]) (List.forall_mem_cons.2 ⟨⟨Nat.ne_of_lt hlm, .tail _ (.head _)⟩, List.forall_mem_nil _⟩)
      have HR7 := Lib.hid (HR6.out.tab (HA6.out.bk _ _ _ (.head _)).2 (List.forall_mem_cons.2 ⟨(show 25 ≠ 77 by decide), List.forall_mem_cons.2 ⟨(show 25 ≠ 79 by decide), List.forall_mem_nil _⟩⟩) (Fr.set w6 xb 1 (.slice ea (m.nr + 1) ec)))
      have hrd := HR7.out.own 1 _ rfl
      rw [← fD_more m ra rb (lo, hi)] at hrd
      have HRD : Hid (RdIn (w6.setCell ⟨xb, 1, none⟩ (.slice ea (m.nr + 1) ec)) (.slice ea (m.nr + 1) ec) (m.nr + 1) (m.more ra rb (lo, hi))) := RdIn.own hrd
      clear hrd
      go_wp2_with fail
      go_meet
      exact ⟨(q : Int), ⟨some ⟨qb, 0, none⟩, qc, ea, ec⟩, m.more ra rb (lo, hi), rfl, ⟨by omega, by omega⟩, Ez.more _ _ _ _, (show m.nr + 1 ≤ 21 by omega), ⟨HR7.out.rng (i := 0) rfl, HRD.out⟩, HA7.out⟩
    by_cases hs2 : sel = 2
    · subst hs2
      have HNZ : Hid (¬ m.nw = 0) := by show ¬ m.nw = 0; omega
      obtain ⟨jj, hjj⟩ : ∃ jj, g % m.nw = jj := ⟨_, rfl⟩
      have hjn : jj < m.nw := by rw [← hjj]; exact Nat.mod_lt _ (by omega)
      have HJJ : Hid ((IntKind.i64.wrap (g : Int)).tmod (m.nw : Int) = (jj : Int)) := by
        show (IntKind.i64.wrap (g : Int)).tmod (m.nw : Int) = (jj : Int)
        rw [IntWalk.i64_in _ (by omega), ← hjj]; rfl
      have ji : (0 : Int) ≤ (jj : Int) := by omega
      have jn : (jj : Int) < (m.nw : Int) := by omega
      clear hjj
      go_upto_region 15 with fail
      have HAX : Hid (BF w wx.drew [(xb, #[.slice (some ⟨qb, 0, none⟩) m.nw qc, .slice ga m.nr gc], 25), (w.heap.size, #[.slice x.wa m.nw x.wc, .slice x.ra m.nr x.rc], 25), (OB, #[.int .i64 ra, .int .i64 rb, .int .i64 lo, .int .i64 hi], 79)]) := HA3.out.below (Below.refl _ _).drew
      have HRX := Lib.hid (HR3.out.below (Below.refl _ wx).drew)
      clear HA3 HR3
      refine wp_region_Z (S := fun X => X.cell? ⟨xb, 0, none⟩ = some (.slice (some ⟨qb, 0, none⟩) m.nw qc) ∧ X.cell? ⟨xb, 1, none⟩ = some (.slice ga m.nr gc)) (by kernel_rfl) (⟨HAX.out.cell (.head _) 0, HAX.out.cell (.head _) 1⟩) (fun hS => ?_)
      generalize wx.drew = X at *
      refine tk [0, 1, 2, 3, 4, 5, 6] ?_
      repeat (refine tkZ (oi := ⟨_, _, _, _, _, _⟩) (v := ?_) rfl (by kernel_rfl) (by rfl) (fun _ _ _ h => h) hS ?_ ?_; rotate_left; (· rintro W' ⟨z0, z1⟩; go_simp; try with_reducible rfl); try simp only [Act.put, putA, putZ, putS])
      refine tk0 ?_
      refine tZ 7 (oi := ⟨_, _, _, _, _, _⟩) (v := .int .i64 (jj : Int)) rfl (by kernel_rfl) (by rfl) (fun _ _ _ h => h) hS ?_ ?_
      · rintro W' ⟨z0, z1⟩; go_simp; rw [if_neg HNZ.out, HJJ.out]
      try simp only [Act.put, putA, putZ, putS]
      refine tk [8, 9] ?_
      repeat (refine tkZ (oi := ⟨_, _, _, _, _, _⟩) (v := ?_) rfl (by kernel_rfl) (by rfl) (fun _ _ _ h => h) hS ?_ ?_; rotate_left; (· rintro W' ⟨z0, z1⟩; go_simp; try with_reducible rfl); try simp only [Act.put, putA, putZ, putS])
      refine tk0 ?_
      refine wpAnyZ_done (by kernel_rfl) ?_ _
      obtain ⟨pl, ph, hpl, hph, hplh⟩ : ∃ pl ph, (m.wk jj).1 = pl ∧ (m.wk jj).2 = ph ∧ pl ≤ ph := ⟨_, _, rfl, rfl, HWK.out jj hjn⟩
      have cpl : X.cell? ⟨qb, jj * 2, none⟩ = some (.int .i64 pl) := ((HRX.out.own 0 _ rfl).cellAt _ (by show jj * 2 < m.nw * 2; omega)).trans ((fR_get m.wk m.nw jj hjn).1.trans (by rw [hpl]))
      have cph : X.cell? ⟨qb, jj * 2 + 1, none⟩ = some (.int .i64 ph) := ((HRX.out.own 0 _ rfl).cellAt _ (by show jj * 2 + 1 < m.nw * 2; omega)).trans ((fR_get m.wk m.nw jj hjn).2.trans (by rw [hph]))
      have hbd := HOK.out.wk jj hjn
      rw [hpl, hph] at hbd
      obtain ⟨g8, hg8⟩ : ∃ g8, g / 8 = g8 := ⟨_, rfl⟩
      have hg8b : g8 ≤ 31 := by omega
      have HG8 : Hid ((IntKind.i64.wrap (g : Int)).tdiv 8 = (g8 : Int)) := by
        show (IntKind.i64.wrap (g : Int)).tdiv 8 = (g8 : Int)
        rw [IntWalk.i64_in _ (by omega), ← hg8]; rfl
      have HGW : Hid (IntKind.i64.wrap (g8 : Int) = (g8 : Int)) := IntWalk.i64_in _ (by omega)
      have HSB : Hid (IntKind.i64.wrap (ph - (g8 : Int)) = ph - (g8 : Int)) := IntWalk.i64_in _ (by omega)
      obtain ⟨vv, hv⟩ : ∃ vv : Int, pl ≤ vv ∧ ph - g8 ≤ vv ∧ (vv = pl ∨ vv = ph - g8) := by
        by_cases h : pl ≤ ph - g8
        · exact ⟨ph - g8, by omega, by omega, .inr rfl⟩
        · exact ⟨pl, by omega, by omega, .inl rfl⟩
      have hvle : vv ≤ (m.wk jj).2 := by rw [hph]; omega
      clear hg8 hpl hph hbd
      go_upto_region 16 with fail
      have HAY : Hid (BF w X.drew [(xb, #[.slice (some ⟨qb, 0, none⟩) m.nw qc, .slice ga m.nr gc], 25), (w.heap.size, #[.slice x.wa m.nw x.wc, .slice x.ra m.nr x.rc], 25)]) := (HAX.out.below (Below.refl _ _).drew).sub (List.forall_mem_cons.2 ⟨.head _, List.forall_mem_cons.2 ⟨.tail _ (.head _), List.forall_mem_nil _⟩⟩)
      have HRY := Lib.hid (HRX.out.below (Below.refl _ X).drew)
      replace cpl := (Below.refl X.heap.size X).drew.cell (World.block_lt_of_cell? _ _ cpl) |>.trans cpl
      replace cph := (Below.refl X.heap.size X).drew.cell (World.block_lt_of_cell? _ _ cph) |>.trans cph
      clear HAX HRX hS
      refine wp_region_E [16] (S := fun X => X.cell? ⟨qb, jj * 2, none⟩ = some (.int .i64 pl) ∧ X.cell? ⟨qb, jj * 2 + 1, none⟩ = some (.int .i64 ph)) (by kernel_rfl) (⟨cpl, cph⟩) (fun hS => ?_)
      generalize X.drew = Y at *
      refine tk [0, 1, 2, 3, 4, 5, 6, 7, 8, 9, 10] ?_
      repeat (refine tkE (oi := ⟨_, _, _, _, _, _⟩) (v := ?_) rfl (by kernel_rfl) (by rfl) (fun _ _ _ h => h) hS ?_ ?_; rotate_left; (· rintro W' ⟨z0, z1⟩; go_simp; try with_reducible rfl); try simp only [Act.put, putA, putZ, putS])
      refine tk0 ?_
      refine tE 11 (oi := ⟨_, _, _, _, _, _⟩) (v := .int .i64 (g8 : Int)) rfl (by kernel_rfl) (by rfl) (fun _ _ _ h => h) hS ?_ ?_
      · rintro W' ⟨z0, z1⟩; go_simp; rw [HG8.out, HGW.out]
      try simp only [Act.put, putA, putZ, putS]
      refine tE 12 (oi := ⟨_, _, _, _, _, _⟩) (v := .int .i64 (ph - (g8 : Int))) rfl (by kernel_rfl) (by rfl) (fun _ _ _ h => h) hS ?_ ?_
      · rintro W' ⟨z0, z1⟩; go_simp; rw [HSB.out]
      try simp only [Act.put, putA, putZ, putS]
      refine tE 13 (oi := ⟨_, _, _, _, _, _⟩) (v := .int .i64 vv) rfl (by kernel_rfl) (by rfl) (fun _ _ _ h => h) hS ?_ ?_
      · rintro W' ⟨z0, z1⟩; go_simp; (split <;> omega)
      try simp only [Act.put, putA, putZ, putS]
      refine wpAnyE_next (rs := [14]) (by kernel_rfl) (by simp) ?_
      refine NextE.cons (o := ⟨some 115, _, _, _, _, _⟩) rfl (fun K hK => ?_) NextE.nil
      go_simp
      refine hK.out _ _ (⟨cpl, cph⟩) (fun hS => ?_)
      clear hK K
      try simp only [Act.put, putA, putZ, putS]
      refine tE 15 (oi := ⟨_, _, _, _, _, _⟩) (v := ?_) rfl (by kernel_rfl) (by rfl) (fun _ _ _ h => h) hS ?_ ?_
      rotate_left
      · rintro W' ⟨z0, z1⟩; go_simp; try with_reducible rfl
      try simp only [Act.put, putA, putZ, putS]
      refine wpAnyE_next (rs := [16]) (by kernel_rfl) (by simp) ?_
      refine NextE.skip (o := ⟨none, _, _, _, _, _⟩) rfl (by kernel_rfl) (fun K hK => ?_) NextE.nil
      have e0 := hS.2
      have f0 := (HRY.out.own 0 _ rfl).frozenAt (jj * 2 + 1)
      have HA1 : Hid (BF w (Y.setCell ⟨qb, jj * 2 + 1, none⟩ (.int .i64 vv)) [(xb, #[.slice (some ⟨qb, 0, none⟩) m.nw qc, .slice ga m.nr gc], 25), (w.heap.size, #[.slice x.wa m.nw x.wc, .slice x.ra m.nr x.rc], 25)]) := BF.put (i := 0) (j := jj * 2 + 1) HAY.out HRY.out rfl (List.forall_mem_cons.2 ⟨(show 25 ≠ 77 by decide), List.forall_mem_cons.2 ⟨(show 25 ≠ 77 by decide), List.forall_mem_nil _⟩⟩) hwb
      have HR1 : Hid (Rws bs (Y.setCell ⟨qb, jj * 2 + 1, none⟩ (.int .i64 vv)) [⟨77, 2, .slice (some ⟨qb, 0, none⟩) m.nw qc, m.nw, fR (m.setW jj vv).wk m.nw⟩, ⟨79, 4, .slice ga m.nr gc, m.nr, fD (m.setW jj vv) m.nr⟩]) := by
        have h := Rws.put (i := 0) (j := jj * 2 + 1) HRY.out rfl (.int .i64 vv)
        have e := fR_set m.wk vv hjn
        rw [e] at h
        exact h
      go_simp
      refine hK.out _ _ ?_
      clear hK K
      (try simp only [Act.put])
      clear e0 f0
      refine wpAnyE_done (by kernel_rfl) ?_ _
      go_wp2_with fail
      go_meet
      exact ⟨(q : Int), ⟨some ⟨qb, 0, none⟩, qc, ga, gc⟩, (m.setW jj vv), rfl, ⟨by omega, by omega⟩, Ez.setW m jj hvle, (show m.nr ≤ 21 by omega), ⟨HR1.out.rng (i := 0) rfl, HR1.out.rds (i := 1) rfl⟩, HA1.out⟩
    obtain rfl : sel = 3 := by omega
    have x0 := HA3.out.cell (.head _) 0
    have x1 := HA3.out.cell (.head _) 1
    by_cases hr0 : m.nr = 0
    · have k0 : ¬ (0 : Int) < (m.nr : Int) := by omega
      have HN0 := Lib.hid hr0
      clear hr0
      have hE := Ez.refl m
      go_wp2_with fail
      go_meet
      exact ⟨(q : Int), ⟨some ⟨qb, 0, none⟩, qc, ga, gc⟩, m, rfl, ⟨by omega, by omega⟩, hE, (show m.nr ≤ 21 by omega), ⟨HR3.out.rng (i := 0) rfl, HR3.out.rds (i := 1) rfl⟩, HA3.out.sub (List.forall_mem_cons.2 ⟨.head _, List.forall_mem_cons.2 ⟨.tail _ (.head _), List.forall_mem_nil _⟩⟩)⟩
    obtain ⟨gb, rfl⟩ := own_somep (HR3.out.own 1 _ rfl) (show 0 < m.nr by omega)
    have k0 : (0 : Int) < (m.nr : Int) := by omega
    have HNZ : Hid (¬ m.nr = 0) := hr0
    obtain ⟨jj, hjj⟩ : ∃ jj, g % m.nr = jj := ⟨_, rfl⟩
    have hjn : jj < m.nr := by rw [← hjj]; exact Nat.mod_lt _ (by omega)
    have HJJ : Hid ((IntKind.i64.wrap (g : Int)).tmod (m.nr : Int) = (jj : Int)) := by
      show (IntKind.i64.wrap (g : Int)).tmod (m.nr : Int) = (jj : Int)
      rw [IntWalk.i64_in _ (by omega), ← hjj]; rfl
    have ji : (0 : Int) ≤ (jj : Int) := by omega
    have jn : (jj : Int) < (m.nr : Int) := by omega
    clear hjj hr0
    go_upto_region 8 with fail
    have HAX : Hid (BF w wx.drew [(xb, #[.slice (some ⟨qb, 0, none⟩) m.nw qc, .slice (some ⟨gb, 0, none⟩) m.nr gc], 25), (w.heap.size, #[.slice x.wa m.nw x.wc, .slice x.ra m.nr x.rc], 25)]) := (HA3.out.below (Below.refl _ _).drew).sub (List.forall_mem_cons.2 ⟨.head _, List.forall_mem_cons.2 ⟨.tail _ (.head _), List.forall_mem_nil _⟩⟩)
    have HRX := Lib.hid (HR3.out.below (Below.refl _ wx).drew)
    clear HA3 HR3 x0 x1
    refine wp_region_Z (S := fun X => X.cell? ⟨xb, 0, none⟩ = some (.slice (some ⟨qb, 0, none⟩) m.nw qc) ∧ X.cell? ⟨xb, 1, none⟩ = some (.slice (some ⟨gb, 0, none⟩) m.nr gc)) (by kernel_rfl) (⟨HAX.out.cell (.head _) 0, HAX.out.cell (.head _) 1⟩) (fun hS => ?_)
    generalize wx.drew = X at *
    refine tk [0, 1, 2, 3, 4, 5, 6] ?_
    repeat (refine tkZ (oi := ⟨_, _, _, _, _, _⟩) (v := ?_) rfl (by kernel_rfl) (by rfl) (fun _ _ _ h => h) hS ?_ ?_; rotate_left; (· rintro W' ⟨z0, z1⟩; go_simp; try with_reducible rfl); try simp only [Act.put, putA, putZ, putS])
    refine tk0 ?_
    refine tZ 7 (oi := ⟨_, _, _, _, _, _⟩) (v := .int .i64 (jj : Int)) rfl (by kernel_rfl) (by rfl) (fun _ _ _ h => h) hS ?_ ?_
    · rintro W' ⟨z0, z1⟩; go_simp; rw [if_neg HNZ.out, HJJ.out]
    try simp only [Act.put, putA, putZ, putS]
    refine tk [8, 9, 10] ?_
    repeat (refine tkZ (oi := ⟨_, _, _, _, _, _⟩) (v := ?_) rfl (by kernel_rfl) (by rfl) (fun _ _ _ h => h) hS ?_ ?_; rotate_left; (· rintro W' ⟨z0, z1⟩; go_simp; try with_reducible rfl); try simp only [Act.put, putA, putZ, putS])
    refine tk0 ?_
    refine wpAnyZ_done (by kernel_rfl) ?_ _
    obtain ⟨pl, ph, hpl, hph, hplh⟩ : ∃ pl ph, (m.rt jj).1 = pl ∧ (m.rt jj).2 = ph ∧ pl ≤ ph := ⟨_, _, rfl, rfl, HRK.out jj hjn⟩
    have cpl : X.cell? ⟨gb, jj * 4 + 2, none⟩ = some (.int .i64 pl) := ((HRX.out.own 1 _ rfl).cellAt _ (by show jj * 4 + 2 < m.nr * 4; omega)).trans ((fD_get m m.nr jj hjn).2.2.1.trans (by rw [hpl]))
    have cph : X.cell? ⟨gb, jj * 4 + 2 + 1, none⟩ = some (.int .i64 ph) := ((HRX.out.own 1 _ rfl).cellAt _ (by show jj * 4 + 2 + 1 < m.nr * 4; omega)).trans ((fD_get m m.nr jj hjn).2.2.2.trans (by rw [hph]))
    have hbd := HOK.out.rt jj hjn
    rw [hpl, hph] at hbd
    obtain ⟨g8, hg8⟩ : ∃ g8, g / 8 = g8 := ⟨_, rfl⟩
    have hg8b : g8 ≤ 31 := by omega
    have HG8 : Hid ((IntKind.i64.wrap (g : Int)).tdiv 8 = (g8 : Int)) := by
      show (IntKind.i64.wrap (g : Int)).tdiv 8 = (g8 : Int)
      rw [IntWalk.i64_in _ (by omega), ← hg8]; rfl
    have HGW : Hid (IntKind.i64.wrap (g8 : Int) = (g8 : Int)) := IntWalk.i64_in _ (by omega)
    have HSB : Hid (IntKind.i64.wrap (ph - (g8 : Int)) = ph - (g8 : Int)) := IntWalk.i64_in _ (by omega)
    obtain ⟨vv, hv⟩ : ∃ vv : Int, pl ≤ vv ∧ ph - g8 ≤ vv ∧ (vv = pl ∨ vv = ph - g8) := by
      by_cases h : pl ≤ ph - g8
      · exact ⟨ph - g8, by omega, by omega, .inr rfl⟩
      · exact ⟨pl, by omega, by omega, .inl rfl⟩
    have hvle : vv ≤ (m.rt jj).2 := by rw [hph]; omega
    clear hg8 hpl hph hbd
    go_upto_region 9 with fail
    have HAY : Hid (BF w X.drew [(xb, #[.slice (some ⟨qb, 0, none⟩) m.nw qc, .slice (some ⟨gb, 0, none⟩) m.nr gc], 25), (w.heap.size, #[.slice x.wa m.nw x.wc, .slice x.ra m.nr x.rc], 25)]) := (HAX.out.below (Below.refl _ _).drew)
    have HRY := Lib.hid (HRX.out.below (Below.refl _ X).drew)
    replace cpl := (Below.refl X.heap.size X).drew.cell (World.block_lt_of_cell? _ _ cpl) |>.trans cpl
    replace cph := (Below.refl X.heap.size X).drew.cell (World.block_lt_of_cell? _ _ cph) |>.trans cph
    clear HAX HRX hS
    refine wp_region_E [16] (S := fun X => X.cell? ⟨gb, jj * 4 + 2, none⟩ = some (.int .i64 pl) ∧ X.cell? ⟨gb, jj * 4 + 2 + 1, none⟩ = some (.int .i64 ph)) (by kernel_rfl) (⟨cpl, cph⟩) (fun hS => ?_)
    generalize X.drew = Y at *
    refine tk [0, 1, 2, 3, 4, 5, 6, 7, 8, 9, 10] ?_
    repeat (refine tkE (oi := ⟨_, _, _, _, _, _⟩) (v := ?_) rfl (by kernel_rfl) (by rfl) (fun _ _ _ h => h) hS ?_ ?_; rotate_left; (· rintro W' ⟨z0, z1⟩; go_simp; try with_reducible rfl); try simp only [Act.put, putA, putZ, putS])
    refine tk0 ?_
    refine tE 11 (oi := ⟨_, _, _, _, _, _⟩) (v := .int .i64 (g8 : Int)) rfl (by kernel_rfl) (by rfl) (fun _ _ _ h => h) hS ?_ ?_
    · rintro W' ⟨z0, z1⟩; go_simp; rw [HG8.out, HGW.out]
    try simp only [Act.put, putA, putZ, putS]
    refine tE 12 (oi := ⟨_, _, _, _, _, _⟩) (v := .int .i64 (ph - (g8 : Int))) rfl (by kernel_rfl) (by rfl) (fun _ _ _ h => h) hS ?_ ?_
    · rintro W' ⟨z0, z1⟩; go_simp; rw [HSB.out]
    try simp only [Act.put, putA, putZ, putS]
    refine tE 13 (oi := ⟨_, _, _, _, _, _⟩) (v := .int .i64 vv) rfl (by kernel_rfl) (by rfl) (fun _ _ _ h => h) hS ?_ ?_
    · rintro W' ⟨z0, z1⟩; go_simp; (split <;> omega)
    try simp only [Act.put, putA, putZ, putS]
    refine wpAnyE_next (rs := [14]) (by kernel_rfl) (by simp) ?_
    refine NextE.cons (o := ⟨some 74, _, _, _, _, _⟩) rfl (fun K hK => ?_) NextE.nil
    go_simp
    refine hK.out _ _ (⟨cpl, cph⟩) (fun hS => ?_)
    clear hK K
    try simp only [Act.put, putA, putZ, putS]
    refine tE 15 (oi := ⟨_, _, _, _, _, _⟩) (v := ?_) rfl (by kernel_rfl) (by rfl) (fun _ _ _ h => h) hS ?_ ?_
    rotate_left
    · rintro W' ⟨z0, z1⟩; go_simp; try with_reducible rfl
    try simp only [Act.put, putA, putZ, putS]
    refine wpAnyE_next (rs := [16]) (by kernel_rfl) (by simp) ?_
    refine NextE.skip (o := ⟨none, _, _, _, _, _⟩) rfl (by kernel_rfl) (fun K hK => ?_) NextE.nil
    have e0 := hS.2
    have f0 := (HRY.out.own 1 _ rfl).frozenAt (jj * 4 + 2 + 1)
    have HA1 : Hid (BF w (Y.setCell ⟨gb, jj * 4 + 2 + 1, none⟩ (.int .i64 vv)) [(xb, #[.slice (some ⟨qb, 0, none⟩) m.nw qc, .slice (some ⟨gb, 0, none⟩) m.nr gc], 25), (w.heap.size, #[.slice x.wa m.nw x.wc, .slice x.ra m.nr x.rc], 25)]) := BF.put (i := 1) (j := jj * 4 + 2 + 1) HAY.out HRY.out rfl (List.forall_mem_cons.2 ⟨(show 25 ≠ 79 by decide), List.forall_mem_cons.2 ⟨(show 25 ≠ 79 by decide), List.forall_mem_nil _⟩⟩) hwb
    have HR1 : Hid (Rws bs (Y.setCell ⟨gb, jj * 4 + 2 + 1, none⟩ (.int .i64 vv)) [⟨77, 2, .slice (some ⟨qb, 0, none⟩) m.nw qc, m.nw, fR (m.setR jj vv).wk m.nw⟩, ⟨79, 4, .slice (some ⟨gb, 0, none⟩) m.nr gc, m.nr, fD (m.setR jj vv) m.nr⟩]) := by
      have h := Rws.put (i := 1) (j := jj * 4 + 2 + 1) HRY.out rfl (.int .i64 vv)
      have e := fD_set m vv hjn
      rw [e] at h
      exact h
    go_simp
    refine hK.out _ _ ?_
    clear hK K
    (try simp only [Act.put])
    clear e0 f0
    refine wpAnyE_done (by kernel_rfl) ?_ _
    go_wp2_with fail
    go_meet
    exact ⟨(q : Int), ⟨some ⟨qb, 0, none⟩, qc, some ⟨gb, 0, none⟩, gc⟩, (m.setR jj vv), rfl, ⟨by omega, by omega⟩, Ez.setR m jj hvle, (show m.nr ≤ 21 by omega), ⟨HR1.out.rng (i := 0) rfl, HR1.out.rds (i := 1) rfl⟩, HA1.out⟩
  case rest =>
  obtain ⟨wide, y, m', rfl, HWD, HEZ, HNR, hmp, hbf⟩ := hcut
  rename World => wy
  have HA4 := Lib.hid hbf
  have HM4 := Lib.hid hmp
  clear hbf hmp HA3 HR3
  have hnq := HEZ.out.nw
  have kw2 : m'.nw ≤ 100000 := by omega
  have kr2 : m'.nr ≤ 100000 := by have := HNR.out; omega
  have x0 := HA4.out.cell (.head _) 0
  have x1 := HA4.out.cell (.head _) 1
  obtain ⟨fx, hfx⟩ : ∃ fx, m'.fault = fx := ⟨_, rfl⟩
  have HFX := Lib.hid hfx
  have HLF := Lib.hid (lfault_any y m' _ HM4.out kw2 kr2)
  rw [hfx] at HLF
  clear hfx hnq
  go_wp2_with fail
  refine HLF.out.mono ?_
  rintro _ w5 ⟨rfl, hb⟩
  have HA5 := Lib.hid (HA4.out.below hb)
  have HM5 := Lib.hid (HM4.out.below hb)
  have e0 := HA5.out.cell (.tail _ (.head _)) 0
  have e1 := HA5.out.cell (.tail _ (.head _)) 1
  clear hb HA4 HM4 HLF x0 x1
  by_cases hfz : fx = 0
  case neg =>
    have kb : (fx != 0) = true := by simpa using hfz
    go_wp2_with (go_at_call 19; refine (awake_any _).mono ?_; rintro _ wz ⟨rfl, hb⟩; have HZ := Lib.hid (HA5.out.below hb); clear hb)
    go_ret
    exact ⟨rfl, HZ.out.fr⟩
  have hfx : m'.fault = 0 := by rw [HFX.out]; exact hfz
  subst hfz
  have okx := okM_of hfx
  have hq1 := HWD.out
  have HMC := Lib.hid (fun W (hW : Below w.heap.size w W) => mapC_any x m W (HMP.out.below hW) kw1 kr1)
  have HMX := Lib.hid (fun W (hW : Below w5.heap.size w5 W) => mapC_any y m' W (HM5.out.below hW) kw2 kr2)
  have HR1 := Lib.hid (fun z W hW => reach_pl HOK.out HFZ.out z (lim := (q : Int)) (by omega) W hW)
  have HR2 := Lib.hid (fun z W hW => reach_pl okx hfx z (lim := wide) (by omega) W hW)
  have HF1 := Lib.hid (fun z W hW => fewest_pl HOK.out HFZ.out z (lim := (q : Int)) (by omega) W hW)
  have HF2 := Lib.hid (fun z W hW => fewest_pl okx hfx z (lim := wide) (by omega) W hW)
  have HRC := Lib.hid (fun j hj => HEZ.out.rch HOK.out okx hq1.1 (j := j) hj)
  have HFW : Hid (dvW m (q : Int) ≠ [] → dvW m' wide ≠ [] ∧ (dvW m' wide).length ≤ (dvW m (q : Int)).length) := fun hd => HEZ.out.few HOK.out okx hq1.1 hd
  have hl1 := rchN_len m (q : Int) m.nw
  have hl2 := rchN_len m' wide m'.nw
  have hl3 := okx.nw
  have HPX : Hid ((dvW m (q : Int) = [] ∧ planX m (q : Int) = 9) ∨ (dvW m (q : Int) ≠ [] ∧ planX m (q : Int) = 0)) := by
    by_cases hd : dvW m (q : Int) = []
    · exact .inl ⟨hd, planX_nil hd⟩
    · exact .inr ⟨hd, planX_ne hd⟩
  have HPY : Hid (dvW m' wide ≠ [] → planX m' wide = 0) := fun hd => planX_ne hd
  clear HFX hfx okx HFZ HOK HWK HRK hq1
  obtain ⟨R1, hR1⟩ : ∃ R1, rchN m (q : Int) m.nw = R1 := ⟨_, rfl⟩
  obtain ⟨R2, hR2⟩ : ∃ R2, rchN m' wide m'.nw = R2 := ⟨_, rfl⟩
  obtain ⟨D1, hD1⟩ : ∃ D1, dvW m (q : Int) = D1 := ⟨_, rfl⟩
  obtain ⟨D2, hD2⟩ : ∃ D2, dvW m' wide = D2 := ⟨_, rfl⟩
  rw [hR1] at HR1 HRC hl1
  rw [hR2] at HR2 HRC hl2
  rw [hD1] at HF1 HFW HPX
  rw [hD2] at HF2 HFW HPY
  clear hR1 hR2 hD1 hD2
  generalize planX m (q : Int) = px at *
  generalize planX m' wide = py at *
  have HB5 := Lib.hid (Below.refl w5.heap.size w5)
  go_wp2_with fail
  refine (HMC.out _ HA5.out.fr).mono ?_
  rintro _ w6 ⟨z6, rfl, hm, hb⟩
  have HA6 := Lib.hid (HA5.out.below hb)
  have HB6 := Lib.hid (below_step HB5.out hb)
  have HM6 := Lib.hid (hm)
  clear hb HA5 HB5 hm e0 e1
  go_wp2_with fail
  refine (HR1.out z6 _ HM6.out).mono ?_
  rintro _ w7 ⟨la, lac, rfl, hla, hb⟩
  have HA7 := Lib.hid (HA6.out.below hb)
  have HB7 := Lib.hid (below_step HB6.out hb)
  have HG7 := Lib.hid (hla)
  have e0 := HA7.out.cell (.head _) 0
  have e1 := HA7.out.cell (.head _) 1
  clear hb HA6 HB6 HM6 hla
  go_wp2_with fail
  refine (HMX.out _ HB7.out).mono ?_
  rintro _ w8 ⟨z8, rfl, hm, hb⟩
  have HA8 := Lib.hid (HA7.out.below hb)
  have HB8 := Lib.hid (below_step HB7.out hb)
  have HM8 := Lib.hid (hm)
  have HG8 := Lib.hid (HG7.out.below hb)
  clear hb HA7 HB7 hm e0 e1 HG7
  go_wp2_with fail
  refine (HR2.out z8 _ HM8.out).mono ?_
  rintro _ w9 ⟨lb, lbc, rfl, hlb, hb⟩
  have HA9 := Lib.hid (HA8.out.below hb)
  have HB9 := Lib.hid (below_step HB8.out hb)
  have HG9 := Lib.hid (HG8.out.below hb)
  have HK9 := Lib.hid (hlb)
  have e0 := HA9.out.cell (.tail _ (.head _)) 0
  have e1 := HA9.out.cell (.tail _ (.head _)) 1
  clear hb HA8 HB8 HM8 HG8 hlb
  go_wp2_with fail
  refine (HMC.out _ HA9.out.fr).mono ?_
  rintro _ w10 ⟨z10, rfl, hm, hb⟩
  have HA10 := Lib.hid (HA9.out.below hb)
  have HB10 := Lib.hid (below_step HB9.out hb)
  have HM10 := Lib.hid (hm)
  have HG10 := Lib.hid (HG9.out.below hb)
  have HK10 := Lib.hid (HK9.out.below hb)
  clear hb HA9 HB9 hm e0 e1 HG9 HK9
  go_wp2_with fail
  refine (HF1.out z10 _ HM10.out).mono ?_
  rintro _ w11 ⟨rfl, hb⟩
  have HA11 := Lib.hid (HA10.out.below hb)
  have HB11 := Lib.hid (below_step HB10.out hb)
  have HG11 := Lib.hid (HG10.out.below hb)
  have HK11 := Lib.hid (HK10.out.below hb)
  have e0 := HA11.out.cell (.head _) 0
  have e1 := HA11.out.cell (.head _) 1
  clear hb HA10 HB10 HM10 HG10 HK10
  go_wp2_with fail
  refine (HMX.out _ HB11.out).mono ?_
  rintro _ w12 ⟨z12, rfl, hm, hb⟩
  have HA12 := Lib.hid (HA11.out.below hb)
  have HB12 := Lib.hid (below_step HB11.out hb)
  have HM12 := Lib.hid (hm)
  have HG12 := Lib.hid (HG11.out.below hb)
  have HK12 := Lib.hid (HK11.out.below hb)
  clear hb HA11 HB11 hm e0 e1 HG11 HK11
  go_wp2_with fail
  refine (HF2.out z12 _ HM12.out).mono ?_
  rintro _ w13 ⟨rfl, hb⟩
  have HA13 := Lib.hid (HA12.out.below hb)
  have HB13 := Lib.hid (below_step HB12.out hb)
  have HG13 := Lib.hid (HG12.out.below hb)
  have HK13 := Lib.hid (HK12.out.below hb)
  clear hb HA12 HB12 HM12 HG12 HK12
  go_upto_region 23 with fail
  go_cut [167] (fun s wz => s = .bool false ∧ wz = w13)
  case first =>
    rcases HPX.out with ⟨hd, hp⟩ | ⟨hd, hp⟩
    · subst hp
      clear hd
      go_wp2_with fail
      go_meet
      exact ⟨rfl, rfl⟩
    · obtain ⟨h1, h2⟩ := HFW.out hd
      have h3 := HPY.out h1
      subst hp h3
      have kl : ¬ ((D1.length : Int) < (D2.length : Int)) := by omega
      go_wp2_with fail
      go_meet
      exact ⟨rfl, rfl⟩
  case rest =>
  obtain ⟨rfl, rfl⟩ := hcut
  rename World => wz
  clear HPX HPY HFW
  go_wp2_with fail
  go_loopw [24] (fun i wr => ∃ k : Nat, i = .int .i64 k ∧ k ≤ R1.length ∧ wr = wz) (fun i _ => R1.length - (intOf i).toNat)
  case atStart => exact ⟨0, rfl, Nat.zero_le _, rfl⟩
  case round =>
    obtain ⟨k, rfl, hk, rfl⟩ := hrel
    by_cases hlt : k < R1.length
    · obtain ⟨b, off, rfl, hb, x0⟩ := HG13.out.at hlt
      have hrc := HRC.out k hlt
      have HHS := Lib.hid (rHas_any lb R2.length lbc (zL R2) (zL R1 k) _ (by omega) HK13.out)
      rw [hrc] at HHS
      have ki : (0 : Int) ≤ (k : Int) := by omega
      have kn : (k : Int) < (R1.length : Int) := by omega
      clear hrc
      go_wp2_with (go_at_call 44; refine HHS.out.mono ?_; rintro _ _ ⟨rfl, rfl⟩)
      go_roundw
      case rel => exact ⟨k + 1, by go_num, by omega, trivial⟩
      case measure => simp [intOf]; omega
    · have kn : ¬ ((k : Int) < (R1.length : Int)) := by omega
      go_wp2_with (go_at_call 19; refine (awake_any _).mono ?_; rintro _ wq ⟨rfl, hb⟩; have HZ := Lib.hid (HA13.out.below hb); clear hb)
      go_ret
      exact ⟨rfl, HZ.out.fr⟩
end Go.Proofs.Ytpnkgjkoophckaa
