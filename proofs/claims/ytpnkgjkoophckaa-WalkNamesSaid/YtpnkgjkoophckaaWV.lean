/- Walk: tour. Printed by gen_wv.py. -/
import Derived.Test.YtpnkgjkoophckaaWU
namespace Go.Proofs.Ytpnkgjkoophckaa
open Go.RowKit Go.Shelf Go.Maps

theorem own_cap {W : World} {base size n c : Nat} {T : TypeId} {a : Option Addr} {xs : List Value} (h : W.ownsRow base T size (.slice a n c) n xs) : n ≤ c := by
  rcases h.2 with ⟨e, rfl⟩ | ⟨g, cap, cur, e, _, _, hn, _⟩
  · exact Nat.zero_le _
  · cases e; exact hn
theorem AF.grow {w X Y : World} {A bm n n0 base sz k : Nat} {x : MV} {m : Mp} {L : List (Nat × Array Value × TypeId)} {T : TypeId} {v : Value} {xs : List Value} (h0 : At w A bm n0 x m) (h : AF w X A bm n x m L) (ho : X.ownsRow base T sz v k xs) (hT : ∀ p, p ∈ L → p.2.2 ≠ T) (hb : w.heap.size ≤ base) (hg : X.grownBy Y v.ownBlock) : AF w Y A bm n x m L := by
  have hlow : ∀ q, v.ownBlock = some q → w.heap.size ≤ q := fun q e => Nat.le_trans hb (own_low ho e)
  have hf : Fr (fun q => q = bm) w Y := by
    refine ⟨hg.os.trans h.fr.os, hg.tape.trans h.fr.tape, hg.output.trans h.fr.output, Nat.le_trans h.fr.size hg.size, fun q hq he => ?_⟩
    exact (hg.block q (Nat.lt_of_lt_of_le hq h.fr.size) (fun e => by have := hlow q e.symm; omega)).trans (h.fr.block q hq he)
  have hA := h0.ab.lt
  have hm := h0.cm.lt
  refine ⟨⟨h.st.ab.same (hg.block _ h.st.ab.lt (fun e => by have := hlow _ e.symm; omega)), h0.mp.fr hf h0.cm.mp, h.st.cm.kept hg (fun e => by have := hlow _ e.symm; omega)⟩, hf, fun b cs T' hm' => ?_⟩
  obtain ⟨k1, k2⟩ := h.bk b cs T' hm'
  exact ⟨k1, (hg.block b (Array.getElem?_eq_some_iff.1 k2).1 (fun e => own_type_ne ho k2 (hT _ hm') e.symm)).trans k2⟩
theorem bestL_far (v : Nat → Int) (L : List Nat) : (bestL v L).2 = -1 ∧ (bestL v L).1 = 1048576 ∨ ∃ n, n ∈ L ∧ (bestL v L).2 = (n : Int) ∧ (bestL v L).1 = v n := by
  rcases List.eq_nil_or_concat L with rfl | ⟨L, n, rfl⟩
  · exact .inl ⟨rfl, rfl⟩
  · rw [List.concat_eq_append, bestL_snoc]
    split
    · exact .inr ⟨n, by simp, rfl, rfl⟩
    · rcases bestL_far v L with h | ⟨k, hk, h⟩
      · exact .inl h
      · exact .inr ⟨k, List.mem_append_left _ hk, h⟩
termination_by L.length
decreasing_by simp_all
/-- Where a tour goes on. -/
theorem rest_next {m : Mp} (ok : OkM m) {a s : Nat} (ha : a < m.nw) (hs : s < 2 ^ m.nw) (h0 : s ≠ 0) (h : (rest (tmA m) a s).1 < 1048576) : ∃ k : Nat, (rest (tmA m) a s).2 = (k : Int) ∧ k < 8 ∧ s.testBit k = true ∧ k < m.nw ∧ tmA m a k < 1048576 ∧ (rest (tmA m) k (s - 2 ^ k)).1 < 1048576 ∧ (rest (tmA m) a s).1 = tmA m a k + (rest (tmA m) k (s - 2 ^ k)).1 := by
  have e := rest_eq (tmA m) a h0
  rcases bestL_far (fun k => tmA m a k + (rest (tmA m) k (s - 2 ^ k)).1) (plc s) with ⟨_, h2⟩ | ⟨k, hk, h2, h3⟩
  · rw [e] at h; omega
  · obtain ⟨h4, h5⟩ := plc_mem.1 hk
    have h6 := sub_sub hs h5
    have b1 := tmA_bd ok ha h6
    have hl : s - 2 ^ k < 2 ^ m.nw := Nat.lt_of_le_of_lt (Nat.sub_le _ _) hs
    have b2 := rest_bd (tmB ok) (by have := ok.nw; omega) (s - 2 ^ k) (s - 2 ^ k) k (Nat.le_refl _) hl h6
    rw [e] at h ⊢
    exact ⟨k, h2, h4, h5, h6, by omega, by omega, h3⟩
/-- The places behind the first one of a tour. -/
def tourF (m : Mp) : Nat → Nat → Nat → List Nat
  | 0, a, _ => (wayL m a 0).tail
  | k + 1, a, s => if s = 0 then (wayL m a 0).tail else (wayL m a (rest (tmA m) a s).2.toNat).tail ++ tourF m k (rest (tmA m) a s).2.toNat (s - 2 ^ (rest (tmA m) a s).2.toNat)
def tourL (m : Mp) (s : Nat) : List Nat := 0 :: tourF m s 0 s
theorem tourF_eq {m : Mp} (ok : OkM m) : ∀ (k a s : Nat), a < m.nw → s < 2 ^ m.nw → (rest (tmA m) a s).1 < 1048576 → s ≤ k → tourF m k a s = tourF m s a s
  | 0, a, s, _, _, _, h => by obtain rfl : s = 0 := by omega
                              rfl
  | k + 1, a, s, ha, hs, hf, h => by
    cases s with
    | zero => simp [tourF]
    | succ s =>
      obtain ⟨j, h1, h2, h3, h4, h5, h6, h7⟩ := rest_next ok ha hs (Nat.succ_ne_zero s) hf
      simp only [tourF, if_neg (Nat.succ_ne_zero s)]
      rw [h1, Int.toNat_natCast]
      have h8 : 1 ≤ 2 ^ j := Nat.one_le_two_pow
      have h9 := testBit_le h3
      have hl : s + 1 - 2 ^ j < 2 ^ m.nw := Nat.lt_of_le_of_lt (Nat.sub_le _ _) hs
      rw [tourF_eq ok k j _ h4 hl h6 (by omega), tourF_eq ok s j _ h4 hl h6 (by omega)]
termination_by k => k
decreasing_by all_goals omega
theorem tourF_step {m : Mp} (ok : OkM m) {a s : Nat} (hs : s < 2 ^ m.nw) (h0 : s ≠ 0) (h : (rest (tmA m) a s).1 < 1048576) {k : Nat} (hk : (rest (tmA m) a s).2 = (k : Int)) (h3 : s.testBit k = true) (h4 : k < m.nw) (h6 : (rest (tmA m) k (s - 2 ^ k)).1 < 1048576) :
    tourF m s a s = (wayL m a k).tail ++ tourF m (s - 2 ^ k) k (s - 2 ^ k) := by
  obtain ⟨s, rfl⟩ : ∃ q, s = q + 1 := ⟨s - 1, by omega⟩
  simp only [tourF, if_neg h0]
  rw [hk, Int.toNat_natCast]
  have h8 : 1 ≤ 2 ^ k := Nat.one_le_two_pow
  have h9 := testBit_le h3
  rw [tourF_eq ok s k _ h4 (Nat.lt_of_le_of_lt (Nat.sub_le _ _) hs) h6 (by omega)]
theorem wayL_ne {m : Mp} {a b : Nat} : ∃ t, wayL m a b = a :: t := by
  unfold wayL
  cases (tmA m a b).toNat with
  | zero => exact ⟨[], rfl⟩
  | succ k =>
    simp only [wayF]
    split
    · exact ⟨[], rfl⟩
    · exact ⟨_, rfl⟩
theorem wayL_len {m : Mp} (ok : OkM m) {b : Nat} (hb : b < m.nw) : ∀ (k a : Nat), a < m.nw → tmA m a b < 1048576 → (tmA m a b).toNat ≤ k → ((wayL m a b).length : Int) ≤ tmA m a b + 1
  | 0, a, ha, hf, hk => by
    have hbd := tmA_bd ok ha hb
    by_cases e : a = b
    · subst e; rw [wayL_self ok ha]; simp; omega
    · have := tmA_pos ok ha hb e; omega
  | k + 1, a, ha, hf, hk => by
    by_cases e : a = b
    · subst e; have := tmA_bd ok ha hb; rw [wayL_self ok ha]; simp; omega
    · obtain ⟨f, hh, h1, h2, h3, h4, h5, h6⟩ := wayL_step ok ha hb e hf
      have hfb := tmA_bd ok h2 hb
      have := wayL_len ok hb k f h2 (by omega) (by omega)
      rw [h6, List.length_cons]
      omega
/-- A tour, made since a world of this size. -/
def WlOwn (base : Nat) (X : World) (z : LV) (R C : List Nat) : Prop := Rws base X [⟨3, 1, .slice z.ra R.length z.rc, R.length, nL R⟩, ⟨3, 1, .slice z.ca C.length z.cc, C.length, nL C⟩]
def GivesT (W : World) (A bm n : Nat) (x : MV) (m : Mp) (R C : List Nat) (e : Ending) (W' : World) : Prop := ∃ z : LV, e = .returned (.agg #[.slice z.ra R.length z.rc, .slice z.ca C.length z.cc]) ∧ WlOwn W.heap.size W' z R C ∧ At W' A bm n x m ∧ Fr (fun q => q = bm) W W'
theorem plc_lt : ∀ s : Fin 256, (plc s).length ≤ 8 := by decide +kernel
theorem tail_src1 {X : World} {base g c a tn : Nat} {tl : List Nat} (h : X.ownsRow base 3 1 (.slice (some ⟨g, 0, none⟩) (tn + 1) c) (tn + 1) (nL (a :: tl))) (ht : tl.length = tn) (_ : ¬ c = 1) : Src X (some ⟨g, 1, none⟩) 1 tn (nL tl) := by
  refine ⟨by rw [nL_length]; omega, fun j u hu => ?_⟩
  have hj := (List.getElem?_eq_some_iff.1 hu).1
  rw [nL_length] at hj
  refine ⟨_, rfl, ?_⟩
  rw [addr_add, h.cellAt (1 + j) (by omega), Nat.add_comm 1 j]
  simp only [nL, List.map_cons, List.getElem?_cons_succ]
  exact hu
theorem tail_src0 {X : World} {base g c a tn : Nat} {tl : List Nat} (h : X.ownsRow base 3 1 (.slice (some ⟨g, 0, none⟩) (tn + 1) c) (tn + 1) (nL (a :: tl))) (ht : tl.length = tn) (hc1 : c = 1) : Src X (some ⟨g, 0, none⟩) 1 tn (nL tl) := by
  have hc := own_cap h
  refine ⟨by rw [nL_length]; omega, fun j u hu => ?_⟩
  have hj := (List.getElem?_eq_some_iff.1 hu).1
  rw [nL_length] at hj
  omega
set_option maxRecDepth 100000 in
set_option maxHeartbeats 16000000 in
theorem tour_any {m : Mp} (ok : OkM m) (x : MV) (A bm s n : Nat) (hs : s < 2 ^ m.nw) (hf : (rest (tmA m) 0 s).1 < 1048576) (hn : n ≤ 900000000000000000) (w : World) (hw : At w A bm n x m) :
    Calls Try.prog 71 #[.pointer (some ⟨A, 0, none⟩), .int .i64 (s : Int)] w (GivesT w A bm (n + 1800000) x m (tourL m s) (plc s)) := by
  obtain ⟨i0, hi0, hz0, hz1, hz2⟩ := info_parts Try.infoInt
  have hnw := ok.nw
  have hs8 : s < 256 := Nat.lt_of_lt_of_le hs (Nat.pow_le_pow_right (by decide) hnw.2)
  have hbm : bm < w.heap.size := hw.cm.lt
  have hA : A < w.heap.size := hw.ab.lt
  have HSW := Lib.hid hw
  have HOK := Lib.hid ok
  have HLI := Lib.hid (fun W => list_any s hs8 W)
  have HRS := Lib.hid (fun (s' a n' : Nat) (hs' : s' < 2 ^ m.nw) (ha : a < m.nw) (hn' : n' ≤ 1000000000000000000) W (h : At W A bm n' x m) => rest_any ok x A bm s' a n' hs' ha hn' W h)
  have HWY := Lib.hid (fun (a b n' : Nat) (ha : a < m.nw) (hb : b < m.nw) (hf : tmA m a b < 1048576) W (h : At W A bm n' x m) => way_any ok x A bm a b n' ha hb hf W h)
  obtain ⟨LT, HLT⟩ : ∃ L, Hid (tourL m s = L) := ⟨_, rfl⟩
  have hL0 : [0] ++ tourF m s 0 s = LT := HLT.out
  have HL0 := Lib.hid hL0
  obtain ⟨LP, HLP⟩ : ∃ L, Hid (plc s = L) := ⟨_, rfl⟩
  have hLP8 : LP.length ≤ 8 := by rw [← HLP.out]; exact plcN_len 8 s
  rw [HLT.out, HLP.out]
  rw [HLP.out] at HLI
  have hRB : Hid (∀ a s', a < m.nw → s' < 2 ^ m.nw → 0 ≤ (rest (tmA m) a s').1 ∧ (rest (tmA m) a s').1 ≤ 1048576) := fun a' s' h1 h2 => rest_bd (tmB ok) (by omega) s' s' a' (Nat.le_refl _) h2 h1
  clear hw ok hL0
  unfold GivesT
  unfold GivesS at HRS
  have HA0 : Hid (BF w (((w.alloc (.cells #[.slice none 0 0, .slice none 0 0] 30)).alloc (.cells #[.int .i64 0] 3)).alloc (.cells #[.int .i64 0, .int .i64 (s : Int)] 164)) [(w.heap.size, #[.slice none 0 0, .slice none 0 0], 30), (w.heap.size + 1, #[.int .i64 0], 3), (w.heap.size + 2, #[.int .i64 0, .int .i64 (s : Int)], 164)]) := BF.made3 _ _ _ _ _ _ _
  have HAF0 : Hid (AF w (((w.alloc (.cells #[.slice none 0 0, .slice none 0 0] 30)).alloc (.cells #[.int .i64 0] 3)).alloc (.cells #[.int .i64 0, .int .i64 (s : Int)] 164)) A bm n x m [(w.heap.size + 2, #[.int .i64 0, .int .i64 (s : Int)], 164), (w.heap.size, #[.slice none 0 0, .slice none 0 0], 30)]) := ⟨HSW.out.below HA0.out.fr, Fr.below HA0.out.fr _, (HA0.out.sub (List.forall_mem_cons.2 ⟨.tail _ (.tail _ (.head _)), List.forall_mem_cons.2 ⟨.head _, List.forall_mem_nil _⟩⟩)).bk⟩
  have HO0 : Hid ((((w.alloc (.cells #[.slice none 0 0, .slice none 0 0] 30)).alloc (.cells #[.int .i64 0] 3)).alloc (.cells #[.int .i64 0, .int .i64 (s : Int)] 164)).ownsRow w.heap.size 3 1 (.slice (some ⟨w.heap.size + 1, 0, none⟩) ([0] : List Nat).length 1) ([0] : List Nat).length (nL [0])) :=
    ⟨rfl, .inr ⟨w.heap.size + 1, 1, #[.int .i64 0], rfl, by omega, (HA0.out.bk _ _ _ (.tail _ (.head _))).2, Nat.le_refl _, by unfold maxLen; simp, rfl, rfl⟩⟩
  go_enter Try.func71, Try.ntmps71
  go_wp2_with fail
  clear HA0
  generalize (((w.alloc (.cells #[.slice none 0 0, .slice none 0 0] 30)).alloc (.cells #[.int .i64 0] 3)).alloc (.cells #[.int .i64 0, .int .i64 (s : Int)] 164)) = w0 at *
  go_loopw [5] (fun rv wr => ∃ a s' n' R g c, rv = .slice (some ⟨g, 0, none⟩) (R : List Nat).length c ∧ 1 ≤ R.length ∧ a < m.nw ∧ s' < 2 ^ m.nw ∧ (rest (tmA m) a s').1 < 1048576 ∧ n' + ((plc s').length + 1) * 200000 ≤ n + 1800000 ∧ R ++ tourF m s' a s' = LT ∧ (R.length : Int) + (rest (tmA m) a s').1 ≤ 1048577 ∧ AF w wr A bm n' x m [(w.heap.size + 2, #[.int .i64 (a : Int), .int .i64 (s' : Int)], 164), (w.heap.size, #[.slice none 0 0, .slice none 0 0], 30)] ∧ wr.ownsRow w.heap.size 3 1 rv R.length (nL R)) (fun _ wr => (intOf ((wr.cell? ⟨w.heap.size + 2, 1, none⟩).getD undef)).toNat)
  case atStart => exact ⟨0, s, n, [0], _, _, rfl, Nat.le_refl _, by omega, hs, hf, by have := plc_lt ⟨s, hs8⟩; simp only at this; omega, HL0.out, by simp; omega, HAF0.out, HO0.out⟩
  case round =>
    clear HAF0 HO0 HL0
    obtain ⟨a, s', n', R, g, c, rfl, hR1, ha, hs', hfr, hcn, hR, hRl, haf, how⟩ := hrel
    rename World => wx
    have HAF := Lib.hid haf; have HOW := Lib.hid how; have HR := Lib.hid hR
    clear haf how hR
    have hs28 : s' < 256 := Nat.lt_of_lt_of_le hs' (Nat.pow_le_pow_right (by decide) hnw.2)
    have ai : (0 : Int) ≤ (a : Int) := by omega
    have a8 : (a : Int) < 8 := by omega
    obtain ⟨k, r1, hrest, hk8, htk, hrs2⟩ : ∃ (k : Nat) (r1 : Int), rest (tmA m) a s' = (r1, (k : Int)) ∧ k < m.nw ∧ tmA m a k < 1048576 ∧ (s' ≠ 0 → s'.testBit k = true ∧ (rest (tmA m) k (s' - 2 ^ k)).1 < 1048576 ∧ r1 = tmA m a k + (rest (tmA m) k (s' - 2 ^ k)).1) := by
      by_cases h0 : s' = 0
      · subst h0; exact ⟨0, tmA m a 0, rfl, by omega, hfr, fun h => absurd rfl h⟩
      · obtain ⟨k, h1, _, h3, h4, h5, h6, h7⟩ := rest_next HOK.out ha hs' h0 hfr
        exact ⟨k, (rest (tmA m) a s').1, Prod.ext rfl h1, h4, h5, fun _ => ⟨h3, h6, h7⟩⟩
    have HS2 := Lib.hid hrs2
    have HC := Lib.hid (HRS.out s' a n' hs' ha (by omega) wx HAF.out.st)
    have hr1b := (hRB.out a s' ha hs').1
    rw [hrest] at HC hfr hRl hr1b
    simp only at HC hfr hRl hr1b
    have HWK := Lib.hid (fun W n2 (h : At W A bm n2 x m) => HWY.out a k n2 ha hk8 htk W h)
    obtain ⟨tl, htl⟩ := wayL_ne (m := m) (a := a) (b := k)
    have hwl := wayL_len HOK.out hk8 _ a ha htk (Nat.le_refl _)
    have htb := tmA_bd HOK.out ha hk8
    rw [htl] at HWK hwl
    simp only [List.length_cons] at HWK hwl
    have HTL := Lib.hid htl
    have x0 := HAF.out.cell (.head _) 0
    have x1 := HAF.out.cell (.head _) 1
    have hfl := field_leg2 r1 (k : Int)
    have hbx := HAF.out.fr.size
    clear HRS HWY hrs2 htl
    have hrr : Hid (0 ≤ (rest (tmA m) k (s' - 2 ^ k)).1) := (hRB.out k (s' - 2 ^ k) hk8 (Nat.lt_of_le_of_lt (Nat.sub_le _ _) hs')).1
    obtain ⟨q, hq⟩ : ∃ q, R.length = q := ⟨_, rfl⟩
    have HQ := Lib.hid hq
    obtain ⟨xs, HXS⟩ : ∃ xs, Hid (nL R = xs) := ⟨_, rfl⟩
    rw [HXS.out, hq] at HOW
    rw [hq] at hRl hR1 ⊢
    clear hq
    obtain ⟨tn, htn⟩ : ∃ tn, tl.length = tn := ⟨_, rfl⟩
    have HTN := Lib.hid htn
    rw [htn] at HWK hwl
    clear htn
    have hTmn : (tn : Int) ≤ tmA m a k := by omega
    by_cases h0 : s' = 0
    · subst h0
      have hk0 : (tmA m a 0, (0 : Int)) = (r1, (k : Int)) := hrest
      obtain rfl : k = 0 := by have := congrArg Prod.snd hk0; simp only at this; omega
      have HLT2 : Hid (R ++ tl = LT) := by unfold Hid; rw [← HR.out]; show R ++ tl = R ++ (wayL m a 0).tail; rw [HTL.out]; rfl
      rw [plc_nil] at hcn
      clear hrest hk0 hfl hs' hs28 HS2
      have hfl := field_leg2 r1 0
      go_wp2_with (go_at_call 98; refine HC.out.mono ?_; rintro _ w1 ⟨rfl, hs1, hf1⟩; have HAF1 := Lib.hid (HAF.out.go hbm hf1 hs1); have HOW1 := Lib.hid (own_fr HOW.out hf1 (fun g' cur _ _ hc e => by subst e; obtain ⟨es, kk, hm⟩ := HAF.out.st.cm.mp; rw [hm] at hc; cases hc)); have y0 := HAF1.out.cell (.head _) 0; have y1 := HAF1.out.cell (.head _) 1; clear hs1 hf1)
      refine (HWK.out _ _ HAF1.out.st).mono ?_; rintro _ w2 ⟨g2, c2, rfl, hown2, hb2⟩; have HAF2 := Lib.hid (HAF1.out.below hbm hb2); have HOW2 := Lib.hid (own_below HOW1.out hb2); have HWO := Lib.hid hown2; have hcp := own_cap hown2; have z0 := HAF2.out.cell (.head _) 0; have z1 := HAF2.out.cell (.head _) 1; clear hown2 hb2
      by_cases hc21 : c2 = 1
      · subst hc21
        have ht0 : tn = 0 := by omega
        subst ht0
        have htl0 : tl = [] := List.eq_nil_of_length_eq_zero HTN.out
        subst htl0
        rw [List.append_nil] at HLT2
        go_wp2_with (at_builtin; refine wpList_append_src _ rfl (.tmp 15) (.tmp 21) 26 rfl w.heap.size 3 i0 (.int .i64 0) 1 8 Try.underlying26 hi0 hz0 hz1 hz2 rfl (by decide) (.slice (some ⟨g, 0, none⟩) q c) q xs rfl HOW2.out (some ⟨g2, 0, none⟩) 0 0 [] rfl ⟨rfl, fun j u hu => by cases hu⟩ (fun u hu => by cases hu) ?a1 ?a2 ?a3 ?_)
        case a1 => unfold maxLen; omega
        case a2 => omega
        case a3 => exact HAF2.out.fr.size
        intro v3 w3 hown hgr hlt1
        obtain ⟨ea, c3, rfl⟩ := own_slice' hown
        have HAF3 := Lib.hid (AF.grow HSW.out HAF2.out HOW2.out (List.forall_mem_cons.2 ⟨(show 164 ≠ 3 by decide), List.forall_mem_cons.2 ⟨(show 30 ≠ 3 by decide), List.forall_mem_nil _⟩⟩) (Nat.le_refl _) hgr)
        have HXN : Hid (nL R = xs) := HXS.out
        have HQN : Hid (R.length = q) := HQ.out
        have HO3 : Hid (w3.ownsRow w.heap.size 3 1 (.slice ea q c3) q (nL R)) := by rw [HXN.out]; exact hown
        have u0 := HAF3.out.cell (.head _) 0
        have u1 := HAF3.out.cell (.head _) 1
        clear hown hgr hlt1 x0 y0 y1 z0 z1 hcp HAF HAF1 HAF2 HOW HOW1 HOW2 HWO HC HWK hfl
        rw [HLT2.out] at HO3 HQN
        rw [← HQN.out] at HO3 ⊢
        go_wp2_with (go_at_call 99; refine (HLI.out _).mono ?_; rintro _ w4 ⟨la, lc, rfl, hl4, hb4⟩; have HAF4 := Lib.hid (HAF3.out.below hbm hb4); have HO4 := Lib.hid (own_below HO3.out hb4); have HL4 := Lib.hid hl4; have hw3 := HAF3.out.fr.size; have HLW := Lib.hid (fun k (e : (Value.slice ea LT.length c3).ownBlock = some k) => own_lt HO3.out e); have e0 := HAF4.out.cell (.tail _ (.head _)) 0; have e1 := HAF4.out.cell (.tail _ (.head _)) 1; have f0 := HAF4.out.thaw (.tail _ (.head _)) 0; have f1 := HAF4.out.thaw (.tail _ (.head _)) 1; have HA5 := Lib.hid (AF.set2 HSW.out HAF4.out (.tail _ (.head _)) (.slice ea LT.length c3) (.slice la LP.length lc) (L' := []) (List.forall_mem_nil _)); clear hl4 hb4)
        have HRW : Hid (WlOwn w.heap.size w4 ⟨ea, c3, la, lc⟩ LT LP) := by
          refine ⟨fun i p hp => ?_, fun i j p q hne hp hq k e1 e2 => ?_⟩
          · match i, hp with
            | 0, hp => cases hp; exact HO4.out
            | 1, hp => cases hp; exact own_mono HL4.out hw3
          · match i, j, hne, hp, hq with
            | 0, 0, hne, _, _ => exact hne rfl
            | 1, 1, hne, _, _ => exact hne rfl
            | 0, 1, _, hp, hq => cases hp; cases hq; have := HLW.out k e1; have := own_low HL4.out e2; omega
            | 1, 0, _, hp, hq => cases hp; cases hq; have := HLW.out k e2; have := own_low HL4.out e1; omega
        have HRX := Lib.hid (Rws.tab HRW.out (HAF4.out.bk _ _ _ (.tail _ (.head _))).2 (List.forall_mem_cons.2 ⟨(show 30 ≠ 3 by decide), List.forall_mem_cons.2 ⟨(show 30 ≠ 3 by decide), List.forall_mem_nil _⟩⟩) ((Fr.set w4 w.heap.size 0 (.slice ea LT.length c3)).trans (Fr.set _ w.heap.size 1 (.slice la LP.length lc))))
        have g0 := HA5.out.cell (.head _) 0
        have g1 := HA5.out.cell (.head _) 1
        exact bodyPost_ret (v := .agg #[.slice ea LT.length c3, .slice la LP.length lc]) (by simp [results, Try.results71, go_sem, g0, g1]) rfl ⟨⟨ea, c3, la, lc⟩, rfl, HRX.out, HA5.out.st.mono (by omega), HA5.out.fr⟩
      · go_wp2_with (at_builtin; refine wpList_append_src _ rfl (.tmp 15) (.tmp 21) 26 rfl w.heap.size 3 i0 (.int .i64 0) 1 8 Try.underlying26 hi0 hz0 hz1 hz2 rfl (by decide) (.slice (some ⟨g, 0, none⟩) q c) q xs rfl HOW2.out (some ⟨g2, 1, none⟩) tn (c2 - 1) (nL tl) rfl (tail_src1 HWO.out HTN.out hc21) (nL_one _) ?a1x ?a2x ?a3x ?_)
        case a1x => unfold maxLen; omega
        case a2x => omega
        case a3x => exact HAF2.out.fr.size
        intro v3 w3 hown hgr hlt1
        obtain ⟨ea, c3, rfl⟩ := own_slice' hown
        have HAF3 := Lib.hid (AF.grow HSW.out HAF2.out HOW2.out (List.forall_mem_cons.2 ⟨(show 164 ≠ 3 by decide), List.forall_mem_cons.2 ⟨(show 30 ≠ 3 by decide), List.forall_mem_nil _⟩⟩) (Nat.le_refl _) hgr)
        have HXN : Hid (nL (R ++ tl) = xs ++ nL tl) := by unfold Hid; rw [← HXS.out]; simp [nL]
        have HQN : Hid ((R ++ tl).length = q + tn) := by unfold Hid; rw [List.length_append, HQ.out, HTN.out]
        have HO3 : Hid (w3.ownsRow w.heap.size 3 1 (.slice ea (q + tn) c3) (q + tn) (nL (R ++ tl))) := by rw [HXN.out]; exact hown
        have u0 := HAF3.out.cell (.head _) 0
        have u1 := HAF3.out.cell (.head _) 1
        clear hown hgr hlt1 x0 y0 y1 z0 z1 hcp HAF HAF1 HAF2 HOW HOW1 HOW2 HWO HC HWK hfl
        rw [HLT2.out] at HO3 HQN
        rw [← HQN.out] at HO3 ⊢
        go_wp2_with (go_at_call 99; refine (HLI.out _).mono ?_; rintro _ w4 ⟨la, lc, rfl, hl4, hb4⟩; have HAF4 := Lib.hid (HAF3.out.below hbm hb4); have HO4 := Lib.hid (own_below HO3.out hb4); have HL4 := Lib.hid hl4; have hw3 := HAF3.out.fr.size; have HLW := Lib.hid (fun k (e : (Value.slice ea LT.length c3).ownBlock = some k) => own_lt HO3.out e); have e0 := HAF4.out.cell (.tail _ (.head _)) 0; have e1 := HAF4.out.cell (.tail _ (.head _)) 1; have f0 := HAF4.out.thaw (.tail _ (.head _)) 0; have f1 := HAF4.out.thaw (.tail _ (.head _)) 1; have HA5 := Lib.hid (AF.set2 HSW.out HAF4.out (.tail _ (.head _)) (.slice ea LT.length c3) (.slice la LP.length lc) (L' := []) (List.forall_mem_nil _)); clear hl4 hb4)
        have HRW : Hid (WlOwn w.heap.size w4 ⟨ea, c3, la, lc⟩ LT LP) := by
          refine ⟨fun i p hp => ?_, fun i j p q hne hp hq k e1 e2 => ?_⟩
          · match i, hp with
            | 0, hp => cases hp; exact HO4.out
            | 1, hp => cases hp; exact own_mono HL4.out hw3
          · match i, j, hne, hp, hq with
            | 0, 0, hne, _, _ => exact hne rfl
            | 1, 1, hne, _, _ => exact hne rfl
            | 0, 1, _, hp, hq => cases hp; cases hq; have := HLW.out k e1; have := own_low HL4.out e2; omega
            | 1, 0, _, hp, hq => cases hp; cases hq; have := HLW.out k e2; have := own_low HL4.out e1; omega
        have HRX := Lib.hid (Rws.tab HRW.out (HAF4.out.bk _ _ _ (.tail _ (.head _))).2 (List.forall_mem_cons.2 ⟨(show 30 ≠ 3 by decide), List.forall_mem_cons.2 ⟨(show 30 ≠ 3 by decide), List.forall_mem_nil _⟩⟩) ((Fr.set w4 w.heap.size 0 (.slice ea LT.length c3)).trans (Fr.set _ w.heap.size 1 (.slice la LP.length lc))))
        have g0 := HA5.out.cell (.head _) 0
        have g1 := HA5.out.cell (.head _) 1
        exact bodyPost_ret (v := .agg #[.slice ea LT.length c3, .slice la LP.length lc]) (by simp [results, Try.results71, go_sem, g0, g1]) rfl ⟨⟨ea, c3, la, lc⟩, rfl, HRX.out, HA5.out.st.mono (by omega), HA5.out.fr⟩
    · obtain ⟨hbit, hrk, hr1⟩ := HS2.out h0
      have hk8' : k < 8 := by omega
      have HST : Hid (R ++ tl ++ tourF m (s' - 2 ^ k) k (s' - 2 ^ k) = LT) := by
        unfold Hid
        rw [← HR.out, List.append_assoc, tourF_step HOK.out hs' h0 (by rw [hrest]; exact hfr) (by rw [hrest]) hbit hk8 hrk, HTL.out]; rfl
      have HOF := Lib.hid (bit_off ⟨s', hs28⟩ ⟨k, hk8'⟩ hbit)
      have hpo := plc_off ⟨s', hs28⟩ ⟨k, hk8'⟩ hbit
      simp only at hpo
      have hs3 : s' - 2 ^ k < 2 ^ m.nw := Nat.lt_of_le_of_lt (Nat.sub_le _ _) hs'
      have h2k := testBit_le hbit
      have h1k : 1 ≤ 2 ^ k := Nat.one_le_two_pow
      have hdec : s' - 2 ^ k < s' := by omega
      have ks : ((s' : Int) == 0) = false := by simp; omega
      have kk : (0 : Int) ≤ (k : Int) := by omega
      have kk8 : (k : Int) < 8 := by omega
      have HRR2 : Hid (((q + tn : Nat) : Int) + (rest (tmA m) k (s' - 2 ^ k)).1 ≤ 1048577) := Lib.hid (by omega)
      have hcn2 : n' + 200000 + ((plc (s' - 2 ^ k)).length + 1) * 200000 ≤ n + 1800000 := by omega
      clear hrest hr1 hpo h2k h1k HR HTL
      go_wp2_with (go_at_call 98; refine HC.out.mono ?_; rintro _ w1 ⟨rfl, hs1, hf1⟩; have HAF1 := Lib.hid (HAF.out.go hbm hf1 hs1); have HOW1 := Lib.hid (own_fr HOW.out hf1 (fun g' cur _ _ hc e => by subst e; obtain ⟨es, kk, hm⟩ := HAF.out.st.cm.mp; rw [hm] at hc; cases hc)); have y0 := HAF1.out.cell (.head _) 0; have y1 := HAF1.out.cell (.head _) 1; clear hs1 hf1)
      refine (HWK.out _ _ HAF1.out.st).mono ?_; rintro _ w2 ⟨g2, c2, rfl, hown2, hb2⟩; have HAF2 := Lib.hid (HAF1.out.below hbm hb2); have HOW2 := Lib.hid (own_below HOW1.out hb2); have HWO := Lib.hid hown2; have hcp := own_cap hown2; have z0 := HAF2.out.cell (.head _) 0; have z1 := HAF2.out.cell (.head _) 1; clear hown2 hb2
      by_cases hc21 : c2 = 1
      · subst hc21
        have ht0 : tn = 0 := by omega
        subst ht0
        have htl0 : tl = [] := List.eq_nil_of_length_eq_zero HTN.out
        subst htl0
        rw [List.append_nil] at HST
        rw [Nat.add_zero] at HRR2
        go_wp2_with (at_builtin; refine wpList_append_src _ rfl (.tmp 15) (.tmp 21) 26 rfl w.heap.size 3 i0 (.int .i64 0) 1 8 Try.underlying26 hi0 hz0 hz1 hz2 rfl (by decide) (.slice (some ⟨g, 0, none⟩) q c) q xs rfl HOW2.out (some ⟨g2, 0, none⟩) 0 0 [] rfl ⟨rfl, fun j u hu => by cases hu⟩ (fun u hu => by cases hu) ?b1 ?b2 ?b3 ?_)
        case b1 => unfold maxLen; omega
        case b2 => omega
        case b3 => exact HAF2.out.fr.size
        intro v3 w3 hown hgr hlt1
        obtain ⟨ea, c3, rfl⟩ := own_slice' hown
        have HAF3 := Lib.hid (AF.grow HSW.out HAF2.out HOW2.out (List.forall_mem_cons.2 ⟨(show 164 ≠ 3 by decide), List.forall_mem_cons.2 ⟨(show 30 ≠ 3 by decide), List.forall_mem_nil _⟩⟩) (Nat.le_refl _) hgr)
        have HXN : Hid (nL R = xs) := HXS.out
        have HQN : Hid (R.length = q) := HQ.out
        have HO3 : Hid (w3.ownsRow w.heap.size 3 1 (.slice ea q c3) q (nL R)) := by rw [HXN.out]; exact hown
        have u0 := HAF3.out.cell (.head _) 0
        have u1 := HAF3.out.cell (.head _) 1
        clear hown hgr hlt1 x0 y0 y1 z0 z1 hcp HAF HAF1 HAF2 HOW HOW1 HOW2 HWO HC HWK hfl
        obtain ⟨g3, rfl⟩ : ∃ g3, ea = some ⟨g3, 0, none⟩ := by obtain ⟨g3, h⟩ := own_somep HO3.out (by omega); exact ⟨g3, h⟩
        go_upto_region 6 with fail
        have HAX := Lib.hid (HAF3.out.below hbm (Below.refl _ _).drew)
        have HOX := Lib.hid (own_below HO3.out (Below.refl _ _).drew)
        refine wp_region_Z (S := fun X => X.cell? ⟨w.heap.size + 2, 1, none⟩ = some (.int .i64 (s' : Int))) (by kernel_rfl) (HAX.out.cell (.head _) 1) (fun hS => ?_)
        generalize w3.drew = X at *
        refine tk [0, 1, 2, 3, 4] ?_
        repeat (refine tkZ (oi := ⟨_, _, _, _, _, _⟩) (v := ?_) rfl (by kernel_rfl) (by rfl) (fun _ _ _ h => h) hS ?_ ?_; rotate_left; (· intro W' hSw; (try dsimp only at hSw); go_simp; try with_reducible rfl); try simp only [Act.put, putA, putZ, putS])
        refine tk0 ?_
        refine tZ 5 (oi := ⟨_, _, _, _, _, _⟩) (v := .int .i64 ((s' - 2 ^ k : Nat) : Int)) rfl (by kernel_rfl) (by rfl) (fun _ _ _ h => h) hS ?_ ?_
        · intro W' hSw; (try dsimp only at hSw); go_simp; exact HOF.out
        try simp only [Act.put, putA, putZ, putS]
        refine tZ 6 (oi := ⟨_, _, _, _, _, _⟩) (v := ?_) rfl (by kernel_rfl) (by rfl) (fun _ _ _ h => h) hS ?_ ?_
        rotate_left
        · intro W' hSw; (try dsimp only at hSw); go_simp; try with_reducible rfl
        try simp only [Act.put, putA, putZ, putS]
        refine wpAnyZ_next (rs := [7]) (by kernel_rfl) (by simp) ?_
        refine NextZ.last (o := ⟨none, _, _, _, _, _⟩) rfl (by kernel_rfl) (fun K hK => ?_)
        have e0 := HAX.out.cell (.head _) 0
        have e1 := HAX.out.cell (.head _) 1
        have f0 := HAX.out.thaw (.head _) 0
        have f1 := HAX.out.thaw (.head _) 1
        have HA0 := Lib.hid (AF.set2 HSW.out HAX.out (.head _) (.int .i64 (k : Int)) (.int .i64 ((s' - 2 ^ k : Nat) : Int)) (L' := [(w.heap.size, #[.slice none 0 0, .slice none 0 0], 30)]) (List.forall_mem_cons.2 ⟨⟨show w.heap.size ≠ w.heap.size + 2 by omega, (.tail _ (.head _))⟩, List.forall_mem_nil _⟩))
        go_simp
        refine hK.out _ _ ?_
        clear hK K
        (try simp only [Act.put])
        clear e0 e1 f0 f1
        refine wpAnyZ_done (by kernel_rfl) ?_ _
        have HO6 := Lib.hid (own_fr HOX.out ((Go.Proofs.Ytpnkgjkoophckaa.set2 (HAX.out.bk _ _ _ (.head _)).2 (.int .i64 (k : Int)) (.int .i64 ((s' - 2 ^ k : Nat) : Int))).2) (fun g' cur _ _ hc e => by subst e; rw [(HAX.out.bk _ _ _ (.head _)).2] at hc; cases hc))
        have c1 := HA0.out.cell (.head _) 1
        go_wp2_with fail
        go_roundw
        case rel => exact ⟨k, s' - 2 ^ k, n' + 200000, R, g3, c3, by rw [HQN.out], by rw [HQN.out]; omega, hk8, hs3, hrk, hcn2, HST.out, by rw [HQN.out]; exact HRR2.out, HA0.out, by rw [HQN.out]; exact HO6.out⟩
        case measure => simp [intOf, x1, c1]; omega
      · go_wp2_with (at_builtin; refine wpList_append_src _ rfl (.tmp 15) (.tmp 21) 26 rfl w.heap.size 3 i0 (.int .i64 0) 1 8 Try.underlying26 hi0 hz0 hz1 hz2 rfl (by decide) (.slice (some ⟨g, 0, none⟩) q c) q xs rfl HOW2.out (some ⟨g2, 1, none⟩) tn (c2 - 1) (nL tl) rfl (tail_src1 HWO.out HTN.out hc21) (nL_one _) ?b1x ?b2x ?b3x ?_)
        case b1x => unfold maxLen; omega
        case b2x => omega
        case b3x => exact HAF2.out.fr.size
        intro v3 w3 hown hgr hlt1
        obtain ⟨ea, c3, rfl⟩ := own_slice' hown
        have HAF3 := Lib.hid (AF.grow HSW.out HAF2.out HOW2.out (List.forall_mem_cons.2 ⟨(show 164 ≠ 3 by decide), List.forall_mem_cons.2 ⟨(show 30 ≠ 3 by decide), List.forall_mem_nil _⟩⟩) (Nat.le_refl _) hgr)
        have HXN : Hid (nL (R ++ tl) = xs ++ nL tl) := by unfold Hid; rw [← HXS.out]; simp [nL]
        have HQN : Hid ((R ++ tl).length = q + tn) := by unfold Hid; rw [List.length_append, HQ.out, HTN.out]
        have HO3 : Hid (w3.ownsRow w.heap.size 3 1 (.slice ea (q + tn) c3) (q + tn) (nL (R ++ tl))) := by rw [HXN.out]; exact hown
        have u0 := HAF3.out.cell (.head _) 0
        have u1 := HAF3.out.cell (.head _) 1
        clear hown hgr hlt1 x0 y0 y1 z0 z1 hcp HAF HAF1 HAF2 HOW HOW1 HOW2 HWO HC HWK hfl
        obtain ⟨g3, rfl⟩ : ∃ g3, ea = some ⟨g3, 0, none⟩ := by obtain ⟨g3, h⟩ := own_somep HO3.out (by omega); exact ⟨g3, h⟩
        go_upto_region 6 with fail
        have HAX := Lib.hid (HAF3.out.below hbm (Below.refl _ _).drew)
        have HOX := Lib.hid (own_below HO3.out (Below.refl _ _).drew)
        refine wp_region_Z (S := fun X => X.cell? ⟨w.heap.size + 2, 1, none⟩ = some (.int .i64 (s' : Int))) (by kernel_rfl) (HAX.out.cell (.head _) 1) (fun hS => ?_)
        generalize w3.drew = X at *
        refine tk [0, 1, 2, 3, 4] ?_
        repeat (refine tkZ (oi := ⟨_, _, _, _, _, _⟩) (v := ?_) rfl (by kernel_rfl) (by rfl) (fun _ _ _ h => h) hS ?_ ?_; rotate_left; (· intro W' hSw; (try dsimp only at hSw); go_simp; try with_reducible rfl); try simp only [Act.put, putA, putZ, putS])
        refine tk0 ?_
        refine tZ 5 (oi := ⟨_, _, _, _, _, _⟩) (v := .int .i64 ((s' - 2 ^ k : Nat) : Int)) rfl (by kernel_rfl) (by rfl) (fun _ _ _ h => h) hS ?_ ?_
        · intro W' hSw; (try dsimp only at hSw); go_simp; exact HOF.out
        try simp only [Act.put, putA, putZ, putS]
        refine tZ 6 (oi := ⟨_, _, _, _, _, _⟩) (v := ?_) rfl (by kernel_rfl) (by rfl) (fun _ _ _ h => h) hS ?_ ?_
        rotate_left
        · intro W' hSw; (try dsimp only at hSw); go_simp; try with_reducible rfl
        try simp only [Act.put, putA, putZ, putS]
        refine wpAnyZ_next (rs := [7]) (by kernel_rfl) (by simp) ?_
        refine NextZ.last (o := ⟨none, _, _, _, _, _⟩) rfl (by kernel_rfl) (fun K hK => ?_)
        have e0 := HAX.out.cell (.head _) 0
        have e1 := HAX.out.cell (.head _) 1
        have f0 := HAX.out.thaw (.head _) 0
        have f1 := HAX.out.thaw (.head _) 1
        have HA1 := Lib.hid (AF.set2 HSW.out HAX.out (.head _) (.int .i64 (k : Int)) (.int .i64 ((s' - 2 ^ k : Nat) : Int)) (L' := [(w.heap.size, #[.slice none 0 0, .slice none 0 0], 30)]) (List.forall_mem_cons.2 ⟨⟨show w.heap.size ≠ w.heap.size + 2 by omega, (.tail _ (.head _))⟩, List.forall_mem_nil _⟩))
        go_simp
        refine hK.out _ _ ?_
        clear hK K
        (try simp only [Act.put])
        clear e0 e1 f0 f1
        refine wpAnyZ_done (by kernel_rfl) ?_ _
        have HO6 := Lib.hid (own_fr HOX.out ((Go.Proofs.Ytpnkgjkoophckaa.set2 (HAX.out.bk _ _ _ (.head _)).2 (.int .i64 (k : Int)) (.int .i64 ((s' - 2 ^ k : Nat) : Int))).2) (fun g' cur _ _ hc e => by subst e; rw [(HAX.out.bk _ _ _ (.head _)).2] at hc; cases hc))
        have c1 := HA1.out.cell (.head _) 1
        go_wp2_with fail
        go_roundw
        case rel => exact ⟨k, s' - 2 ^ k, n' + 200000, R ++ tl, g3, c3, by rw [HQN.out], by rw [HQN.out]; omega, hk8, hs3, hrk, hcn2, HST.out, by rw [HQN.out]; exact HRR2.out, HA1.out, by rw [HQN.out]; exact HO6.out⟩
        case measure => simp [intOf, x1, c1]; omega
end Go.Proofs.Ytpnkgjkoophckaa
