/- FlowFurther: the walk. Printed by gen_ig.py. -/
import Derived.Test.YtjaoflfophcibaaIC
import Derived.Test.YtjaoflfophcibaaIF
import Derived.Test.YtjaoflfophcibaaGO
namespace Go.Proofs.Ytjaoflfophcibaa
open Go.RowKit Go.Shelf

theorem RsIn.congr {w : World} {v : Value} {n : Nat} {R R' : Nat → R2} (h : RsIn w v n R) (e : ∀ j, j < n → R j = R' j) : RsIn w v n R' := by
  rcases h with h | ⟨b, off, cap, rfl, hb, hz⟩
  · exact .inl h
  · exact .inr ⟨b, off, cap, rfl, hb, fun j hj => by rw [← e j hj]; exact hz j hj⟩
theorem LvR.born {W : World} {t : Tb} {nw : Nat} {z : Nat → Int} {T1 T2 T3 : Value} (h : LvR W t nw z 0 T1 T2 T3) (b : R2) :
    ∃ (y : Tb) (u : WV), T1 = .agg #[u.cv y, u.bv y, u.rv y, u.nv y] ∧ WLi W u y ∧ y.small ∧ Okt y ∧ y.agree off0 = true ∧ y.b y.nb = b := by
  obtain ⟨u, y, x, sa, sc, rfl, _, _, hw, _, _, hf, hg, _, _, _, hc⟩ := h.ex
  have ht := Okt.of_fault h.ft
  have hy := Okt.of_fault hf
  have hl := Liv.of ht hg hc hf
  refine ⟨(t.cnted x nw z 0).born b, u, rfl, ⟨hw.1, hw.2.1.congr (fun j hj => (if_neg (show ¬ j = (t.cnted x nw z 0).nb by omega)).symm), hw.2.2.1, hw.2.2.2⟩, cnted_small ht x nw z 0, born_ok hy, ?_, if_pos rfl⟩
  rw [born_agree hy]
  exact hl.agree
theorem slice_take {w : World} {b off n m cap cap' : Nat} {rl : Nat → Nat} {ct : Nat → Nat → R2} (h : RowsAt w (.slice (some ⟨b, off, none⟩) n cap) n rl ct) (hm : m ≤ n) : RowsAt w (.slice (some ⟨b, off, none⟩) m cap') m rl ct := by
  rcases h with ⟨h, _⟩ | ⟨b, off, cap, h, hb, hz⟩
  · cases h
  · cases h
    exact .inr ⟨b, off, _, rfl, hb, fun j hj => hz j (by omega)⟩
theorem slice_drop {w : World} {b n m cap cap' : Nat} {rl : Nat → Nat} {ct : Nat → Nat → R2} (h : RowsAt w (.slice (some ⟨b, 0, none⟩) n cap) n rl ct) (hm : m ≤ n) : RowsAt w (.slice (some ⟨b, m, none⟩) (n - m) cap') (n - m) (fun j => rl (m + j)) (fun j => ct (m + j)) := by
  rcases h with ⟨h, _⟩ | ⟨b, off, cap, h, hb, hz⟩
  · cases h
  · cases h
    refine .inr ⟨b, m, _, rfl, hb, fun j hj => ?_⟩
    obtain ⟨rv, h1, h2⟩ := hz (m + j) (by omega)
    rw [Nat.zero_add] at h1
    exact ⟨rv, h1, h2⟩
theorem rows_one {w : World} {J : Nat} {v : Value} {T : TypeId} {n : Nat} {R : Nat → R2} (h : w.heap[J]? = some (.cells #[v] T (0, 0))) (hv : RsAt w v n R) : RowsAt w (.slice (some ⟨J, 0, none⟩) 1 1) 1 (fun _ => n) (fun _ => R) := by
  refine .inr ⟨J, 0, 1, rfl, (Array.getElem?_eq_some_iff.1 h).1, fun j hj => ?_⟩
  obtain rfl : j = 0 := by omega
  exact ⟨v, cell_of_row _ _ 0 _ _ _ h, hv⟩
theorem RsIn.get {w : World} {b o n c k : Nat} {R : Nat → R2} (h : RsIn w (.slice (some ⟨b, o, none⟩) n c) n R) (hk : k < n) : b < w.heap.size ∧ w.cell? ⟨b, o + k * 2, none⟩ = some (.int .i64 (R k).1) ∧ w.cell? ⟨b, o + k * 2 + 1, none⟩ = some (.int .i64 (R k).2) := by
  obtain ⟨b', o', e, h1, h2⟩ := h.at hk
  cases e
  exact ⟨h1, h2⟩
section
variable {base : Nat} {w X Y : World} {L : List OR} {Lb : List (Nat × Array Value × TypeId)}
theorem Rws.app2 {i sz n n' : Nat} {T : TypeId} {v v' : Value} {xs xs' : List Value} (h : Rws base X L) (hi : L[i]? = some ⟨T, sz, v, n, xs⟩) (ho : Y.ownsRow base T sz v' n' xs') (hg : X.grownBy Y v.ownBlock) (hl : v'.ownBlock = v.ownBlock ∨ v'.ownBlock = some X.heap.size) :
    Rws base Y (L.set i ⟨T, sz, v', n', xs'⟩) := by
  have hlt : ∀ (j : Nat) (p : OR), L[j]? = some p → ∀ k, p.v.ownBlock = some k → k < X.heap.size := fun j p hp k e => own_lt (h.own j p hp) e
  have hne : ∀ (j : Nat) (p : OR), i ≠ j → L[j]? = some p → ∀ k, p.v.ownBlock = some k → v'.ownBlock ≠ some k := fun j p hne hp k e1 e2 => by
    rcases hl with e | e
    · exact h.dis i j _ p hne hi hp k (by rw [← e]; exact e2) e1
    · rw [e] at e2
      have e2 := Option.some.inj e2
      have := hlt j p hp k e1
      omega
  refine ⟨fun j p hp => ?_, fun j j' p q hjj hp hq k e1 e2 => ?_⟩
  · rw [List.getElem?_set] at hp
    by_cases e : i = j
    · rw [if_pos e] at hp
      split at hp
      · cases hp; exact ho
      · cases hp
    · rw [if_neg e] at hp
      exact own_fr (h.own j p hp) (Fr.grown hg) (fun k _ e1 _ _ e2 => h.dis i j _ p e hi hp k e2 e1)
  · rw [List.getElem?_set] at hp hq
    by_cases e : i = j
    · rw [if_pos e] at hp
      rw [if_neg (show ¬ i = j' by omega)] at hq
      split at hp
      · cases hp; exact hne j' q (by omega) hq k e2 e1
      · cases hp
    · rw [if_neg e] at hp
      by_cases e' : i = j'
      · rw [if_pos e'] at hq
        split at hq
        · cases hq; exact hne j p e hp k e1 e2
        · cases hq
      · rw [if_neg e'] at hq
        exact h.dis j j' p q hjj hp hq k e1 e2
theorem own_new (X : World) (E size n : Nat) (base : Nat) (cs : Array Value) (hb : base ≤ X.heap.size) (hc : cs.size = n * size) (hn : n ≤ maxLen) : (X.alloc (.cells cs E)).ownsRow base E size (.slice (some ⟨X.heap.size, 0, none⟩) n n) n cs.toList :=
  ⟨by rw [Array.length_toList]; exact hc, .inr ⟨X.heap.size, n, cs, rfl, hb, heap_alloc_new _ _, Nat.le_refl _, hn, by rw [hc], by rw [← hc, ← Array.length_toList, List.take_length]⟩⟩
/-- A new block becomes row i, which was empty. -/
theorem Rws.new {i sz n : Nat} {T : TypeId} {cs : Array Value} (h : Rws base X L) (hi : L[i]? = some ⟨T, sz, .slice none 0 0, 0, []⟩) (hb : base ≤ X.heap.size) (hc : cs.size = n * sz) (hn : n ≤ maxLen) : Rws base (X.alloc (.cells cs T)) (L.set i ⟨T, sz, .slice (some ⟨X.heap.size, 0, none⟩) n n, n, cs.toList⟩) :=
  h.app2 hi (own_new X T sz n base cs hb hc hn) ⟨rfl, rfl, rfl, by simp, fun k hk _ => Below.heap_alloc _ _ _ hk⟩ (.inr rfl)
end
theorem own_src {X : World} {base T sz n g c : Nat} {xs : List Value} (h : X.ownsRow base T sz (.slice (some ⟨g, 0, none⟩) n c) n xs) : Src X (some ⟨g, 0, none⟩) sz n xs := by
  refine ⟨h.1, fun j u hu => ⟨_, rfl, ?_⟩⟩
  have hj := (List.getElem?_eq_some_iff.1 hu).1
  rw [addr_add, Nat.zero_add]
  rw [h.cellAt j (by have := h.1; omega)]
  exact hu
theorem Rws.start3 {base : Nat} {X : World} {T T' : TypeId} {sz sz' n : Nat} {v : Value} {xs : List Value} (h : X.ownsRow base T sz v n xs) :
    Rws base X [⟨T, sz, v, n, xs⟩, ⟨T', sz', .slice none 0 0, 0, []⟩, ⟨T, sz, .slice none 0 0, 0, []⟩, ⟨T, sz, .slice none 0 0, 0, []⟩] := by
  refine ⟨fun i p hp => ?_, fun i j p q hne hp hq k e1 e2 => ?_⟩
  · match i, hp with
    | 0, hp => cases hp; exact h
    | 1, hp => cases hp; exact ⟨by simp, .inl ⟨rfl, rfl⟩⟩
    | 2, hp => cases hp; exact ⟨by simp, .inl ⟨rfl, rfl⟩⟩
    | 3, hp => cases hp; exact ⟨by simp, .inl ⟨rfl, rfl⟩⟩
    | i + 4, hp => cases hp
  · match i, hp with
    | 0, hp =>
      match j, hq with
      | 0, _ => exact hne rfl
      | 1, hq => cases hq; cases e2
      | 2, hq => cases hq; cases e2
      | 3, hq => cases hq; cases e2
      | j + 4, hq => cases hq
    | 1, hp => cases hp; cases e1
    | 2, hp => cases hp; cases e1
    | 3, hp => cases hp; cases e1
    | i + 4, hp => cases hp
theorem grow_wli {w0 X : World} {y : Tb} {hb hc bc rb rc : Nat} {ba ra na : Option Addr} {rrc nnc : Nat} {F : Nat → Value} {base : Nat} (hr : RsIn w0 (.slice ra y.nr rrc) y.nr y.r ∧ RsIn w0 (.slice na y.nn nnc) y.nn y.n) (hF : ∀ j, j < y.nc → RsIn w0 (F j) (y.rl j) (y.ct j)) (hX : Below w0.heap.size w0 X)
    (h1 : X.ownsRow base 43 2 (.slice (some ⟨rb, 0, none⟩) y.ng rc) y.ng (flatR (y.before off0 y.nc) y.ng))
    (h2 : X.ownsRow base 23 1 (.slice (some ⟨hb, 0, none⟩) (y.nc + 1) hc) (y.nc + 1) ((List.range y.nc).map F ++ [.slice (some ⟨rb, 0, none⟩) y.ng rc]))
    (h3 : X.ownsRow base 43 2 (.slice ba (y.nb + 1) bc) (y.nb + 1) (flatR y.b y.nb ++ [.int .i64 (y.b y.nb).1, .int .i64 (y.b y.nb).2])) :
    WLi X ⟨some ⟨hb, 0, none⟩, hc, ba, bc, ra, rrc, na, nnc⟩ y.grow := by
  rw [← flatR_succ] at h3
  refine ⟨.inr ⟨hb, 0, hc, rfl, own_lt h2 rfl, fun j hj => ?_⟩, (RsAt.ownT h3).toIn, hr.1.below hX, hr.2.below hX⟩
  rw [Nat.zero_add]
  have hj' : j < y.nc + 1 := hj
  have hcell := h2.cellAt j (by omega)
  by_cases e : j = y.nc
  · subst e
    rw [List.getElem?_append_right (by simp)] at hcell
    simp only [List.length_map, List.length_range, Nat.sub_self, List.getElem?_cons_zero] at hcell
    refine ⟨_, hcell, ?_⟩
    show RsIn X _ (if y.nc = y.nc then y.ng else y.rl y.nc) (fun g => if y.nc = y.nc then y.before off0 y.nc g else y.ct y.nc g)
    rw [if_pos rfl]
    exact ((RsAt.ownT h1).toIn).congr (fun g _ => (if_pos rfl).symm)
  · rw [List.getElem?_append_left (by simp; omega), map_get (by omega)] at hcell
    refine ⟨_, hcell, ?_⟩
    show RsIn X _ (if j = y.nc then y.ng else y.rl j) (fun g => if j = y.nc then y.before off0 y.nc g else y.ct j g)
    rw [if_neg e]
    exact ((hF j (by omega)).below hX).congr (fun g _ => (if_neg e).symm)
theorem grow_small {y : Tb} (h : y.small) (hy : Okt y) : y.grow.small := by
  have h1 := hy.nc4; have h2 := hy.ng4; have h3 := hy.nb
  refine ⟨by show y.nc + 1 ≤ 100000; omega, fun c => ?_, by show y.nb + 1 ≤ 100000; omega, h.2.2.2.1, h.2.2.2.2⟩
  show (if c = y.nc then y.ng else y.rl c) ≤ 100000
  split
  · omega
  · exact h.2.1 c
theorem widerB_eq {n : Nat} {rl rl' : Nat → Nat} {ct ct' : Nat → Nat → R2} (h : ∀ i, i < n → rl i = rl' i ∧ ∀ k, k < rl i → ct i k = ct' i k) : widerB n n rl rl' ct ct' = true :=
  widerB_of (fun i hi => ⟨(h i hi).1, fun k hk => by rw [(h i hi).2 k hk]; exact ⟨Int.le_refl _, Int.le_refl _⟩⟩)
set_option maxRecDepth 100000 in
set_option maxHeartbeats 8000000 in
theorem flowFurther_walk (u : WV) (t : Tb) (wv : Value) (nw : Nat) (z : Nat → Int) (b0 b1 : Int) (w : World) (h0 : TbLaw w u t) (hw : WordsIn w wv nw z) (hn : nw ≤ maxLen) :
    Calls Try.prog 11 #[.agg #[u.cv t, u.bv t, u.rv t, u.nv t], wv, .agg #[.int .i64 b0, .int .i64 b1]] w fun e w' => e = .returned (.bool true) ∧ Below w.heap.size w w' := by
  have LV0 := Lib.hid (fun (X : World) (hX : Below w.heap.size w X) => lives_any u t wv nw z 0 h0.big h0.z X (h0.l.below hX) h0.cc h0.cb (hw.below hX) hn (by omega) (by omega))
  have HAW := Lib.hid awake_any
  obtain ⟨i0, hi0, hz0, hz1, hz2⟩ := info_parts Try.infoRangeR
  obtain ⟨i1, hi1, hy0, hy1, hy2⟩ := info_parts Try.infoRangesR
  obtain ⟨wa, wc, rfl⟩ := hw.len
  clear h0 hw hn
  simp only [WV.cv, WV.bv, WV.rv, WV.nv] at LV0 ⊢
  have HA0 : Hid (BF w ((w.alloc (.cells #[.slice u.ca t.nc u.cc, .slice u.ba t.nb u.bc, .slice u.ra t.nr u.rc, .slice u.na t.nn u.nc] 25)).alloc (.cells #[.int .i64 b0, .int .i64 b1] 43)) [(w.heap.size, #[.slice u.ca t.nc u.cc, .slice u.ba t.nb u.bc, .slice u.ra t.nr u.rc, .slice u.na t.nn u.nc], 25), (w.heap.size + 1, #[.int .i64 b0, .int .i64 b1], 43)]) := BF.made2 w _ _ _ _
  have k0 := HA0.out.cell (.head _) 0
  have k1 := HA0.out.cell (.head _) 1
  have k2 := HA0.out.cell (.head _) 2
  have k3 := HA0.out.cell (.head _) 3
  go_enter Try.func11, Try.ntmps11
  go_wp2_with fail
  refine (LV0.out _ HA0.out.fr).mono ?_
  rintro _ w5 ⟨V1, U1, T3, b, rfl, hb5, hlv⟩
  have HA5 := Lib.hid (HA0.out.below hb5)
  have HLR := Lib.hid hlv
  clear hb5 hlv HA0 LV0 k0 k1 k2 k3
  cases b
  · go_wp2_with (go_at_call 18; refine (HAW.out _).mono ?_; rintro _ w9 ⟨rfl, hb9⟩; have HB9 := Lib.hid (below_step (HA5.out.fr.trans ((below_step (below_alloc w5 (.cells #[.slice V1.p0 V1.l0 V1.c0, .slice V1.p1 V1.l1 V1.c1, .slice V1.p2 V1.l2 V1.c2, .slice V1.p3 V1.l3 V1.c3] 25)) (below_alloc _ (.cells #[.slice U1.p0 U1.l0 U1.c0, .slice U1.p1 U1.l1 U1.c1, .slice U1.p2 U1.l2 U1.c2, .slice U1.p3 U1.l3 U1.c3] 75))).mono HA5.out.fr.size)) hb9); clear hb9)
    go_ret
    exact ⟨rfl, HB9.out⟩
  obtain ⟨y, v, hv, hwl5, hys, hok, hag, hbt⟩ := (HLR.out rfl).born (b0, b1)
  obtain ⟨p0, l0, e0, p1, l1, e1, p2, l2, e2, p3, l3, e3⟩ := V1
  simp only [WV.cv, WV.bv, WV.rv, WV.nv, Value.agg.injEq, Value.slice.injEq, Array.mk.injEq, List.cons.injEq, and_true] at hv
  obtain ⟨⟨rfl, rfl, rfl⟩, ⟨rfl, rfl, rfl⟩, ⟨rfl, rfl, rfl⟩, rfl, rfl, rfl⟩ := hv
  obtain ⟨vca, vcc, vba, vbc, vra, vrc, vna, vnc⟩ := v
  have yng2 := hok.ng2; have yng4 := hok.ng4; have ync4 := hok.nc4; have ync1 := hok.nc1; have nb9 : y.nb ≤ 9 := by have := hok.nb; omega
  have nn9 : y.nn ≤ 9 := by have := hok.nn; omega
  have HNB := Lib.hid hok.nb; have HNN := Lib.hid hok.nn
  have HSP := Lib.hid (span_any b0 b1 0 500)
  have HA6 : Hid (BF w ((w5.alloc (.cells #[.slice vca y.nc vcc, .slice vba y.nb vbc, .slice vra y.nr vrc, .slice vna y.nn vnc] 25)).alloc (.cells #[.slice U1.p0 U1.l0 U1.c0, .slice U1.p1 U1.l1 U1.c1, .slice U1.p2 U1.l2 U1.c2, .slice U1.p3 U1.l3 U1.c3] 75)) [(w5.heap.size, #[.slice vca y.nc vcc, .slice vba y.nb vbc, .slice vra y.nr vrc, .slice vna y.nn vnc], 25), (w.heap.size + 1, #[.int .i64 b0, .int .i64 b1], 43)]) := ((HA5.out.alloc #[.slice vca y.nc vcc, .slice vba y.nb vbc, .slice vra y.nr vrc, .slice vna y.nn vnc] 25).below (below_alloc _ _)).sub (List.forall_mem_cons.2 ⟨.head _, List.forall_mem_cons.2 ⟨.tail _ (.tail _ (.head _)), List.forall_mem_nil _⟩⟩)
  have HB56 : Hid (Below w5.heap.size w5 ((w5.alloc (.cells #[.slice vca y.nc vcc, .slice vba y.nb vbc, .slice vra y.nr vrc, .slice vna y.nn vnc] 25)).alloc (.cells #[.slice U1.p0 U1.l0 U1.c0, .slice U1.p1 U1.l1 U1.c1, .slice U1.p2 U1.l2 U1.c2, .slice U1.p3 U1.l3 U1.c3] 75))) := below_step (below_alloc _ _) (below_alloc _ _)
  have q0 := HA6.out.cell (.tail _ (.head _)) 0
  have q1 := HA6.out.cell (.tail _ (.head _)) 1
  clear HA5 HLR
  cases hsp : insideR (b0, b1) 0 500
  · go_wp2_with (first | (go_at_call 32; refine (HSP.out _).mono ?_; rw [hsp]; rintro _ w7 ⟨rfl, hb7⟩; have HA7 := Lib.hid (HA6.out.below hb7); clear hb7) | (go_at_call 18; refine (HAW.out _).mono ?_; rintro _ w9 ⟨rfl, hb9⟩; have HB9 := Lib.hid (HA7.out.below hb9).fr; clear hb9))
    go_ret
    exact ⟨rfl, HB9.out⟩
  have hbb : 0 ≤ (y.b y.nb).1 ∧ (y.b y.nb).1 ≤ (y.b y.nb).2 ∧ (y.b y.nb).2 ≤ 500 := by
    rw [hbt]
    unfold insideR at hsp
    simp only [Bool.and_eq_true, decide_eq_true_eq] at hsp
    exact ⟨hsp.1.1, hsp.1.2, hsp.2⟩
  have hcb : isCountR (b0, b1) = true := hsp
  go_wp2_with (go_at_call 32; refine (HSP.out _).mono ?_; rw [hsp]; rintro _ w7 ⟨rfl, hb7⟩; have HB7 := Lib.hid hb7; clear hb7)
  have hwl6 := hwl5.below HB56.out
  generalize ((w5.alloc (.cells #[.slice vca y.nc vcc, .slice vba y.nb vbc, .slice vra y.nr vrc, .slice vna y.nn vnc] 25)).alloc (.cells #[.slice U1.p0 U1.l0 U1.c0, .slice U1.p1 U1.l1 U1.c1, .slice U1.p2 U1.l2 U1.c2, .slice U1.p3 U1.l3 U1.c3] 75)) = w6 at *
  have HOK := Lib.hid hok; have HAG := Lib.hid hag; have HYS := Lib.hid hys; have HBB := Lib.hid hbb; have HBT := Lib.hid hbt
  obtain ⟨qn, on, rfl, _⟩ := hwl6.2.2.2.at (k := 0) (by have := HNN.out; omega)
  obtain ⟨qc, oc, F, rfl, hqc, hF⟩ := rows_fn hwl6.1 (by omega)
  have HWL := Lib.hid hwl6; have HF := Lib.hid hF
  clear hwl5 hwl6 hF hok hag hys hbb hbt q0 q1 hsp HSP HB56
  have HC6 : Hid (∀ X, Below w6.heap.size w6 X → (X.cell? ⟨w5.heap.size, 0, none⟩ = some (.slice (some ⟨qc, oc, none⟩) y.nc vcc) ∧ X.cell? ⟨w5.heap.size, 1, none⟩ = some (.slice vba y.nb vbc) ∧ X.cell? ⟨w5.heap.size, 2, none⟩ = some (.slice vra y.nr vrc) ∧ X.cell? ⟨w5.heap.size, 3, none⟩ = some (.slice (some ⟨qn, on, none⟩) y.nn vnc) ∧ X.cell? ⟨w.heap.size + 1, 0, none⟩ = some (.int .i64 b0) ∧ X.cell? ⟨w.heap.size + 1, 1, none⟩ = some (.int .i64 b1))) := fun X hX => by
    have h := HA6.out.below hX
    exact ⟨h.cell (.head _) 0, h.cell (.head _) 1, h.cell (.head _) 2, h.cell (.head _) 3, h.cell (.tail _ (.head _)) 0, h.cell (.tail _ (.head _)) 1⟩
  have HTB : Hid (∀ X, Below w6.heap.size w6 X → Calls Try.prog 20 #[.agg #[.slice (some ⟨qc, oc, none⟩) y.nc vcc, .slice vba y.nb vbc, .slice vra y.nr vrc, .slice (some ⟨qn, on, none⟩) y.nn vnc]] X fun e w' => ∃ v' : WV, e = .returned (.agg #[v'.cv y, v'.bv y, v'.rv y, v'.nv y]) ∧ WL w' v' y ∧ Below X.heap.size X w') := fun X hX => table_any ⟨some ⟨qc, oc, none⟩, vcc, vba, vbc, vra, vrc, some ⟨qn, on, none⟩, vnc⟩ y HYS.out X (HWL.out.below hX)
  have HBD : Hid (∀ (X : World) (v' : WV), WL X v' y → Calls Try.prog 39 #[.agg #[v'.cv y, v'.bv y, v'.rv y, v'.nv y]] X fun e w' => ∃ OB, e = .returned (.tuple #[.slice (some ⟨OB, 0, none⟩) y.nc y.nc, .int .i64 0]) ∧ RowsAt w' (.slice (some ⟨OB, 0, none⟩) y.nc y.nc) y.nc (fun _ => y.ng) (bndR y off0) ∧ Below X.heap.size X w') := fun X v' h => Bounds_okS v' y HYS.out X h HOK.out.fault0 HAG.out (fun c g hc hg => agree_ne HAG.out (by omega) c g hc hg)
  have HPJ : Hid ((∀ g, g < y.ng → 0 ≤ (y.n g).2) → ∀ (X : World) (v' : WV), WL X v' y → Calls Try.prog 31 #[.agg #[v'.cv y, v'.bv y, v'.rv y, v'.nv y], .agg #[.int .i64 b0, .int .i64 b1]] X fun e w' => ∃ pb po pc, e = .returned (.tuple #[.slice (some ⟨pb, po, none⟩) y.ng pc, .int .i64 0]) ∧ RsAt w' (.slice (some ⟨pb, po, none⟩) y.ng pc) y.ng (y.before off0 y.nc) ∧ Below X.heap.size X w') := fun hpos X v' h => by
    refine (Project_ok v' y HYS.out X h HOK.out.fault0 b0 b1 HBT.out hcb HAG.out).mono ?_
    rintro e w' ⟨⟨⟨g, hg, hge⟩, _⟩ | ⟨_, pv, rfl, hrs⟩, hb⟩
    · rw [proj_ne HOK.out HBB.out (ups_of HOK.out HAG.out) hpos hg] at hge; cases hge
    · obtain ⟨pb, po, pc, rfl, _⟩ := hrs.two (by omega)
      exact ⟨pb, po, pc, rfl, hrs, hb⟩
  simp only [WV.cv, WV.bv, WV.rv, WV.nv] at HTB HBD HPJ
  go_loopw [11] (fun i wr => ∃ k : Nat, k ≤ y.nn ∧ i = .int .i64 k ∧ Below w6.heap.size w6 wr ∧ ∀ g, g < k → 0 ≤ (y.n g).2) (fun i _ => y.nn - (intOf i).toNat)
  case atStart => exact ⟨0, Nat.zero_le _, rfl, HB7.out, fun _ h => absurd h (Nat.not_lt_zero _)⟩
  case round =>
    obtain ⟨k, hk, rfl, hbx, hall⟩ := hrel
    rename World => wx
    have HBX := Lib.hid hbx; have HALL := Lib.hid hall
    clear hbx hall HB7
    have ki : (0 : Int) ≤ (k : Int) := by omega
    have c3 := (HC6.out wx HBX.out).2.2.2.1
    by_cases hlt : k < y.nn
    · have kj : (k : Int) < (y.nn : Int) := by omega
      obtain ⟨hqn, _, x2⟩ := HWL.out.2.2.2.get hlt
      obtain ⟨m, hm⟩ : ∃ m, (y.n k).2 = m := ⟨_, rfl⟩
      have HM := Lib.hid hm
      rw [hm] at x2
      have x3 := kept HBX.out hqn x2
      clear x2 hm hqn
      by_cases hneg : m < 0
      · go_wp2_with (go_at_call 18; refine (HAW.out _).mono ?_; rintro _ w9 ⟨rfl, hb9⟩; have HB9 := Lib.hid ((HA6.out.below HBX.out).below hb9).fr; clear hb9)
        go_ret
        exact ⟨rfl, HB9.out⟩
      · go_wp2_with fail
        go_roundw
        case rel => exact ⟨k + 1, by omega, by go_num, HBX.out, fun g hg => by
          rcases Nat.lt_succ_iff_lt_or_eq.1 hg with h | rfl
          · exact HALL.out g h
          · rw [HM.out]; omega⟩
        case measure => simp [intOf]; omega
    · obtain rfl : k = y.nn := by omega
      have hpos : ∀ g, g < y.ng → 0 ≤ (y.n g).2 := fun g hg => HALL.out g (by rw [HNN.out]; exact hg)
      have HPJ2 := Lib.hid (HPJ.out hpos)
      have HPOS := Lib.hid hpos
      clear HALL HPJ hpos
      go_wp2_with fail
      go_cut [12, 13] (fun s12 s13 wy => ∃ pb po pc, s12 = .slice (some ⟨pb, po, none⟩) y.ng pc ∧ s13 = .int .i64 0 ∧ RsAt wy s12 y.ng (y.before off0 y.nc) ∧ Below w6.heap.size w6 wy)
      case first => as_aux_lemma =>
        have HAX := Lib.hid (HBX.out.drew)
        refine wp_region_held_drew (S := fun X => X.cell? ⟨w5.heap.size, 0, none⟩ = some (.slice (some ⟨qc, oc, none⟩) y.nc vcc) ∧ X.cell? ⟨w5.heap.size, 1, none⟩ = some (.slice vba y.nb vbc) ∧ X.cell? ⟨w5.heap.size, 2, none⟩ = some (.slice vra y.nr vrc) ∧ X.cell? ⟨w5.heap.size, 3, none⟩ = some (.slice (some ⟨qn, on, none⟩) y.nn vnc) ∧ X.cell? ⟨w.heap.size + 1, 0, none⟩ = some (.int .i64 b0) ∧ X.cell? ⟨w.heap.size + 1, 1, none⟩ = some (.int .i64 b1)) (by kernel_rfl) (HC6.out _ HAX.out) (fun hS => ?_)
        generalize wx.drew = X at *
        refine tk [0, 2] ?_
        repeat (refine tkH (oi := ⟨_, _, _, _, _, _⟩) (v := ?_) rfl (by kernel_rfl) (by rfl) (fun _ _ _ h => h) hS ?_ ?_; rotate_left; (· rintro W' ⟨z0, z1, z2, z3, z4, z5⟩; go_simp; try with_reducible rfl); try simp only [Act.put, putA, putZ, putS])
        refine tk0 ?_
        refine wpAnyH_ready (rs := [1]) (by kernel_rfl) (by simp) ?_
        refine AllReadyH.cons (o := ⟨some 54, _, _, _, _, _⟩) rfl (fun K hK => ?_) AllReadyH.nil
        go_simp
        refine (HTB.out _ HAX.out).mono ?_
        rintro _ X0 ⟨vT, rfl, hlT, hb0⟩
        (try go_wp2_with fail)
        have HA0 := Lib.hid (below_step HAX.out hb0)
        have HT0 := Lib.hid hlT
        refine hK.out _ _ (HC6.out X0 HA0.out) (fun hS => ?_)
        clear hK K
        try simp only [Act.put, putA, putZ, putS]
        clear hb0 hlT
        refine wpAnyH_ready (rs := [3]) (by kernel_rfl) (by simp) ?_
        refine AllReadyH.cons (o := ⟨some 56, _, _, _, _, _⟩) rfl (fun K hK => ?_) AllReadyH.nil
        go_simp
        refine (to_any b0 b1 _).mono ?_
        rintro _ X1 ⟨rfl, hb1⟩
        (try go_wp2_with fail)
        have HA1 := Lib.hid (below_step HA0.out hb1)
        have HT1 := Lib.hid (HT0.out.below hb1)
        refine hK.out _ _ (HC6.out X1 HA1.out) (fun hS => ?_)
        clear hK K
        try simp only [Act.put, putA, putZ, putS]
        clear hb1
        refine wpAnyH_ready (rs := [4]) (by kernel_rfl) (by simp) ?_
        refine AllReadyH.cons (o := ⟨some 57, _, _, _, _, _⟩) rfl (fun K hK => ?_) AllReadyH.nil
        go_simp
        refine (HPJ2.out _ _ HT1.out).mono ?_
        rintro _ X2 ⟨pb, po, pc, rfl, hrp, hb2⟩
        (try go_wp2_with fail)
        have HA2 := Lib.hid (below_step HA1.out hb2)
        have HRP := Lib.hid hrp
        refine hK.out _ _ (HC6.out X2 HA2.out) (fun hS => ?_)
        clear hK K
        try simp only [Act.put, putA, putZ, putS]
        clear hb2 hrp
        refine tk [5, 6, 7, 8, 9] ?_
        repeat (refine tkH (oi := ⟨_, _, _, _, _, _⟩) (v := ?_) rfl (by kernel_rfl) (by rfl) (fun _ _ _ h => h) hS ?_ ?_; rotate_left; (· rintro W' ⟨z0, z1, z2, z3, z4, z5⟩; go_simp; try with_reducible rfl); try simp only [Act.put, putA, putZ, putS])
        refine tk0 ?_
        refine wpAnyH_done (by kernel_rfl) ?_ _
        go_wp2_with fail
        go_meet
        exact ⟨pb, po, pc, rfl, rfl, HRP.out, HA2.out⟩
      rename World => w8
      obtain ⟨pb, po, pc, rfl, rfl, hrp, hb8⟩ := hcut
      have HB8 := Lib.hid hb8; have HRP := Lib.hid hrp
      clear hb8 hrp c3 HBX HPJ2
      obtain ⟨k0, k1, k2, k3, _, _⟩ := HC6.out _ HB8.out
      go_wp2_with fail
      refine (HTB.out _ HB8.out).mono ?_
      rintro _ w10 ⟨v10, rfl, hl10, hb10⟩
      go_wp2_with fail
      refine (HBD.out _ _ hl10).mono ?_
      rintro _ w11 ⟨OB, rfl, hrb, hb11⟩
      have HB8x := Lib.hid (below_step hb10 hb11)
      have HB11 := Lib.hid (below_step HB8.out HB8x.out)
      have HRP11 := Lib.hid (HRP.out.below HB8x.out)
      have HRB := Lib.hid hrb
      clear hl10 hb10 hb11 hrb k0 k1 k2 k3 HB8 HB8x HRP HBD
      obtain ⟨k0, k1, k2, k3, _, _⟩ := HC6.out _ HB11.out
      have HX12 : Hid (BF w11 (w11.alloc (.cells #[.slice (some ⟨qc, oc, none⟩) y.nc vcc, .slice vba y.nb vbc, .slice vra y.nr vrc, .slice (some ⟨qn, on, none⟩) y.nn vnc] 25)) [(w11.heap.size, #[.slice (some ⟨qc, oc, none⟩) y.nc vcc, .slice vba y.nb vbc, .slice vra y.nr vrc, .slice (some ⟨qn, on, none⟩) y.nn vnc], 25)]) := (BF.base w11).alloc _ _
      go_wp2_with fail
      generalize (w11.alloc (.cells #[.slice (some ⟨qc, oc, none⟩) y.nc vcc, .slice vba y.nb vbc, .slice vra y.nr vrc, .slice (some ⟨qn, on, none⟩) y.nn vnc] 25)) = w12 at *
      clear k0 k1 k2 k3
      go_loopw [17, 18] (fun rv i wr => ∃ k : Nat, k ≤ y.ng ∧ i = .int .i64 k ∧ Below w12.heap.size w12 wr ∧ wr.ownsRow w12.heap.size 43 2 rv k (flatR (y.before off0 y.nc) k)) (fun _ i _ => y.ng - (intOf i).toNat)
      case atStart => exact ⟨0, Nat.zero_le _, rfl, Below.refl _ _, World.ownsRow_nil _ _ _ _⟩
      case round =>
        obtain ⟨k, hk, rfl, hbx, how⟩ := hrel
        rename World => wx
        obtain ⟨ga, gc, rfl⟩ := own_slice' how
        have HBX := Lib.hid hbx; have HOW := Lib.hid how
        clear hbx how
        have ki : (0 : Int) ≤ (k : Int) := by omega
        by_cases hlt : k < y.ng
        · as_aux_lemma =>
          have kj : (k : Int) < (y.ng : Int) := by omega
          obtain ⟨p1, p2, hp⟩ : ∃ p1 p2, y.before off0 y.nc k = (p1, p2) := ⟨_, _, rfl⟩
          have HP : Hid (flatR (y.before off0 y.nc) (k + 1) = flatR (y.before off0 y.nc) k ++ [.int .i64 p1, .int .i64 p2]) := by unfold Hid; rw [flatR_succ, hp]
          obtain ⟨hpb, x1, x2⟩ := HRP11.out.toIn.get hlt
          rw [hp] at x1 x2
          have HC18 : Hid (∀ X, Below w12.heap.size w12 X → (X.cell? ⟨pb, po + k * 2, none⟩ = some (.int .i64 p1) ∧ X.cell? ⟨pb, po + k * 2 + 1, none⟩ = some (.int .i64 p2))) := fun X hX => by
            have h := (HX12.out.below hX).fr
            exact ⟨kept h hpb x1, kept h hpb x2⟩
          clear hp x1 x2 hpb
          go_wp2_with fail
          have HAX : Hid (Below wx.heap.size wx wx.drew) := (Below.refl _ _).drew
          refine wp_region_held_drew (S := fun X => X.cell? ⟨pb, po + k * 2, none⟩ = some (.int .i64 p1) ∧ X.cell? ⟨pb, po + k * 2 + 1, none⟩ = some (.int .i64 p2)) (by kernel_rfl) (HC18.out _ (below_step HBX.out HAX.out)) (fun hS => ?_)
          generalize wx.drew = X at *
          refine tk [0, 1, 2, 3, 4, 5, 6, 7, 8, 9, 10, 11] ?_
          repeat (refine tkH (oi := ⟨_, _, _, _, _, _⟩) (v := ?_) rfl (by kernel_rfl) (by rfl) (fun _ _ _ h => h) hS ?_ ?_; rotate_left; (· rintro W' ⟨z0, z1⟩; go_simp; try with_reducible rfl); try simp only [Act.put, putA, putZ, putS])
          refine tk0 ?_
          refine wpAnyH_ready (rs := [12]) (by kernel_rfl) (by simp) ?_
          refine AllReadyH.cons (o := ⟨some 91, _, _, _, _, _⟩) rfl (fun K hK => ?_) AllReadyH.nil
          go_simp
          have HB1 : Hid (Below wx.heap.size wx (X.alloc (.cells #[.int .i64 p1, .int .i64 p2] 43))) := below_step HAX.out (below_alloc _ _)
          have HJ : Hid ((X.alloc (.cells #[.int .i64 p1, .int .i64 p2] 43)).heap[X.heap.size]? = some (.cells #[.int .i64 p1, .int .i64 p2] 43 (0, 0))) := heap_alloc_new _ _
          refine hK.out _ _ (HC18.out (X.alloc (.cells #[.int .i64 p1, .int .i64 p2] 43)) (below_step HBX.out HB1.out)) (fun hS => ?_)
          clear hK K
          try simp only [Act.put, putA, putZ, putS]
          generalize X.heap.size = J at *
          generalize (X.alloc (.cells #[.int .i64 p1, .int .i64 p2] 43)) = X1 at *
          refine wpAnyH_ready (rs := [13]) (by kernel_rfl) (by simp) ?_
          refine AllReadyH.cons (o := ⟨some 92, _, _, _, _, _⟩) rfl (fun K hK => ?_) AllReadyH.nil
          refine step_append_src X1 (by rfl) (.tmp 79) (.tmp 91) 23 (by rfl) w12.heap.size 43 i0 (.agg #[.int .i64 0, .int .i64 0]) 2 16 Try.underlying23 hi0 hz0 hz1 hz2 rfl (by decide) (.slice ga k gc) k (flatR (y.before off0 y.nc) k) (by rfl) (own_below HOW.out HB1.out) (some ⟨J, 0, none⟩) 1 1 [.int .i64 p1, .int .i64 p2] (by rfl) ⟨rfl, fun j u hu => ⟨_, rfl, World.news_of_block HJ.out j u hu⟩⟩ (by simp [Value.oneCell']) (by unfold maxLen; omega) (by omega) (Nat.le_trans HBX.out.size HB1.out.size) ?_
          intro v2 Y hown hgr hlt1
          rw [← HP.out] at hown
          obtain ⟨na, nc2, rfl⟩ := own_slice' hown
          have HBY : Hid (Below w12.heap.size w12 Y) := grown_below (below_step HBX.out HB1.out) (own_below HOW.out HB1.out) hgr
          have HOY := Lib.hid hown
          have HSY : Hid (Y.cell? ⟨pb, po + k * 2, none⟩ = some (.int .i64 p1) ∧ Y.cell? ⟨pb, po + k * 2 + 1, none⟩ = some (.int .i64 p2)) := HC18.out Y HBY.out
          clear hown hgr hlt1
          refine hK.out _ _ (HSY.out) (fun hS => ?_)
          clear hK K
          try simp only [Act.put, putA, putZ, putS]
          refine tH 14 (oi := ⟨_, _, _, _, _, _⟩) (v := ?_) rfl (by kernel_rfl) (by rfl) (fun _ _ _ h => h) hS ?_ ?_
          rotate_left
          · rintro W' ⟨z0, z1⟩; go_simp; try with_reducible rfl
          try simp only [Act.put, putA, putZ, putS]
          refine wpAnyH_done (by kernel_rfl) ?_ _
          go_wp2_with fail
          go_roundw
          case rel => exact ⟨k + 1, by omega, by go_num, HBY.out, HOY.out⟩
          case measure => simp [intOf]; omega
        · obtain rfl : k = y.ng := by omega
          obtain ⟨rb, rfl⟩ := own_somep HOW.out (by omega)
          have HR12 := Lib.hid (Rws.start3 (T' := 23) (sz' := 1) (own_mono HOW.out HX12.out.fr.size))
          have HX13 := Lib.hid (HX12.out.below HBX.out)
          have HB13 := Lib.hid (below_step HB11.out HX13.out.fr)
          clear HX12
          have HR13 : Hid (Rws w11.heap.size (wx.alloc (.cells #[] 23)) [⟨43, 2, .slice (some ⟨rb, 0, none⟩) y.ng gc, y.ng, flatR (y.before off0 y.nc) y.ng⟩, ⟨23, 1, .slice (some ⟨wx.heap.size, 0, none⟩) 0 0, 0, []⟩, ⟨43, 2, .slice none 0 0, 0, []⟩, ⟨43, 2, .slice none 0 0, 0, []⟩]) := HR12.out.made HX13.out.fr.size 1 23 1
          have HX14 := Lib.hid (HX13.out.below (below_alloc wx (.cells #[] 23)))
          obtain ⟨k0, k1, k2, k3, _, _⟩ := HC6.out _ (below_step HB11.out HX14.out.fr)
          go_wp2_with (at_builtin; refine wpList_append_src _ rfl (.tmp 93) (.tmp 95) 22 rfl w11.heap.size 23 i1 (.slice none 0 0) 1 24 Try.underlying22 hi1 hy0 hy1 hy2 rfl (by decide) (.slice (some ⟨wx.heap.size, 0, none⟩) 0 0) 0 [] rfl (HR13.out.own 1 _ rfl) (some ⟨qc, oc, none⟩) y.nc vcc ((List.range y.nc).map F) rfl ?a0 ?a4 ?a1 ?a2 ?a3 ?next)
          case a0 =>
            refine ⟨by simp, fun j v hv => ?_⟩
            have hj : j < y.nc := by have := (List.getElem?_eq_some_iff.1 hv).1; simpa using this
            rw [List.getElem?_map, List.getElem?_range hj] at hv
            cases hv
            refine ⟨_, rfl, ?_⟩
            rw [addr_add]
            exact kept (below_step HB11.out HX14.out.fr) hqc (HF.out j hj).1
          case a4 =>
            intro v hv
            simp only [List.mem_map, List.mem_range] at hv
            obtain ⟨j, hj, rfl⟩ := hv
            obtain ⟨xa, xc, hx⟩ := (HF.out j hj).2.slice
            rw [hx]; rfl
          case a1 => unfold maxLen; omega
          case a2 => omega
          case a3 => exact HX14.out.fr.size
          intro v1 w14 hown hgr hlt1
          have HX15 := Lib.hid (BF.grow HX14.out HR13.out (i := 1) rfl (List.forall_mem_cons.2 ⟨(show 25 ≠ 23 by decide), List.forall_mem_nil _⟩) (Nat.le_refl _) hgr)
          obtain ⟨ha1, hc1, rfl⟩ := own_slice' hown
          have HR14 : Hid (Rws w11.heap.size w14 [⟨43, 2, .slice (some ⟨rb, 0, none⟩) y.ng gc, y.ng, flatR (y.before off0 y.nc) y.ng⟩, ⟨23, 1, .slice ha1 y.nc hc1, y.nc, (List.range y.nc).map F⟩, ⟨43, 2, .slice none 0 0, 0, []⟩, ⟨43, 2, .slice none 0 0, 0, []⟩]) := HR13.out.app2 (i := 1) rfl hown hgr (by rw [World.size_alloc]; exact hlt1)
          clear hown hgr hlt1 HX14 HR13 HX13 HR12 k0 k1 k2 k3
          have HX16 := Lib.hid (HX15.out.below (below_alloc w14 (.cells #[.slice (some ⟨rb, 0, none⟩) y.ng gc] 23)))
          have HR16 := Lib.hid (HR14.out.below (below_alloc w14 (.cells #[.slice (some ⟨rb, 0, none⟩) y.ng gc] 23)))
          have hnew := heap_alloc_new w14 (.cells #[.slice (some ⟨rb, 0, none⟩) y.ng gc] 23)
          go_wp2_with (at_builtin; refine wpList_append_src _ rfl (.tmp 96) (.tmp 98) 22 rfl w11.heap.size 23 i1 (.slice none 0 0) 1 24 Try.underlying22 hi1 hy0 hy1 hy2 rfl (by decide) (.slice ha1 y.nc hc1) y.nc ((List.range y.nc).map F) rfl (HR16.out.own 1 _ rfl) (some ⟨w14.heap.size, 0, none⟩) 1 1 [.slice (some ⟨rb, 0, none⟩) y.ng gc] rfl ⟨rfl, fun j u hu => ⟨_, rfl, World.news_of_block hnew j u hu⟩⟩ (by simp [Value.oneCell']) ?d1 ?d2 ?d3 ?next2)
          case d1 => unfold maxLen; omega
          case d2 => omega
          case d3 => exact HX16.out.fr.size
          intro v1 w16 hown hgr hlt1
          have HX17 := Lib.hid (BF.grow HX16.out HR16.out (i := 1) rfl (List.forall_mem_cons.2 ⟨(show 25 ≠ 23 by decide), List.forall_mem_nil _⟩) (Nat.le_refl _) hgr)
          obtain ⟨ha2, hc2, rfl⟩ := own_slice' hown
          obtain ⟨hb, rfl⟩ := own_somep hown (by omega)
          have HR17 : Hid (Rws w11.heap.size w16 [⟨43, 2, .slice (some ⟨rb, 0, none⟩) y.ng gc, y.ng, flatR (y.before off0 y.nc) y.ng⟩, ⟨23, 1, .slice (some ⟨hb, 0, none⟩) (y.nc + 1) hc2, y.nc + 1, (List.range y.nc).map F ++ [.slice (some ⟨rb, 0, none⟩) y.ng gc]⟩, ⟨43, 2, .slice none 0 0, 0, []⟩, ⟨43, 2, .slice none 0 0, 0, []⟩]) := HR16.out.app2 (i := 1) rfl hown hgr (by rw [World.size_alloc]; exact hlt1)
          clear hown hgr hlt1 hnew HX16 HR16 HX15 HR14 HBX HOW HB13
          have e0 := HX17.out.cell (.head _) 0
          have f0 := HX17.out.thaw (.head _) 0
          go_wp2_with fail
          have HX18 := Lib.hid (BF.set1 (i := 0) (cs' := #[.slice (some ⟨hb, 0, none⟩) (y.nc + 1) hc2, .slice vba y.nb vbc, .slice vra y.nr vrc, .slice (some ⟨qn, on, none⟩) y.nn vnc]) HX17.out (.head _) (.slice (some ⟨hb, 0, none⟩) (y.nc + 1) hc2) (by simp) rfl (L' := []) (List.forall_mem_nil _))
          have HR18 := Lib.hid (HR17.out.tab (HX17.out.bk _ _ _ (.head _)).2 (List.forall_mem_cons.2 ⟨(show 25 ≠ 43 by decide), List.forall_mem_cons.2 ⟨(show 25 ≠ 23 by decide), List.forall_mem_cons.2 ⟨(show 25 ≠ 43 by decide), List.forall_mem_cons.2 ⟨(show 25 ≠ 43 by decide), List.forall_mem_nil _⟩⟩⟩⟩) (Fr.set w16 w11.heap.size 0 (.slice (some ⟨hb, 0, none⟩) (y.nc + 1) hc2)))
          clear e0 f0 HX17 HR17
          generalize (w16.setCell ⟨w11.heap.size, 0, none⟩ (.slice (some ⟨hb, 0, none⟩) (y.nc + 1) hc2)) = w18 at *
          have HC20 : Hid (∀ X, Below w11.heap.size w11 X → (X.cell? ⟨w5.heap.size, 1, none⟩ = some (.slice vba y.nb vbc) ∧ X.cell? ⟨w.heap.size + 1, 0, none⟩ = some (.int .i64 b0) ∧ X.cell? ⟨w.heap.size + 1, 1, none⟩ = some (.int .i64 b1))) := fun X hX => by
            obtain ⟨_, a1, _, _, a4, a5⟩ := HC6.out X (below_step HB11.out hX)
            exact ⟨a1, a4, a5⟩
          go_cut [] (fun wy => ∃ ba bc J c3, BF w11 wy [(w11.heap.size, #[.slice (some ⟨hb, 0, none⟩) (y.nc + 1) hc2, .slice ba (y.nb + 1) bc, .slice vra y.nr vrc, .slice (some ⟨qn, on, none⟩) y.nn vnc], 25)] ∧ Rws w11.heap.size wy [⟨43, 2, .slice (some ⟨rb, 0, none⟩) y.ng gc, y.ng, flatR (y.before off0 y.nc) y.ng⟩, ⟨23, 1, .slice (some ⟨hb, 0, none⟩) (y.nc + 1) hc2, y.nc + 1, (List.range y.nc).map F ++ [.slice (some ⟨rb, 0, none⟩) y.ng gc]⟩, ⟨43, 2, .slice ba (y.nb + 1) bc, y.nb + 1, flatR y.b y.nb ++ [.int .i64 b0, .int .i64 b1]⟩, ⟨43, 2, .slice (some ⟨J, 0, none⟩) 1 c3, 1, [.int .i64 b0, .int .i64 b1]⟩])
          case first => as_aux_lemma =>
            have HAX := Lib.hid (HX18.out.below (Below.refl _ w18).drew)
            have HRX := Lib.hid (HR18.out.below (Below.refl _ w18).drew)
            refine wp_region_Z (S := fun X => X.cell? ⟨w5.heap.size, 1, none⟩ = some (.slice vba y.nb vbc) ∧ X.cell? ⟨w.heap.size + 1, 0, none⟩ = some (.int .i64 b0) ∧ X.cell? ⟨w.heap.size + 1, 1, none⟩ = some (.int .i64 b1)) (by kernel_rfl) (HC20.out _ HAX.out.fr) (fun hS => ?_)
            generalize w18.drew = X at *
            refine tk [1, 2, 4] ?_
            repeat (refine tkZ (oi := ⟨_, _, _, _, _, _⟩) (v := ?_) rfl (by kernel_rfl) (by rfl) (fun _ _ _ h => h) hS ?_ ?_; rotate_left; (· rintro W' ⟨z0, z1, z2⟩; go_simp; try with_reducible rfl); try simp only [Act.put, putA, putZ, putS])
            refine tk0 ?_
            refine wpAnyZ_next (rs := [0, 5]) (by kernel_rfl) (by simp) ?_
            refine NextZ.cons (o := ⟨some 101, _, _, _, _, _⟩) rfl (fun K hK => ?_) ?_
            ·
             go_simp
             have HA0 := Lib.hid (HAX.out.below (below_alloc X (.cells #[] 43)))
             have HR0 : Hid (Rws w11.heap.size (X.alloc (.cells #[] 43)) [⟨43, 2, .slice (some ⟨rb, 0, none⟩) y.ng gc, y.ng, flatR (y.before off0 y.nc) y.ng⟩, ⟨23, 1, .slice (some ⟨hb, 0, none⟩) (y.nc + 1) hc2, y.nc + 1, (List.range y.nc).map F ++ [.slice (some ⟨rb, 0, none⟩) y.ng gc]⟩, ⟨43, 2, .slice (some ⟨X.heap.size, 0, none⟩) 0 0, 0, []⟩, ⟨43, 2, .slice none 0 0, 0, []⟩]) := HRX.out.made HAX.out.fr.size 2 43 2
             refine hK.out _ _ (HC20.out (X.alloc (.cells #[] 43)) HA0.out.fr) (fun hS => ?_)
             clear hK K
             try simp only [Act.put, putA, putZ, putS]
             generalize X.heap.size = J0 at *
             generalize (X.alloc (.cells #[] 43)) = X0 at *
             refine wpAnyZ_next (rs := [3, 5]) (by kernel_rfl) (by simp) ?_
             refine NextZ.cons (o := ⟨some 104, _, _, _, _, _⟩) rfl (fun K hK => ?_) ?_
             ·
              refine step_append_src X0 (by rfl) (.tmp 101) (.tmp 103) 23 (by rfl) w11.heap.size 43 i0 (.agg #[.int .i64 0, .int .i64 0]) 2 16 Try.underlying23 hi0 hz0 hz1 hz2 rfl (by decide) (.slice (some ⟨J0, 0, none⟩) 0 0) (0) ([]) (by rfl) (HR0.out.own 2 _ rfl) vba y.nb vbc (flatR y.b y.nb) (by rfl) ((HWL.out.2.1.below (below_step HB11.out HA0.out.fr)).src) (flatR_one _ _) (by unfold maxLen; omega) (by omega) HA0.out.fr.size ?_
              intro v1 X1 hown hgr hl
              rw [Nat.zero_add, List.nil_append] at hown
              obtain ⟨qa1, qc1, rfl⟩ := own_slice' hown
              have HA1 := Lib.hid (BF.grow HA0.out HR0.out (i := 2) rfl (List.forall_mem_cons.2 ⟨(show 25 ≠ 43 by decide), List.forall_mem_nil _⟩) (Nat.le_refl _) hgr)
              have HR1 : Hid (Rws w11.heap.size X1 [⟨43, 2, .slice (some ⟨rb, 0, none⟩) y.ng gc, y.ng, flatR (y.before off0 y.nc) y.ng⟩, ⟨23, 1, .slice (some ⟨hb, 0, none⟩) (y.nc + 1) hc2, y.nc + 1, (List.range y.nc).map F ++ [.slice (some ⟨rb, 0, none⟩) y.ng gc]⟩, ⟨43, 2, .slice qa1 y.nb qc1, y.nb, flatR y.b y.nb⟩, ⟨43, 2, .slice none 0 0, 0, []⟩]) := HR0.out.app2 (i := 2) rfl hown hgr hl
              clear hown hgr hl
              refine hK.out _ _ (HC20.out X1 HA1.out.fr) (fun hS => ?_)
              clear hK K
              try simp only [Act.put, putA, putZ, putS]
              refine wpAnyZ_next (rs := [5]) (by kernel_rfl) (by simp) ?_
              refine NextZ.cons (o := ⟨some 106, _, _, _, _, _⟩) rfl (fun K hK => ?_) NextZ.nil
              go_simp
              have HA2 := Lib.hid (HA1.out.below (below_alloc X1 (.cells #[.int .i64 b0, .int .i64 b1] 43)))
              have HR2 : Hid (Rws w11.heap.size (X1.alloc (.cells #[.int .i64 b0, .int .i64 b1] 43)) [⟨43, 2, .slice (some ⟨rb, 0, none⟩) y.ng gc, y.ng, flatR (y.before off0 y.nc) y.ng⟩, ⟨23, 1, .slice (some ⟨hb, 0, none⟩) (y.nc + 1) hc2, y.nc + 1, (List.range y.nc).map F ++ [.slice (some ⟨rb, 0, none⟩) y.ng gc]⟩, ⟨43, 2, .slice qa1 y.nb qc1, y.nb, flatR y.b y.nb⟩, ⟨43, 2, .slice (some ⟨X1.heap.size, 0, none⟩) 1 1, 1, [.int .i64 b0, .int .i64 b1]⟩]) := HR1.out.new (i := 3) (sz := 2) (n := 1) rfl HA1.out.fr.size rfl (by unfold maxLen; omega)
              refine hK.out _ _ (HC20.out (X1.alloc (.cells #[.int .i64 b0, .int .i64 b1] 43)) HA2.out.fr) (fun hS => ?_)
              clear hK K
              try simp only [Act.put, putA, putZ, putS]
              generalize X1.heap.size = J1 at *
              generalize (X1.alloc (.cells #[.int .i64 b0, .int .i64 b1] 43)) = X2 at *
              refine wpAnyZ_next (rs := [6]) (by kernel_rfl) (by simp) ?_
              refine NextZ.cons (o := ⟨some 107, _, _, _, _, _⟩) rfl (fun K hK => ?_) NextZ.nil
              refine step_append_src X2 (by rfl) (.tmp 104) (.tmp 106) 23 (by rfl) w11.heap.size 43 i0 (.agg #[.int .i64 0, .int .i64 0]) 2 16 Try.underlying23 hi0 hz0 hz1 hz2 rfl (by decide) (.slice qa1 y.nb qc1) (y.nb) (flatR y.b y.nb) (by rfl) (HR2.out.own 2 _ rfl) (some ⟨J1, 0, none⟩) 1 1 [.int .i64 b0, .int .i64 b1] (by rfl) (own_src (HR2.out.own 3 _ rfl)) (by simp [Value.oneCell']) (by unfold maxLen; omega) (by omega) HA2.out.fr.size ?_
              intro v3 X3 hown hgr hl
              obtain ⟨qa2, qc2, rfl⟩ := own_slice' hown
              have HA3 := Lib.hid (BF.grow HA2.out HR2.out (i := 2) rfl (List.forall_mem_cons.2 ⟨(show 25 ≠ 43 by decide), List.forall_mem_nil _⟩) (Nat.le_refl _) hgr)
              have HR3 : Hid (Rws w11.heap.size X3 [⟨43, 2, .slice (some ⟨rb, 0, none⟩) y.ng gc, y.ng, flatR (y.before off0 y.nc) y.ng⟩, ⟨23, 1, .slice (some ⟨hb, 0, none⟩) (y.nc + 1) hc2, y.nc + 1, (List.range y.nc).map F ++ [.slice (some ⟨rb, 0, none⟩) y.ng gc]⟩, ⟨43, 2, .slice qa2 (y.nb + 1) qc2, y.nb + 1, flatR y.b y.nb ++ [.int .i64 b0, .int .i64 b1]⟩, ⟨43, 2, .slice (some ⟨J1, 0, none⟩) 1 1, 1, [.int .i64 b0, .int .i64 b1]⟩]) := HR2.out.app2 (i := 2) rfl hown hgr hl
              clear hown hgr hl
              refine hK.out _ _ (HC20.out X3 HA3.out.fr) (fun hS => ?_)
              clear hK K
              try simp only [Act.put, putA, putZ, putS]
              refine tZ 7 (oi := ⟨_, _, _, _, _, _⟩) (v := ?_) rfl (by kernel_rfl) (by rfl) (fun _ _ _ h => h) hS ?_ ?_
              rotate_left
              · rintro W' ⟨z0, z1, z2⟩; go_simp; try with_reducible rfl
              try simp only [Act.put, putA, putZ, putS]
              refine wpAnyZ_next (rs := [8]) (by kernel_rfl) (by simp) ?_
              refine NextZ.last (o := ⟨none, _, _, _, _, _⟩) rfl (by kernel_rfl) (fun K hK => ?_)
              have e0 := HA3.out.cell (.head _) 1
              have f0 := HA3.out.thaw (.head _) 1
              have HA4 := Lib.hid (BF.set1 (i := 1) (cs' := #[.slice (some ⟨hb, 0, none⟩) (y.nc + 1) hc2, .slice qa2 (y.nb + 1) qc2, .slice vra y.nr vrc, .slice (some ⟨qn, on, none⟩) y.nn vnc]) HA3.out (.head _) (.slice qa2 (y.nb + 1) qc2) (by simp) rfl (L' := []) (List.forall_mem_nil _))
              have HR4 : Hid (Rws w11.heap.size (X3.setCell ⟨w11.heap.size, 1, none⟩ (.slice qa2 (y.nb + 1) qc2)) [⟨43, 2, .slice (some ⟨rb, 0, none⟩) y.ng gc, y.ng, flatR (y.before off0 y.nc) y.ng⟩, ⟨23, 1, .slice (some ⟨hb, 0, none⟩) (y.nc + 1) hc2, y.nc + 1, (List.range y.nc).map F ++ [.slice (some ⟨rb, 0, none⟩) y.ng gc]⟩, ⟨43, 2, .slice qa2 (y.nb + 1) qc2, y.nb + 1, flatR y.b y.nb ++ [.int .i64 b0, .int .i64 b1]⟩, ⟨43, 2, .slice (some ⟨J1, 0, none⟩) 1 1, 1, [.int .i64 b0, .int .i64 b1]⟩]) := HR3.out.tab (HA3.out.bk _ _ _ (.head _)).2 (List.forall_mem_cons.2 ⟨(show 25 ≠ 43 by decide), List.forall_mem_cons.2 ⟨(show 25 ≠ 23 by decide), List.forall_mem_cons.2 ⟨(show 25 ≠ 43 by decide), List.forall_mem_cons.2 ⟨(show 25 ≠ 43 by decide), List.forall_mem_nil _⟩⟩⟩⟩) (Fr.set _ _ _ _)
              go_simp
              refine hK.out _ _ ?_
              clear hK K
              (try simp only [Act.put])
              refine wpAnyZ_done (by kernel_rfl) ?_ _
              go_wp2_with fail
              go_meet
              exact ⟨qa2, qc2, _, _, HA4.out, HR4.out⟩
             refine NextZ.cons (o := ⟨some 106, _, _, _, _, _⟩) rfl (fun K hK => ?_) NextZ.nil
             go_simp
             have HA5 := Lib.hid (HA0.out.below (below_alloc X0 (.cells #[.int .i64 b0, .int .i64 b1] 43)))
             have HR5 : Hid (Rws w11.heap.size (X0.alloc (.cells #[.int .i64 b0, .int .i64 b1] 43)) [⟨43, 2, .slice (some ⟨rb, 0, none⟩) y.ng gc, y.ng, flatR (y.before off0 y.nc) y.ng⟩, ⟨23, 1, .slice (some ⟨hb, 0, none⟩) (y.nc + 1) hc2, y.nc + 1, (List.range y.nc).map F ++ [.slice (some ⟨rb, 0, none⟩) y.ng gc]⟩, ⟨43, 2, .slice (some ⟨J0, 0, none⟩) 0 0, 0, []⟩, ⟨43, 2, .slice (some ⟨X0.heap.size, 0, none⟩) 1 1, 1, [.int .i64 b0, .int .i64 b1]⟩]) := HR0.out.new (i := 3) (sz := 2) (n := 1) rfl HA0.out.fr.size rfl (by unfold maxLen; omega)
             refine hK.out _ _ (HC20.out (X0.alloc (.cells #[.int .i64 b0, .int .i64 b1] 43)) HA5.out.fr) (fun hS => ?_)
             clear hK K
             try simp only [Act.put, putA, putZ, putS]
             generalize X0.heap.size = J1 at *
             generalize (X0.alloc (.cells #[.int .i64 b0, .int .i64 b1] 43)) = X5 at *
             refine wpAnyZ_next (rs := [3]) (by kernel_rfl) (by simp) ?_
             refine NextZ.cons (o := ⟨some 104, _, _, _, _, _⟩) rfl (fun K hK => ?_) NextZ.nil
             refine step_append_src X5 (by rfl) (.tmp 101) (.tmp 103) 23 (by rfl) w11.heap.size 43 i0 (.agg #[.int .i64 0, .int .i64 0]) 2 16 Try.underlying23 hi0 hz0 hz1 hz2 rfl (by decide) (.slice (some ⟨J0, 0, none⟩) 0 0) (0) ([]) (by rfl) (HR5.out.own 2 _ rfl) vba y.nb vbc (flatR y.b y.nb) (by rfl) ((HWL.out.2.1.below (below_step HB11.out HA5.out.fr)).src) (flatR_one _ _) (by unfold maxLen; omega) (by omega) HA5.out.fr.size ?_
             intro v6 X6 hown hgr hl
             rw [Nat.zero_add, List.nil_append] at hown
             obtain ⟨qa1, qc1, rfl⟩ := own_slice' hown
             have HA6 := Lib.hid (BF.grow HA5.out HR5.out (i := 2) rfl (List.forall_mem_cons.2 ⟨(show 25 ≠ 43 by decide), List.forall_mem_nil _⟩) (Nat.le_refl _) hgr)
             have HR6 : Hid (Rws w11.heap.size X6 [⟨43, 2, .slice (some ⟨rb, 0, none⟩) y.ng gc, y.ng, flatR (y.before off0 y.nc) y.ng⟩, ⟨23, 1, .slice (some ⟨hb, 0, none⟩) (y.nc + 1) hc2, y.nc + 1, (List.range y.nc).map F ++ [.slice (some ⟨rb, 0, none⟩) y.ng gc]⟩, ⟨43, 2, .slice qa1 y.nb qc1, y.nb, flatR y.b y.nb⟩, ⟨43, 2, .slice (some ⟨J1, 0, none⟩) 1 1, 1, [.int .i64 b0, .int .i64 b1]⟩]) := HR5.out.app2 (i := 2) rfl hown hgr hl
             clear hown hgr hl
             refine hK.out _ _ (HC20.out X6 HA6.out.fr) (fun hS => ?_)
             clear hK K
             try simp only [Act.put, putA, putZ, putS]
             refine wpAnyZ_next (rs := [6]) (by kernel_rfl) (by simp) ?_
             refine NextZ.cons (o := ⟨some 107, _, _, _, _, _⟩) rfl (fun K hK => ?_) NextZ.nil
             refine step_append_src X6 (by rfl) (.tmp 104) (.tmp 106) 23 (by rfl) w11.heap.size 43 i0 (.agg #[.int .i64 0, .int .i64 0]) 2 16 Try.underlying23 hi0 hz0 hz1 hz2 rfl (by decide) (.slice qa1 y.nb qc1) (y.nb) (flatR y.b y.nb) (by rfl) (HR6.out.own 2 _ rfl) (some ⟨J1, 0, none⟩) 1 1 [.int .i64 b0, .int .i64 b1] (by rfl) (own_src (HR6.out.own 3 _ rfl)) (by simp [Value.oneCell']) (by unfold maxLen; omega) (by omega) HA6.out.fr.size ?_
             intro v7 X7 hown hgr hl
             obtain ⟨qa2, qc2, rfl⟩ := own_slice' hown
             have HA7 := Lib.hid (BF.grow HA6.out HR6.out (i := 2) rfl (List.forall_mem_cons.2 ⟨(show 25 ≠ 43 by decide), List.forall_mem_nil _⟩) (Nat.le_refl _) hgr)
             have HR7 : Hid (Rws w11.heap.size X7 [⟨43, 2, .slice (some ⟨rb, 0, none⟩) y.ng gc, y.ng, flatR (y.before off0 y.nc) y.ng⟩, ⟨23, 1, .slice (some ⟨hb, 0, none⟩) (y.nc + 1) hc2, y.nc + 1, (List.range y.nc).map F ++ [.slice (some ⟨rb, 0, none⟩) y.ng gc]⟩, ⟨43, 2, .slice qa2 (y.nb + 1) qc2, y.nb + 1, flatR y.b y.nb ++ [.int .i64 b0, .int .i64 b1]⟩, ⟨43, 2, .slice (some ⟨J1, 0, none⟩) 1 1, 1, [.int .i64 b0, .int .i64 b1]⟩]) := HR6.out.app2 (i := 2) rfl hown hgr hl
             clear hown hgr hl
             refine hK.out _ _ (HC20.out X7 HA7.out.fr) (fun hS => ?_)
             clear hK K
             try simp only [Act.put, putA, putZ, putS]
             refine tZ 7 (oi := ⟨_, _, _, _, _, _⟩) (v := ?_) rfl (by kernel_rfl) (by rfl) (fun _ _ _ h => h) hS ?_ ?_
             rotate_left
             · rintro W' ⟨z0, z1, z2⟩; go_simp; try with_reducible rfl
             try simp only [Act.put, putA, putZ, putS]
             refine wpAnyZ_next (rs := [8]) (by kernel_rfl) (by simp) ?_
             refine NextZ.last (o := ⟨none, _, _, _, _, _⟩) rfl (by kernel_rfl) (fun K hK => ?_)
             have e0 := HA7.out.cell (.head _) 1
             have f0 := HA7.out.thaw (.head _) 1
             have HA8 := Lib.hid (BF.set1 (i := 1) (cs' := #[.slice (some ⟨hb, 0, none⟩) (y.nc + 1) hc2, .slice qa2 (y.nb + 1) qc2, .slice vra y.nr vrc, .slice (some ⟨qn, on, none⟩) y.nn vnc]) HA7.out (.head _) (.slice qa2 (y.nb + 1) qc2) (by simp) rfl (L' := []) (List.forall_mem_nil _))
             have HR8 : Hid (Rws w11.heap.size (X7.setCell ⟨w11.heap.size, 1, none⟩ (.slice qa2 (y.nb + 1) qc2)) [⟨43, 2, .slice (some ⟨rb, 0, none⟩) y.ng gc, y.ng, flatR (y.before off0 y.nc) y.ng⟩, ⟨23, 1, .slice (some ⟨hb, 0, none⟩) (y.nc + 1) hc2, y.nc + 1, (List.range y.nc).map F ++ [.slice (some ⟨rb, 0, none⟩) y.ng gc]⟩, ⟨43, 2, .slice qa2 (y.nb + 1) qc2, y.nb + 1, flatR y.b y.nb ++ [.int .i64 b0, .int .i64 b1]⟩, ⟨43, 2, .slice (some ⟨J1, 0, none⟩) 1 1, 1, [.int .i64 b0, .int .i64 b1]⟩]) := HR7.out.tab (HA7.out.bk _ _ _ (.head _)).2 (List.forall_mem_cons.2 ⟨(show 25 ≠ 43 by decide), List.forall_mem_cons.2 ⟨(show 25 ≠ 23 by decide), List.forall_mem_cons.2 ⟨(show 25 ≠ 43 by decide), List.forall_mem_cons.2 ⟨(show 25 ≠ 43 by decide), List.forall_mem_nil _⟩⟩⟩⟩) (Fr.set _ _ _ _)
             go_simp
             refine hK.out _ _ ?_
             clear hK K
             (try simp only [Act.put])
             refine wpAnyZ_done (by kernel_rfl) ?_ _
             go_wp2_with fail
             go_meet
             exact ⟨qa2, qc2, _, _, HA8.out, HR8.out⟩
            refine NextZ.cons (o := ⟨some 106, _, _, _, _, _⟩) rfl (fun K hK => ?_) NextZ.nil
            go_simp
            have HA9 := Lib.hid (HAX.out.below (below_alloc X (.cells #[.int .i64 b0, .int .i64 b1] 43)))
            have HR9 : Hid (Rws w11.heap.size (X.alloc (.cells #[.int .i64 b0, .int .i64 b1] 43)) [⟨43, 2, .slice (some ⟨rb, 0, none⟩) y.ng gc, y.ng, flatR (y.before off0 y.nc) y.ng⟩, ⟨23, 1, .slice (some ⟨hb, 0, none⟩) (y.nc + 1) hc2, y.nc + 1, (List.range y.nc).map F ++ [.slice (some ⟨rb, 0, none⟩) y.ng gc]⟩, ⟨43, 2, .slice none 0 0, 0, []⟩, ⟨43, 2, .slice (some ⟨X.heap.size, 0, none⟩) 1 1, 1, [.int .i64 b0, .int .i64 b1]⟩]) := HRX.out.new (i := 3) (sz := 2) (n := 1) rfl HAX.out.fr.size rfl (by unfold maxLen; omega)
            refine hK.out _ _ (HC20.out (X.alloc (.cells #[.int .i64 b0, .int .i64 b1] 43)) HA9.out.fr) (fun hS => ?_)
            clear hK K
            try simp only [Act.put, putA, putZ, putS]
            generalize X.heap.size = J1 at *
            generalize (X.alloc (.cells #[.int .i64 b0, .int .i64 b1] 43)) = X9 at *
            refine wpAnyZ_next (rs := [0]) (by kernel_rfl) (by simp) ?_
            refine NextZ.cons (o := ⟨some 101, _, _, _, _, _⟩) rfl (fun K hK => ?_) NextZ.nil
            go_simp
            have HA10 := Lib.hid (HA9.out.below (below_alloc X9 (.cells #[] 43)))
            have HR10 : Hid (Rws w11.heap.size (X9.alloc (.cells #[] 43)) [⟨43, 2, .slice (some ⟨rb, 0, none⟩) y.ng gc, y.ng, flatR (y.before off0 y.nc) y.ng⟩, ⟨23, 1, .slice (some ⟨hb, 0, none⟩) (y.nc + 1) hc2, y.nc + 1, (List.range y.nc).map F ++ [.slice (some ⟨rb, 0, none⟩) y.ng gc]⟩, ⟨43, 2, .slice (some ⟨X9.heap.size, 0, none⟩) 0 0, 0, []⟩, ⟨43, 2, .slice (some ⟨J1, 0, none⟩) 1 1, 1, [.int .i64 b0, .int .i64 b1]⟩]) := HR9.out.made HA9.out.fr.size 2 43 2
            refine hK.out _ _ (HC20.out (X9.alloc (.cells #[] 43)) HA10.out.fr) (fun hS => ?_)
            clear hK K
            try simp only [Act.put, putA, putZ, putS]
            generalize X9.heap.size = J0 at *
            generalize (X9.alloc (.cells #[] 43)) = X10 at *
            refine wpAnyZ_next (rs := [3]) (by kernel_rfl) (by simp) ?_
            refine NextZ.cons (o := ⟨some 104, _, _, _, _, _⟩) rfl (fun K hK => ?_) NextZ.nil
            refine step_append_src X10 (by rfl) (.tmp 101) (.tmp 103) 23 (by rfl) w11.heap.size 43 i0 (.agg #[.int .i64 0, .int .i64 0]) 2 16 Try.underlying23 hi0 hz0 hz1 hz2 rfl (by decide) (.slice (some ⟨J0, 0, none⟩) 0 0) (0) ([]) (by rfl) (HR10.out.own 2 _ rfl) vba y.nb vbc (flatR y.b y.nb) (by rfl) ((HWL.out.2.1.below (below_step HB11.out HA10.out.fr)).src) (flatR_one _ _) (by unfold maxLen; omega) (by omega) HA10.out.fr.size ?_
            intro v11 X11 hown hgr hl
            rw [Nat.zero_add, List.nil_append] at hown
            obtain ⟨qa1, qc1, rfl⟩ := own_slice' hown
            have HA11 := Lib.hid (BF.grow HA10.out HR10.out (i := 2) rfl (List.forall_mem_cons.2 ⟨(show 25 ≠ 43 by decide), List.forall_mem_nil _⟩) (Nat.le_refl _) hgr)
            have HR11 : Hid (Rws w11.heap.size X11 [⟨43, 2, .slice (some ⟨rb, 0, none⟩) y.ng gc, y.ng, flatR (y.before off0 y.nc) y.ng⟩, ⟨23, 1, .slice (some ⟨hb, 0, none⟩) (y.nc + 1) hc2, y.nc + 1, (List.range y.nc).map F ++ [.slice (some ⟨rb, 0, none⟩) y.ng gc]⟩, ⟨43, 2, .slice qa1 y.nb qc1, y.nb, flatR y.b y.nb⟩, ⟨43, 2, .slice (some ⟨J1, 0, none⟩) 1 1, 1, [.int .i64 b0, .int .i64 b1]⟩]) := HR10.out.app2 (i := 2) rfl hown hgr hl
            clear hown hgr hl
            refine hK.out _ _ (HC20.out X11 HA11.out.fr) (fun hS => ?_)
            clear hK K
            try simp only [Act.put, putA, putZ, putS]
            refine wpAnyZ_next (rs := [6]) (by kernel_rfl) (by simp) ?_
            refine NextZ.cons (o := ⟨some 107, _, _, _, _, _⟩) rfl (fun K hK => ?_) NextZ.nil
            refine step_append_src X11 (by rfl) (.tmp 104) (.tmp 106) 23 (by rfl) w11.heap.size 43 i0 (.agg #[.int .i64 0, .int .i64 0]) 2 16 Try.underlying23 hi0 hz0 hz1 hz2 rfl (by decide) (.slice qa1 y.nb qc1) (y.nb) (flatR y.b y.nb) (by rfl) (HR11.out.own 2 _ rfl) (some ⟨J1, 0, none⟩) 1 1 [.int .i64 b0, .int .i64 b1] (by rfl) (own_src (HR11.out.own 3 _ rfl)) (by simp [Value.oneCell']) (by unfold maxLen; omega) (by omega) HA11.out.fr.size ?_
            intro v12 X12 hown hgr hl
            obtain ⟨qa2, qc2, rfl⟩ := own_slice' hown
            have HA12 := Lib.hid (BF.grow HA11.out HR11.out (i := 2) rfl (List.forall_mem_cons.2 ⟨(show 25 ≠ 43 by decide), List.forall_mem_nil _⟩) (Nat.le_refl _) hgr)
            have HR12 : Hid (Rws w11.heap.size X12 [⟨43, 2, .slice (some ⟨rb, 0, none⟩) y.ng gc, y.ng, flatR (y.before off0 y.nc) y.ng⟩, ⟨23, 1, .slice (some ⟨hb, 0, none⟩) (y.nc + 1) hc2, y.nc + 1, (List.range y.nc).map F ++ [.slice (some ⟨rb, 0, none⟩) y.ng gc]⟩, ⟨43, 2, .slice qa2 (y.nb + 1) qc2, y.nb + 1, flatR y.b y.nb ++ [.int .i64 b0, .int .i64 b1]⟩, ⟨43, 2, .slice (some ⟨J1, 0, none⟩) 1 1, 1, [.int .i64 b0, .int .i64 b1]⟩]) := HR11.out.app2 (i := 2) rfl hown hgr hl
            clear hown hgr hl
            refine hK.out _ _ (HC20.out X12 HA12.out.fr) (fun hS => ?_)
            clear hK K
            try simp only [Act.put, putA, putZ, putS]
            refine tZ 7 (oi := ⟨_, _, _, _, _, _⟩) (v := ?_) rfl (by kernel_rfl) (by rfl) (fun _ _ _ h => h) hS ?_ ?_
            rotate_left
            · rintro W' ⟨z0, z1, z2⟩; go_simp; try with_reducible rfl
            try simp only [Act.put, putA, putZ, putS]
            refine wpAnyZ_next (rs := [8]) (by kernel_rfl) (by simp) ?_
            refine NextZ.last (o := ⟨none, _, _, _, _, _⟩) rfl (by kernel_rfl) (fun K hK => ?_)
            have e0 := HA12.out.cell (.head _) 1
            have f0 := HA12.out.thaw (.head _) 1
            have HA13 := Lib.hid (BF.set1 (i := 1) (cs' := #[.slice (some ⟨hb, 0, none⟩) (y.nc + 1) hc2, .slice qa2 (y.nb + 1) qc2, .slice vra y.nr vrc, .slice (some ⟨qn, on, none⟩) y.nn vnc]) HA12.out (.head _) (.slice qa2 (y.nb + 1) qc2) (by simp) rfl (L' := []) (List.forall_mem_nil _))
            have HR13 : Hid (Rws w11.heap.size (X12.setCell ⟨w11.heap.size, 1, none⟩ (.slice qa2 (y.nb + 1) qc2)) [⟨43, 2, .slice (some ⟨rb, 0, none⟩) y.ng gc, y.ng, flatR (y.before off0 y.nc) y.ng⟩, ⟨23, 1, .slice (some ⟨hb, 0, none⟩) (y.nc + 1) hc2, y.nc + 1, (List.range y.nc).map F ++ [.slice (some ⟨rb, 0, none⟩) y.ng gc]⟩, ⟨43, 2, .slice qa2 (y.nb + 1) qc2, y.nb + 1, flatR y.b y.nb ++ [.int .i64 b0, .int .i64 b1]⟩, ⟨43, 2, .slice (some ⟨J1, 0, none⟩) 1 1, 1, [.int .i64 b0, .int .i64 b1]⟩]) := HR12.out.tab (HA12.out.bk _ _ _ (.head _)).2 (List.forall_mem_cons.2 ⟨(show 25 ≠ 43 by decide), List.forall_mem_cons.2 ⟨(show 25 ≠ 23 by decide), List.forall_mem_cons.2 ⟨(show 25 ≠ 43 by decide), List.forall_mem_cons.2 ⟨(show 25 ≠ 43 by decide), List.forall_mem_nil _⟩⟩⟩⟩) (Fr.set _ _ _ _)
            go_simp
            refine hK.out _ _ ?_
            clear hK K
            (try simp only [Act.put])
            refine wpAnyZ_done (by kernel_rfl) ?_ _
            go_wp2_with fail
            go_meet
            exact ⟨qa2, qc2, _, _, HA13.out, HR13.out⟩
          rename World => w20
          obtain ⟨ba, bc, _, _, hbf, hrw⟩ := hcut
          have HX20 := Lib.hid hbf
          have hgw : WLi w20 ⟨some ⟨hb, 0, none⟩, hc2, ba, bc, vra, vrc, some ⟨qn, on, none⟩, vnc⟩ y.grow := grow_wli ⟨HWL.out.2.2.1, HWL.out.2.2.2⟩ (fun j hj => (HF.out j hj).2) (below_step HB11.out hbf.fr) (hrw.own 0 _ rfl) (hrw.own 1 _ rfl) (by rw [HBT.out]; exact hrw.own 2 _ rfl)
          have hgs := grow_small HYS.out HOK.out
          have HFT : Hid (∀ X, Below w20.heap.size w20 X → Calls Try.prog 21 #[.agg #[.slice (some ⟨hb, 0, none⟩) (y.nc + 1) hc2, .slice ba (y.nb + 1) bc, .slice vra y.nr vrc, .slice (some ⟨qn, on, none⟩) y.nn vnc]] X fun e w' => e = .returned (.int .i64 y.grow.fault) ∧ Below X.heap.size X w') := fun X hX => lfault_any ⟨some ⟨hb, 0, none⟩, hc2, ba, bc, vra, vrc, some ⟨qn, on, none⟩, vnc⟩ y.grow hgs X (hgw.below hX)
          have HTX : Hid (∀ X, Below w20.heap.size w20 X → Calls Try.prog 20 #[.agg #[.slice (some ⟨hb, 0, none⟩) (y.nc + 1) hc2, .slice ba (y.nb + 1) bc, .slice vra y.nr vrc, .slice (some ⟨qn, on, none⟩) y.nn vnc]] X fun e w' => ∃ v' : WV, e = .returned (.agg #[v'.cv y.grow, v'.bv y.grow, v'.rv y.grow, v'.nv y.grow]) ∧ WL w' v' y.grow ∧ Below X.heap.size X w') := fun X hX => table_any ⟨some ⟨hb, 0, none⟩, hc2, ba, bc, vra, vrc, some ⟨qn, on, none⟩, vnc⟩ y.grow hgs X (hgw.below hX)
          have HGS := Lib.hid hgs
          clear hbf hrw hgw hgs HR18 HX18 HC20
          have k0 := HX20.out.cell (.head _) 0
          have k1 := HX20.out.cell (.head _) 1
          have k2 := HX20.out.cell (.head _) 2
          have k3 := HX20.out.cell (.head _) 3
          obtain ⟨ff, hff⟩ : ∃ f, y.grow.fault = f := ⟨_, rfl⟩
          rw [hff] at HFT
          by_cases hf0 : ff = 0
          · subst hf0
            have HOX := Lib.hid (Okt.of_fault hff)
            have HFU := Lib.hid (further HOK.out HOX.out HBB.out HAG.out HPOS.out)
            have HBX2 : Hid (∀ (X : World) (v' : WV), WL X v' y.grow → Calls Try.prog 39 #[.agg #[v'.cv y.grow, v'.bv y.grow, v'.rv y.grow, v'.nv y.grow]] X fun e w' => ∃ OD, e = .returned (.tuple #[.slice (some ⟨OD, 0, none⟩) (y.nc + 1) (y.nc + 1), .int .i64 0]) ∧ RowsAt w' (.slice (some ⟨OD, 0, none⟩) (y.nc + 1) (y.nc + 1)) (y.nc + 1) (fun _ => y.ng) (bndR y.grow off0) ∧ Below X.heap.size X w') := fun X v' h => by
              have h5 := Bounds_okS v' y.grow HGS.out X h hff HFU.out.1 (fun c g hc hg => agree_ne HFU.out.1 (by have := grow_ng HOK.out; omega) c g hc hg)
              rw [grow_ng HOK.out] at h5
              exact h5
            simp only [WV.cv, WV.bv, WV.rv, WV.nv] at HTX HBX2
            go_wp2_with (go_at_call 21; refine (HFT.out _ (Below.refl _ _)).mono ?_; rintro _ w21 ⟨rfl, hb21⟩; have HX21 := Lib.hid (HX20.out.below hb21); have HB21 := Lib.hid hb21; clear hb21; clear k0 k1 k2 k3; have k0 := HX21.out.cell (.head _) 0; have k1 := HX21.out.cell (.head _) 1; have k2 := HX21.out.cell (.head _) 2; have k3 := HX21.out.cell (.head _) 3)
            refine (HTX.out _ HB21.out).mono ?_
            rintro _ w22 ⟨v22, rfl, hl22, hb22⟩
            go_wp2_with fail
            refine (HBX2.out _ _ hl22).mono ?_
            rintro _ w23 ⟨OD, rfl, hrd, hb23⟩
            have HX23 := Lib.hid (HX21.out.below (below_step hb22 hb23))
            have HRD := Lib.hid hrd
            clear hl22 hb22 hb23 hrd k0 k1 k2 k3 HTX HBX2 HFT HX21 HX20 HB21
            have HW1 : Hid (∀ X, Below w23.heap.size w23 X → Calls Try.prog 42 #[.slice (some ⟨OD, 0, none⟩) y.nc (y.nc + 1), .slice (some ⟨OB, 0, none⟩) y.nc y.nc] X fun e w' => e = .returned (.bool true) ∧ Below X.heap.size X w') := fun X hX => by
              have h := wider_any (.slice (some ⟨OD, 0, none⟩) y.nc (y.nc + 1)) (.slice (some ⟨OB, 0, none⟩) y.nc y.nc) y.nc y.nc (fun _ => y.ng) (fun _ => y.ng) (bndR y.grow off0) (bndR y off0) X (slice_take (HRD.out.below hX) (by omega)) ((HRB.out.below HX23.out.fr).below hX) (by omega) (by omega) (fun _ _ => by omega) (fun _ _ => by omega)
              rw [widerB_eq (fun i hi => ⟨rfl, fun k hk => HFU.out.2.1 i k hi hk⟩)] at h
              exact h
            have HW2 : Hid (∀ X, Below w23.heap.size w23 X → Calls Try.prog 42 #[.slice (some ⟨OB, 0, none⟩) y.nc y.nc, .slice (some ⟨OD, 0, none⟩) y.nc (y.nc + 1)] X fun e w' => e = .returned (.bool true) ∧ Below X.heap.size X w') := fun X hX => by
              have h := wider_any (.slice (some ⟨OB, 0, none⟩) y.nc y.nc) (.slice (some ⟨OD, 0, none⟩) y.nc (y.nc + 1)) y.nc y.nc (fun _ => y.ng) (fun _ => y.ng) (bndR y off0) (bndR y.grow off0) X ((HRB.out.below HX23.out.fr).below hX) (slice_take (HRD.out.below hX) (by omega)) (by omega) (by omega) (fun _ _ => by omega) (fun _ _ => by omega)
              rw [widerB_eq (fun i hi => ⟨rfl, fun k hk => (HFU.out.2.1 i k hi hk).symm⟩)] at h
              exact h
            have HW3 : Hid (∀ X J, Below w23.heap.size w23 X → X.heap[J]? = some (.cells #[.slice (some ⟨pb, po, none⟩) y.ng pc] 34 (0, 0)) → Calls Try.prog 42 #[.slice (some ⟨J, 0, none⟩) 1 1, .slice (some ⟨OD, y.nc, none⟩) 1 1] X fun e w' => e = .returned (.bool true) ∧ Below X.heap.size X w') := fun X J hX hJ => by
              have hd := slice_drop (m := y.nc) (cap' := 1) (HRD.out.below hX) (by omega)
              rw [Nat.add_sub_cancel_left] at hd
              have h := wider_any (.slice (some ⟨J, 0, none⟩) 1 1) (.slice (some ⟨OD, y.nc, none⟩) 1 1) 1 1 (fun _ => y.ng) (fun _ => y.ng) (fun _ => y.before off0 y.nc) (fun j => bndR y.grow off0 (y.nc + j)) X (rows_one hJ ((HRP11.out.below HX23.out.fr).below hX)) hd (by omega) (by omega) (fun _ _ => by omega) (fun _ _ => by omega)
              have h3 : ∀ i, i < 1 → (fun _ : Nat => y.ng) i = (fun _ : Nat => y.ng) i ∧ ∀ k, k < (fun _ : Nat => y.ng) i → (fun _ : Nat => y.before off0 y.nc) i k = (fun j => bndR y.grow off0 (y.nc + j)) i k := fun i hi => by
                obtain rfl : i = 0 := by omega
                exact ⟨rfl, fun k hk => (HFU.out.2.2 k hk).symm⟩
              rw [widerB_eq h3] at h
              exact h
            have wn : IntKind.i64.wrap ((y.nc : Int) + 1) = (y.nc : Int) + 1 := IntWalk.i64_in _ (by omega)
            have hs1 : (y.nc : Int) ≤ ((y.nc + 1 : Nat) : Int) := by omega
            have hs2 : (0 : Int) ≤ (y.nc : Int) := by omega
            clear HFU HRD HRB
            go_wp2_with (first | (go_at_call 18; refine (HAW.out _).mono ?_; rintro _ w27 ⟨rfl, hb27⟩; have HB27 := Lib.hid (HA6.out.below (below_step HB11.out ((HX23.out.below HB26.out).below hb27).fr)).fr; clear hb27) | (go_at_call 42; have qq := HB25; clear qq; refine (HW3.out _ _ (below_step HB25.out (below_alloc _ _)) (heap_alloc_new _ _)).mono ?_; rintro _ w26 ⟨rfl, hb26⟩; have HB26 := Lib.hid (below_step (below_step HB25.out (below_alloc _ _)) hb26); clear hb26) | (go_at_call 42; have qq := HB24; clear qq; refine (HW2.out _ HB24.out).mono ?_; rintro _ w25 ⟨rfl, hb25⟩; have HB25 := Lib.hid (below_step HB24.out hb25); clear hb25) | (go_at_call 42; refine (HW1.out _ (Below.refl _ _)).mono ?_; rintro _ w24 ⟨rfl, hb24⟩; have HB24 := Lib.hid hb24; clear hb24))
            go_ret
            exact ⟨rfl, HB27.out⟩
          · have hq : (ff != 0) = true := by simp [hf0]
            clear hff
            go_wp2_with (first | (go_at_call 21; refine (HFT.out _ (Below.refl _ _)).mono ?_; rintro _ w21 ⟨rfl, hb21⟩; have HX21 := Lib.hid (HX20.out.below hb21); clear hb21) | (go_at_call 18; refine (HAW.out _).mono ?_; rintro _ w22 ⟨rfl, hb22⟩; have HB22 := Lib.hid (HA6.out.below (below_step HB11.out (HX21.out.below hb22).fr)).fr; clear hb22))
            go_ret
            exact ⟨rfl, HB22.out⟩
end Go.Proofs.Ytjaoflfophcibaa
