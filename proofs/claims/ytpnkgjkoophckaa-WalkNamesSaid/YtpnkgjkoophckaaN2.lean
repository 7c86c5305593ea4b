/- Walk: WalkNames' walk. Printed by gen_n2.py. -/
import Derived.Test.YtpnkgjkoophckaaN1
namespace Go.Proofs.Ytpnkgjkoophckaa
open Go.RowKit Go.Shelf Go.Maps

theorem BF.made5 (w : World) (c1 c2 c3 c4 c5 : Array Value) (t1 t2 t3 t4 t5 : TypeId) :
    BF w (((((w.alloc (.cells c1 t1)).alloc (.cells c2 t2)).alloc (.cells c3 t3)).alloc (.cells c4 t4)).alloc (.cells c5 t5)) [(w.heap.size, c1, t1), (w.heap.size + 1, c2, t2), (w.heap.size + 1 + 1, c3, t3), (w.heap.size + 1 + 1 + 1, c4, t4), (w.heap.size + 1 + 1 + 1 + 1, c5, t5)] := by
  have h := ((((BF.base w).alloc c1 t1).alloc c2 t2).alloc c3 t3).alloc c4 t4 |>.alloc c5 t5
  simp only [World.size_alloc] at h
  exact h.sub (List.forall_mem_cons.2 ⟨.tail _ (.tail _ (.tail _ (.tail _ (.head _)))), List.forall_mem_cons.2 ⟨.tail _ (.tail _ (.tail _ (.head _))), List.forall_mem_cons.2 ⟨.tail _ (.tail _ (.head _)), List.forall_mem_cons.2 ⟨.tail _ (.head _), List.forall_mem_cons.2 ⟨.head _, List.forall_mem_nil _⟩⟩⟩⟩⟩)
theorem BF.low {w W X : World} {L : List (Nat × Array Value × TypeId)} (h : BF W X L) (hb : Below w.heap.size w W) : BF w X L :=
  ⟨below_step hb h.fr, fun b cs T hm => ⟨Nat.le_trans hb.size (h.bk b cs T hm).1, (h.bk b cs T hm).2⟩⟩
theorem eA_in (W : World) (n : Nat) : IntsIn (W.alloc (.cells (eA (fun _ => .int .i64 0) n) 3)) (.slice (some ⟨W.heap.size, 0, none⟩) n n) n (fun _ => 0) :=
  .inr ⟨W.heap.size, 0, n, rfl, by simp, fun j hj => by rw [Nat.zero_add]; exact (cell_of_row _ _ _ _ _ _ (heap_alloc_new W _)).trans (eA_get _ hj)⟩
theorem time_bad (x : MV) (m : Mp) (u : LV) (y : Wl) (t : TV) (n1 n2 : Nat) (tw tr : Nat → Int) (w : World) (h : MpIn w x m) (hu : WlIn w u y) (h1 : IntsIn w (.slice t.wa n1 t.wc) n1 tw) (h2 : IntsIn w (.slice t.ra n2 t.rc) n2 tr) (hnw : m.nw ≤ 100000) (hnr : m.nr ≤ 100000) (hl : y.nl ≤ 100000) (hc : y.nc ≤ 100000) {E : Int} (he : timeE m y n1 n2 tw tr = E) (h0 : E ≠ 0) : Calls Try.prog 52 #[.agg #[.slice x.wa m.nw x.wc, .slice x.ra m.nr x.rc], .agg #[.slice u.ra y.nl u.rc, .slice u.ca y.nc u.cc], .agg #[.slice t.wa n1 t.wc, .slice t.ra n2 t.rc]] w fun e w' => e = .returned (.tuple #[.int .i64 0, .int .i64 E]) ∧ Below w.heap.size w w' := by
  have e := Time_any x m u y t n1 n2 tw tr w h hu h1 h2 hnw hnr hl hc
  have e2 : timeV m y n1 n2 tw tr = 0 := by unfold timeV; rw [if_neg (by rw [he]; exact h0)]
  rw [he, e2] at e
  exact e
theorem BF.both {w W X : World} {L L' : List (Nat × Array Value × TypeId)} (h1 : BF w W L) (h2 : BF W X L') : BF w X (L' ++ L) := by
  refine ⟨below_step h1.fr h2.fr, fun b cs T hm => ?_⟩
  rcases List.mem_append.1 hm with hm | hm
  · exact ⟨Nat.le_trans h1.fr.size (h2.bk b cs T hm).1, (h2.bk b cs T hm).2⟩
  · exact (h1.below h2.fr).bk b cs T hm
theorem own_bf {X : World} {base E size n g : Nat} {cs : Array Value} (h : X.heap[g]? = some (.cells cs E (0, 0))) (hb : base ≤ g) (hc : cs.size = n * size) (hn : n ≤ maxLen) : X.ownsRow base E size (.slice (some ⟨g, 0, none⟩) n n) n cs.toList :=
  ⟨by rw [Array.length_toList]; exact hc, .inr ⟨g, n, cs, rfl, hb, h, Nat.le_refl _, hn, by rw [hc], by rw [← hc, ← Array.length_toList, List.take_length]⟩⟩
theorem Rws.one {X : World} {base sz n : Nat} {T : TypeId} {v : Value} {xs : List Value} (h : X.ownsRow base T sz v n xs) : Rws base X [⟨T, sz, v, n, xs⟩] := by
  refine ⟨fun i p hp => ?_, fun i j p q hij hp hq k _ _ => ?_⟩
  · rcases i with _ | i
    · cases hp; exact h
    · cases hp
  · rcases i with _ | i
    · rcases j with _ | j
      · exact hij rfl
      · cases hq
    · cases hp
theorem chk_any (x : MV) (m : Mp) (w : World) (h : MpIn w x m) (hnw : m.nw ≤ 100000) (hnr : m.nr ≤ 100000) {E : Int} (he : m.fault = E) : Calls Try.prog 51 #[.agg #[.slice x.wa m.nw x.wc, .slice x.ra m.nr x.rc]] w fun e w' => e = .returned (.int .i64 E) ∧ Below w.heap.size w w' := by
  have e := check_any x m w h hnw hnr
  rw [he] at e
  exact e
def uP (b1 b2 b3 b4 : Nat) (k : Nat) : LV := if k = 0 then ⟨some ⟨b1, 0, none⟩, 3, some ⟨b2, 0, none⟩, 2⟩ else ⟨some ⟨b3, 0, none⟩, 3, some ⟨b4, 0, none⟩, 2⟩
theorem plan_in {w X : World} {b1 b2 b3 b4 b5 : Nat} (h : BF w X [(b1, #[.int .i64 0, .int .i64 1, .int .i64 0], 3), (b2, #[.int .i64 0, .int .i64 1], 3), (b3, #[.int .i64 0, .int .i64 3, .int .i64 0], 3), (b4, #[.int .i64 0, .int .i64 3], 3), (b5, #[.slice (some ⟨b1, 0, none⟩) 3 3, .slice (some ⟨b2, 0, none⟩) 2 2, .slice (some ⟨b3, 0, none⟩) 3 3, .slice (some ⟨b4, 0, none⟩) 2 2], 30)]) : PlIn X (.slice (some ⟨b5, 0, none⟩) 2 2) 2 (uP b1 b2 b3 b4) yP := by
  have m5 := h.cell (.tail _ (.tail _ (.tail _ (.tail _ (.head _)))))
  refine ⟨.inr ⟨b5, 0, 2, rfl, (h.lt (.tail _ (.tail _ (.tail _ (.tail _ (.head _)))))).2, fun j hj => ?_⟩, fun k hk => ?_⟩
  · rcases j with _ | _ | j
    · exact ⟨m5 0, m5 1⟩
    · exact ⟨m5 2, m5 3⟩
    · exact absurd hj (by omega)
  · rcases k with _ | _ | k
    · exact ⟨h.ints (z := yA.rt) (n := 3) (.head _) (fun j hj => by rcases j with _ | _ | _ | j <;> first | rfl | exact absurd hj (by omega)) 3, h.ints (z := yA.ct) (n := 2) (.tail _ (.head _)) (fun j hj => by rcases j with _ | _ | j <;> first | rfl | exact absurd hj (by omega)) 2⟩
    · exact ⟨h.ints (z := yB.rt) (n := 3) (.tail _ (.tail _ (.head _))) (fun j hj => by rcases j with _ | _ | _ | j <;> first | rfl | exact absurd hj (by omega)) 3, h.ints (z := yB.ct) (n := 2) (.tail _ (.tail _ (.tail _ (.head _)))) (fun j hj => by rcases j with _ | _ | j <;> first | rfl | exact absurd hj (by omega)) 2⟩
    · exact absurd hk (by omega)
theorem yP_bd : ∀ k, k < 2 → (yP k).nl ≤ 100000 ∧ (yP k).nc ≤ 100000 := fun k hk => by rcases k with _ | _ | k <;> first | exact ⟨by decide, by decide⟩ | exact absurd hk (by omega)
set_option maxRecDepth 100000 in
set_option maxHeartbeats 32000000 in
theorem walkNames_walk (w : World) : Calls Try.prog 17 #[] w fun e w' => e = .returned (.bool true) ∧ Below w.heap.size w w' := by
  obtain ⟨i2, hj2, hu0, hu1, hu2⟩ := info_parts Try.infoRoadW
  have HA0 : Hid (BF w w []) := BF.base w
  go_enter Try.func17, Try.ntmps17
  go_wp2_with fail
  refine (parish_any _).mono ?_
  rintro _ w1 ⟨x1, rfl, hm, hb⟩
  have HA1 := Lib.hid (HA0.out.below hb)
  have HM_1 := Lib.hid (hm)
  clear hb HA0  hm
  go_wp2_with fail
  refine (way_ok x1 pm 0 2 _ HM_1.out (by decide) (by decide) nm_way.1 nm_way.2.2.1 nm_way.2.1).mono ?_
  rintro _ w2 ⟨ga, gc, rfl, hp, hb⟩
  have HA2 := Lib.hid (HA1.out.below hb)
  clear HM_1
  have HP_2 := Lib.hid (hp)
  clear hb HA1  hp
  go_wp2_with fail
  refine (parish_any _).mono ?_
  rintro _ w3 ⟨x3, rfl, hm, hb⟩
  have HA3 := Lib.hid (HA2.out.below hb)
  have HP_3 := Lib.hid (HP_2.out.below hb)
  have HM_3 := Lib.hid (hm)
  clear hb HA2 HP_2 hm
  have HX4 := Lib.hid ((BF.base w3).alloc #[.int .i64 3] 3)
  have HA4 := Lib.hid (HA3.out.below HX4.out.fr)
  have HP_4 := Lib.hid (HP_3.out.below HX4.out.fr)
  have HM_4 := Lib.hid (HM_3.out.below HX4.out.fr)
  have HI_4 := Lib.hid (HX4.out.ints (z := z3) (n := 1) (.head _) (fun j hj => by rcases j with _ | j <;> first | rfl | exact absurd hj (by omega)) 1)
  go_wp2_with fail
  clear HX4 HA3 HP_3 HM_3
  generalize w3.alloc (.cells #[.int .i64 3] 3) = w4 at *
  refine (tour_ok x3 pm _ 1 1 z3 _ HM_4.out HI_4.out (by decide) (by decide) (by decide) nm_tour.1 nm_tour.2.1 nm_tour.2.2.1 nm_tour.2.2.2).mono ?_
  rintro _ w5 ⟨ta, tc, ua, uc, rfl, hr, hc, hb⟩
  have HA5 := Lib.hid (HA4.out.below hb)
  clear HM_4
  clear HI_4
  have HP_5 := Lib.hid (HP_4.out.below hb)
  have HR_5 := Lib.hid (hr)
  have HC_5 := Lib.hid (hc)
  clear hb HA4 HP_4 hr hc
  have HX6 := Lib.hid ((BF.base w5).alloc #[.slice ta 3 tc, .slice ua 1 uc] 30)
  have HA6 := Lib.hid (HA5.out.alloc #[.slice ta 3 tc, .slice ua 1 uc] 30)
  have HP_6 := Lib.hid (HP_5.out.below HX6.out.fr)
  have HR_6 := Lib.hid (HR_5.out.below HX6.out.fr)
  have HC_6 := Lib.hid (HC_5.out.below HX6.out.fr)
  go_wp2_with fail
  clear HX6 HA5 HP_5 HR_5 HC_5
  generalize w5.heap.size = B4 at *
  generalize w5.alloc (.cells #[.slice ta 3 tc, .slice ua 1 uc] 30) = w6 at *
  refine (parish_any _).mono ?_
  rintro _ w7 ⟨x7, rfl, hm, hb⟩
  have HA7 := Lib.hid (HA6.out.below hb)
  have HP_7 := Lib.hid (HP_6.out.below hb)
  have HR_7 := Lib.hid (HR_6.out.below hb)
  have HC_7 := Lib.hid (HC_6.out.below hb)
  have HM_7 := Lib.hid (hm)
  clear hb HA6 HP_6 HR_6 HC_6 hm
  go_wp2_with fail
  refine (reach_ok x7 pm 13 _ HM_7.out (by decide) (by decide) nm_reach.1 nm_reach.2).mono ?_
  rintro _ w8 ⟨qa, qc, rfl, hq, hb⟩
  have HA8 := Lib.hid (HA7.out.below hb)
  clear HM_7
  have HP_8 := Lib.hid (HP_7.out.below hb)
  have HR_8 := Lib.hid (HR_7.out.below hb)
  have HC_8 := Lib.hid (HC_7.out.below hb)
  have HQ_8 := Lib.hid (hq)
  clear hb HA7 HP_7 HR_7 HC_7 hq
  go_wp2_with fail
  refine (parish_any _).mono ?_
  rintro _ w9 ⟨x9, rfl, hm, hb⟩
  have HA9 := Lib.hid (HA8.out.below hb)
  have HP_9 := Lib.hid (HP_8.out.below hb)
  have HR_9 := Lib.hid (HR_8.out.below hb)
  have HC_9 := Lib.hid (HC_8.out.below hb)
  have HQ_9 := Lib.hid (HQ_8.out.below hb)
  have HM_9 := Lib.hid (hm)
  clear hb HA8 HP_8 HR_8 HC_8 HQ_8 hm
  go_wp2_with fail
  refine (tour_ok x9 pm none 0 0 (fun _ => 0) _ HM_9.out (.inl ⟨_, _, rfl, rfl⟩) (by decide) (by decide) (by decide) nm_tour0.1 nm_tour0.2.1 nm_tour0.2.2.1 nm_tour0.2.2.2).mono ?_
  rintro _ w10 ⟨sa, sc, va, vc, rfl, hr, _, hb⟩
  have HA10 := Lib.hid (HA9.out.below hb)
  clear HM_9
  have HP_10 := Lib.hid (HP_9.out.below hb)
  have HR_10 := Lib.hid (HR_9.out.below hb)
  have HC_10 := Lib.hid (HC_9.out.below hb)
  have HQ_10 := Lib.hid (HQ_9.out.below hb)
  have HS_10 := Lib.hid (hr)
  clear hb HA9 HP_9 HR_9 HC_9 HQ_9 hr
  have HX11 := Lib.hid ((BF.base w10).alloc #[.slice sa 1 sc, .slice va 0 vc] 30)
  have HA11 := Lib.hid (HA10.out.alloc #[.slice sa 1 sc, .slice va 0 vc] 30)
  have HP_11 := Lib.hid (HP_10.out.below HX11.out.fr)
  have HR_11 := Lib.hid (HR_10.out.below HX11.out.fr)
  have HC_11 := Lib.hid (HC_10.out.below HX11.out.fr)
  have HQ_11 := Lib.hid (HQ_10.out.below HX11.out.fr)
  have HS_11 := Lib.hid (HS_10.out.below HX11.out.fr)
  go_wp2_with fail
  clear HX11 HA10 HP_10 HR_10 HC_10 HQ_10 HS_10
  generalize w10.heap.size = B9 at *
  generalize w10.alloc (.cells #[.slice sa 1 sc, .slice va 0 vc] 30) = w11 at *
  refine (parish_any _).mono ?_
  rintro _ w12 ⟨x12, rfl, hm, hb⟩
  have HA12 := Lib.hid (HA11.out.below hb)
  have HP_12 := Lib.hid (HP_11.out.below hb)
  have HR_12 := Lib.hid (HR_11.out.below hb)
  have HC_12 := Lib.hid (HC_11.out.below hb)
  have HQ_12 := Lib.hid (HQ_11.out.below hb)
  have HS_12 := Lib.hid (HS_11.out.below hb)
  have HM_12 := Lib.hid (hm)
  clear hb HA11 HP_11 HR_11 HC_11 HQ_11 HS_11 hm
  have HX13 := Lib.hid (BF.made5 w12 #[.int .i64 0, .int .i64 1, .int .i64 0] #[.int .i64 0, .int .i64 1] #[.int .i64 0, .int .i64 3, .int .i64 0] #[.int .i64 0, .int .i64 3] #[.slice (some ⟨w12.heap.size, 0, none⟩) 3 3, .slice (some ⟨w12.heap.size + 1, 0, none⟩) 2 2, .slice (some ⟨w12.heap.size + 1 + 1, 0, none⟩) 3 3, .slice (some ⟨w12.heap.size + 1 + 1 + 1, 0, none⟩) 2 2] 3 3 3 3 30)
  have HA13 := Lib.hid (HA12.out.below HX13.out.fr)
  have HP_13 := Lib.hid (HP_12.out.below HX13.out.fr)
  have HR_13 := Lib.hid (HR_12.out.below HX13.out.fr)
  have HC_13 := Lib.hid (HC_12.out.below HX13.out.fr)
  have HQ_13 := Lib.hid (HQ_12.out.below HX13.out.fr)
  have HS_13 := Lib.hid (HS_12.out.below HX13.out.fr)
  have HM_13 := Lib.hid (HM_12.out.below HX13.out.fr)
  have HPL := Lib.hid (plan_in HX13.out)
  go_wp2_with fail
  clear HX13 HA12 HP_12 HR_12 HC_12 HQ_12 HS_12 HM_12
  generalize (((((w12.alloc (.cells #[.int .i64 0, .int .i64 1, .int .i64 0] 3)).alloc (.cells #[.int .i64 0, .int .i64 1] 3)).alloc (.cells #[.int .i64 0, .int .i64 3, .int .i64 0] 3)).alloc (.cells #[.int .i64 0, .int .i64 3] 3)).alloc (.cells #[.slice (some ⟨w12.heap.size, 0, none⟩) 3 3, .slice (some ⟨w12.heap.size + 1, 0, none⟩) 2 2, .slice (some ⟨w12.heap.size + 1 + 1, 0, none⟩) 3 3, .slice (some ⟨w12.heap.size + 1 + 1 + 1, 0, none⟩) 2 2] 30)) = w13 at *
  refine (faults_ok x12 pm _ 2 2 _ yP 18 _ HM_13.out HPL.out (by decide) yP_bd (by decide) (by decide) nm_flt.1 nm_flt.2.1 nm_flt.2.2.1 nm_flt.2.2.2).mono ?_
  rintro _ w14 ⟨fa, fc, fb, fd, fe, fg, rfl, h1, h2, h3, hb⟩
  have HA14 := Lib.hid (HA13.out.below hb)
  clear HM_13
  have HP_14 := Lib.hid (HP_13.out.below hb)
  have HR_14 := Lib.hid (HR_13.out.below hb)
  have HC_14 := Lib.hid (HC_13.out.below hb)
  have HQ_14 := Lib.hid (HQ_13.out.below hb)
  have HS_14 := Lib.hid (HS_13.out.below hb)
  have HD1_14 := Lib.hid (h1)
  have HD2_14 := Lib.hid (h2)
  have HD3_14 := Lib.hid (h3)
  clear hb HA13 HP_13 HR_13 HC_13 HQ_13 HS_13 h1 h2 h3
  clear HPL
  have b40 := HA14.out.cell (.tail _ (.head _)) 0
  have b41 := HA14.out.cell (.tail _ (.head _)) 1
  have b90 := HA14.out.cell (.head _) 0
  have b91 := HA14.out.cell (.head _) 1
  have HX15 := Lib.hid ((BF.base w14).alloc #[.int .i64 0, .int .i64 1, .int .i64 2] 3)
  have HA15 := Lib.hid (HA14.out.below HX15.out.fr)
  have HP_15 := Lib.hid (HP_14.out.below HX15.out.fr)
  have HR_15 := Lib.hid (HR_14.out.below HX15.out.fr)
  have HC_15 := Lib.hid (HC_14.out.below HX15.out.fr)
  have HQ_15 := Lib.hid (HQ_14.out.below HX15.out.fr)
  have HS_15 := Lib.hid (HS_14.out.below HX15.out.fr)
  have HD1_15 := Lib.hid (HD1_14.out.below HX15.out.fr)
  have HD2_15 := Lib.hid (HD2_14.out.below HX15.out.fr)
  have HD3_15 := Lib.hid (HD3_14.out.below HX15.out.fr)
  have HE_15 := Lib.hid (HX15.out.ints (z := (zL [0, 1, 2])) (n := 3) (.head _) (fun j hj => by rcases j with _ | _ | _ | j <;> first | rfl | exact absurd hj (by omega)) 3)
  go_wp2_with fail
  clear HX15 HA14 HP_14 HR_14 HC_14 HQ_14 HS_14 HD1_14 HD2_14 HD3_14
  generalize w14.alloc (.cells #[.int .i64 0, .int .i64 1, .int .i64 2] 3) = w15 at *
  refine (ints_eq ga _ 3 gc 3 (zL [0, 1, 2]) (zL [0, 1, 2]) _ (by decide) HP_15.out HE_15.out (fun _ _ => rfl)).mono ?_
  rintro _ w16 ⟨rfl, hb⟩
  have HA16 := Lib.hid (HA15.out.below hb)
  clear HP_15
  clear HE_15
  have HR_16 := Lib.hid (HR_15.out.below hb)
  have HC_16 := Lib.hid (HC_15.out.below hb)
  have HQ_16 := Lib.hid (HQ_15.out.below hb)
  have HS_16 := Lib.hid (HS_15.out.below hb)
  have HD1_16 := Lib.hid (HD1_15.out.below hb)
  have HD2_16 := Lib.hid (HD2_15.out.below hb)
  have HD3_16 := Lib.hid (HD3_15.out.below hb)
  clear hb HA15 HR_15 HC_15 HQ_15 HS_15 HD1_15 HD2_15 HD3_15 
  clear b40 b41 b90 b91
  have b40 := HA16.out.cell (.tail _ (.head _)) 0
  have b41 := HA16.out.cell (.tail _ (.head _)) 1
  have b90 := HA16.out.cell (.head _) 0
  have b91 := HA16.out.cell (.head _) 1
  have HX17 := Lib.hid ((BF.base w16).alloc #[.int .i64 0, .int .i64 3, .int .i64 0] 3)
  have HA17 := Lib.hid (HA16.out.below HX17.out.fr)
  have HR_17 := Lib.hid (HR_16.out.below HX17.out.fr)
  have HC_17 := Lib.hid (HC_16.out.below HX17.out.fr)
  have HQ_17 := Lib.hid (HQ_16.out.below HX17.out.fr)
  have HS_17 := Lib.hid (HS_16.out.below HX17.out.fr)
  have HD1_17 := Lib.hid (HD1_16.out.below HX17.out.fr)
  have HD2_17 := Lib.hid (HD2_16.out.below HX17.out.fr)
  have HD3_17 := Lib.hid (HD3_16.out.below HX17.out.fr)
  have HE_17 := Lib.hid (HX17.out.ints (z := (zL [0, 3, 0])) (n := 3) (.head _) (fun j hj => by rcases j with _ | _ | _ | j <;> first | rfl | exact absurd hj (by omega)) 3)
  go_wp2_with fail
  clear HX17 HA16 HR_16 HC_16 HQ_16 HS_16 HD1_16 HD2_16 HD3_16
  generalize w16.alloc (.cells #[.int .i64 0, .int .i64 3, .int .i64 0] 3) = w17 at *
  refine (ints_eq ta _ 3 tc 3 (zL [0, 3, 0]) (zL [0, 3, 0]) _ (by decide) HR_17.out HE_17.out (fun _ _ => rfl)).mono ?_
  rintro _ w18 ⟨rfl, hb⟩
  have HA18 := Lib.hid (HA17.out.below hb)
  clear HR_17
  clear HE_17
  have HC_18 := Lib.hid (HC_17.out.below hb)
  have HQ_18 := Lib.hid (HQ_17.out.below hb)
  have HS_18 := Lib.hid (HS_17.out.below hb)
  have HD1_18 := Lib.hid (HD1_17.out.below hb)
  have HD2_18 := Lib.hid (HD2_17.out.below hb)
  have HD3_18 := Lib.hid (HD3_17.out.below hb)
  clear hb HA17 HC_17 HQ_17 HS_17 HD1_17 HD2_17 HD3_17 
  clear b40 b41 b90 b91
  have b40 := HA18.out.cell (.tail _ (.head _)) 0
  have b41 := HA18.out.cell (.tail _ (.head _)) 1
  have b90 := HA18.out.cell (.head _) 0
  have b91 := HA18.out.cell (.head _) 1
  have HX19 := Lib.hid ((BF.base w18).alloc #[.int .i64 3] 3)
  have HA19 := Lib.hid (HA18.out.below HX19.out.fr)
  have HC_19 := Lib.hid (HC_18.out.below HX19.out.fr)
  have HQ_19 := Lib.hid (HQ_18.out.below HX19.out.fr)
  have HS_19 := Lib.hid (HS_18.out.below HX19.out.fr)
  have HD1_19 := Lib.hid (HD1_18.out.below HX19.out.fr)
  have HD2_19 := Lib.hid (HD2_18.out.below HX19.out.fr)
  have HD3_19 := Lib.hid (HD3_18.out.below HX19.out.fr)
  have HE_19 := Lib.hid (HX19.out.ints (z := (zL [3])) (n := 1) (.head _) (fun j hj => by rcases j with _ | j <;> first | rfl | exact absurd hj (by omega)) 1)
  go_wp2_with fail
  clear HX19 HA18 HC_18 HQ_18 HS_18 HD1_18 HD2_18 HD3_18
  generalize w18.alloc (.cells #[.int .i64 3] 3) = w19 at *
  refine (ints_eq ua _ 1 uc 1 (zL [3]) (zL [3]) _ (by decide) HC_19.out HE_19.out (fun _ _ => rfl)).mono ?_
  rintro _ w20 ⟨rfl, hb⟩
  have HA20 := Lib.hid (HA19.out.below hb)
  clear HC_19
  clear HE_19
  have HQ_20 := Lib.hid (HQ_19.out.below hb)
  have HS_20 := Lib.hid (HS_19.out.below hb)
  have HD1_20 := Lib.hid (HD1_19.out.below hb)
  have HD2_20 := Lib.hid (HD2_19.out.below hb)
  have HD3_20 := Lib.hid (HD3_19.out.below hb)
  clear hb HA19 HQ_19 HS_19 HD1_19 HD2_19 HD3_19 
  clear b40 b41 b90 b91
  have b40 := HA20.out.cell (.tail _ (.head _)) 0
  have b41 := HA20.out.cell (.tail _ (.head _)) 1
  have b90 := HA20.out.cell (.head _) 0
  have b91 := HA20.out.cell (.head _) 1
  have HX21 := Lib.hid ((BF.base w20).alloc #[.int .i64 0, .int .i64 1, .int .i64 2] 3)
  have HA21 := Lib.hid (HA20.out.below HX21.out.fr)
  have HQ_21 := Lib.hid (HQ_20.out.below HX21.out.fr)
  have HS_21 := Lib.hid (HS_20.out.below HX21.out.fr)
  have HD1_21 := Lib.hid (HD1_20.out.below HX21.out.fr)
  have HD2_21 := Lib.hid (HD2_20.out.below HX21.out.fr)
  have HD3_21 := Lib.hid (HD3_20.out.below HX21.out.fr)
  have HE_21 := Lib.hid (HX21.out.ints (z := (zL [0, 1, 2])) (n := 3) (.head _) (fun j hj => by rcases j with _ | _ | _ | j <;> first | rfl | exact absurd hj (by omega)) 3)
  go_wp2_with fail
  clear HX21 HA20 HQ_20 HS_20 HD1_20 HD2_20 HD3_20
  generalize w20.alloc (.cells #[.int .i64 0, .int .i64 1, .int .i64 2] 3) = w21 at *
  refine (ints_eq qa _ 3 qc 3 (zL [0, 1, 2]) (zL [0, 1, 2]) _ (by decide) HQ_21.out HE_21.out (fun _ _ => rfl)).mono ?_
  rintro _ w22 ⟨rfl, hb⟩
  have HA22 := Lib.hid (HA21.out.below hb)
  clear HQ_21
  clear HE_21
  have HS_22 := Lib.hid (HS_21.out.below hb)
  have HD1_22 := Lib.hid (HD1_21.out.below hb)
  have HD2_22 := Lib.hid (HD2_21.out.below hb)
  have HD3_22 := Lib.hid (HD3_21.out.below hb)
  clear hb HA21 HS_21 HD1_21 HD2_21 HD3_21 
  clear b40 b41 b90 b91
  have b40 := HA22.out.cell (.tail _ (.head _)) 0
  have b41 := HA22.out.cell (.tail _ (.head _)) 1
  have b90 := HA22.out.cell (.head _) 0
  have b91 := HA22.out.cell (.head _) 1
  have HX23 := Lib.hid ((BF.base w22).alloc #[.int .i64 0] 3)
  have HA23 := Lib.hid (HA22.out.below HX23.out.fr)
  have HS_23 := Lib.hid (HS_22.out.below HX23.out.fr)
  have HD1_23 := Lib.hid (HD1_22.out.below HX23.out.fr)
  have HD2_23 := Lib.hid (HD2_22.out.below HX23.out.fr)
  have HD3_23 := Lib.hid (HD3_22.out.below HX23.out.fr)
  have HE_23 := Lib.hid (HX23.out.ints (z := (zL [0])) (n := 1) (.head _) (fun j hj => by rcases j with _ | j <;> first | rfl | exact absurd hj (by omega)) 1)
  go_wp2_with fail
  clear HX23 HA22 HS_22 HD1_22 HD2_22 HD3_22
  generalize w22.alloc (.cells #[.int .i64 0] 3) = w23 at *
  refine (ints_eq sa _ 1 sc 1 (zL [0]) (zL [0]) _ (by decide) HS_23.out HE_23.out (fun _ _ => rfl)).mono ?_
  rintro _ w24 ⟨rfl, hb⟩
  have HA24 := Lib.hid (HA23.out.below hb)
  clear HS_23
  clear HE_23
  have HD1_24 := Lib.hid (HD1_23.out.below hb)
  have HD2_24 := Lib.hid (HD2_23.out.below hb)
  have HD3_24 := Lib.hid (HD3_23.out.below hb)
  clear hb HA23 HD1_23 HD2_23 HD3_23 
  clear b40 b41 b90 b91
  have b40 := HA24.out.cell (.tail _ (.head _)) 0
  have b41 := HA24.out.cell (.tail _ (.head _)) 1
  have b90 := HA24.out.cell (.head _) 0
  have b91 := HA24.out.cell (.head _) 1
  have HX25 := Lib.hid ((BF.base w24).alloc #[.int .i64 2] 3)
  have HA25 := Lib.hid (HA24.out.below HX25.out.fr)
  have HD1_25 := Lib.hid (HD1_24.out.below HX25.out.fr)
  have HD2_25 := Lib.hid (HD2_24.out.below HX25.out.fr)
  have HD3_25 := Lib.hid (HD3_24.out.below HX25.out.fr)
  have HE_25 := Lib.hid (HX25.out.ints (z := (zL [2])) (n := 1) (.head _) (fun j hj => by rcases j with _ | j <;> first | rfl | exact absurd hj (by omega)) 1)
  go_wp2_with fail
  clear HX25 HA24 HD1_24 HD2_24 HD3_24
  generalize w24.alloc (.cells #[.int .i64 2] 3) = w25 at *
  refine (ints_eq fa _ 1 fc 1 (zL [2]) (zL [2]) _ (by decide) HD1_25.out HE_25.out (fun _ _ => rfl)).mono ?_
  rintro _ w26 ⟨rfl, hb⟩
  have HA26 := Lib.hid (HA25.out.below hb)
  clear HD1_25
  clear HE_25
  have HD2_26 := Lib.hid (HD2_25.out.below hb)
  have HD3_26 := Lib.hid (HD3_25.out.below hb)
  clear hb HA25 HD2_25 HD3_25 
  clear b40 b41 b90 b91
  have b40 := HA26.out.cell (.tail _ (.head _)) 0
  have b41 := HA26.out.cell (.tail _ (.head _)) 1
  have b90 := HA26.out.cell (.head _) 0
  have b91 := HA26.out.cell (.head _) 1
  have HX27 := Lib.hid ((BF.base w26).alloc #[.int .i64 0] 3)
  have HA27 := Lib.hid (HA26.out.below HX27.out.fr)
  have HD2_27 := Lib.hid (HD2_26.out.below HX27.out.fr)
  have HD3_27 := Lib.hid (HD3_26.out.below HX27.out.fr)
  have HE_27 := Lib.hid (HX27.out.ints (z := (zL [0])) (n := 1) (.head _) (fun j hj => by rcases j with _ | j <;> first | rfl | exact absurd hj (by omega)) 1)
  go_wp2_with fail
  clear HX27 HA26 HD2_26 HD3_26
  generalize w26.alloc (.cells #[.int .i64 0] 3) = w27 at *
  refine (ints_eq fb _ 1 fd 1 (zL [0]) (zL [0]) _ (by decide) HD2_27.out HE_27.out (fun _ _ => rfl)).mono ?_
  rintro _ w28 ⟨rfl, hb⟩
  have HA28 := Lib.hid (HA27.out.below hb)
  clear HD2_27
  clear HE_27
  have HD3_28 := Lib.hid (HD3_27.out.below hb)
  clear hb HA27 HD3_27 
  clear b40 b41 b90 b91
  have b40 := HA28.out.cell (.tail _ (.head _)) 0
  have b41 := HA28.out.cell (.tail _ (.head _)) 1
  have b90 := HA28.out.cell (.head _) 0
  have b91 := HA28.out.cell (.head _) 1
  have HX29 := Lib.hid ((BF.base w28).alloc #[.int .i64 1] 3)
  have HA29 := Lib.hid (HA28.out.below HX29.out.fr)
  have HD3_29 := Lib.hid (HD3_28.out.below HX29.out.fr)
  have HE_29 := Lib.hid (HX29.out.ints (z := (zL [1])) (n := 1) (.head _) (fun j hj => by rcases j with _ | j <;> first | rfl | exact absurd hj (by omega)) 1)
  go_wp2_with fail
  clear HX29 HA28 HD3_28
  generalize w28.alloc (.cells #[.int .i64 1] 3) = w29 at *
  refine (ints_eq fe _ 1 fg 1 (zL [1]) (zL [1]) _ (by decide) HD3_29.out HE_29.out (fun _ _ => rfl)).mono ?_
  rintro _ w30 ⟨rfl, hb⟩
  have HA30 := Lib.hid (HA29.out.below hb)
  clear HD3_29
  clear HE_29
  clear hb HA29  
  clear b40 b41 b90 b91
  go_upto_region 8 with fail
  have HB8 := Lib.hid HA30.out.fr
  clear HA30
  go_cut [16] from 1 to 152 (fun s16 wx => ∃ IB R Wb, s16 = .pointer (some ⟨IB, 0, none⟩) ∧ IB ≠ R ∧ IB ≠ Wb ∧ BF w wx [(IB, #[.slice (some ⟨Wb, 0, none⟩) 4 4, .slice (some ⟨R, 0, none⟩) 4 4], 37), (R, kR, 120), (Wb, kW, 100)])
  case first => as_aux_lemma =>
    go_wp2_with fail
    refine (parish_own _).mono ?_
    rintro _ wp ⟨R, Wb, rfl, _, hbf⟩
    have HAB := Lib.hid (hbf.low HB8.out)
    have HAI := Lib.hid (HAB.out.alloc #[.slice (some ⟨Wb, 0, none⟩) 4 4, .slice (some ⟨R, 0, none⟩) 4 4] 37)
    have hn1 := (HAB.out.lt (.head _)).2
    have hn2 := (HAB.out.lt (.tail _ (.head _))).2
    clear hbf HB8
    go_wp2_with fail
    go_meet
    exact ⟨_, R, Wb, rfl, by omega, by omega, HAI.out⟩
  case rest =>
  obtain ⟨IB, R, Wb, rfl, hnR, hnW, hbf⟩ := hcut
  rename World => wr
  have HA0 := Lib.hid hbf
  clear hbf HB8
  have e0 := HA0.out.cell (.head _) 0
  have e1 := HA0.out.cell (.head _) 1
  have f1 := HA0.out.thaw (.head _) 1
  have HA1 : Hid (BF w (wr.setCell ⟨IB, 1, none⟩ (.slice (some ⟨R, 0, none⟩) 2 4)) [(IB, #[.slice (some ⟨Wb, 0, none⟩) 4 4, .slice (some ⟨R, 0, none⟩) 2 4], 37), (R, kR, 120), (Wb, kW, 100)]) := BF.set1 (i := 1) (cs' := #[.slice (some ⟨Wb, 0, none⟩) 4 4, .slice (some ⟨R, 0, none⟩) 2 4]) HA0.out (.head _) (.slice (some ⟨R, 0, none⟩) 2 4) (by simp) rfl (L' := [(R, kR, 120), (Wb, kW, 100)]) (List.forall_mem_cons.2 ⟨⟨fun e => hnR e.symm, .tail _ (.head _)⟩, List.forall_mem_cons.2 ⟨⟨fun e => hnW e.symm, .tail _ (.tail _ (.head _))⟩, List.forall_mem_nil _⟩⟩)
  have HN0 := Lib.hid (GivesB.mp2 (HA1.out.sub (List.forall_mem_cons.2 ⟨.tail _ (.head _), List.forall_mem_cons.2 ⟨.tail _ (.tail _ (.head _)), List.forall_mem_nil _⟩⟩)))
  clear HA0 hnR hnW
  go_upto_region 10 with fail
  clear e0 e1 f1
  generalize wr.setCell ⟨IB, 1, none⟩ (.slice (some ⟨R, 0, none⟩) 2 4) = w0 at *
  have e0 := HA1.out.cell (.head _) 0
  have e1 := HA1.out.cell (.head _) 1
  go_wp2_with fail
  refine (way_bad ⟨some ⟨Wb, 0, none⟩, 4, some ⟨R, 0, none⟩, 4⟩ pi2 0 3 _ HN0.out (by decide) (by decide) nm_way.2.2.2 (by decide)).mono ?_
  rintro _ w101 ⟨rfl, hb⟩
  have HA101 := Lib.hid (HA1.out.below hb)
  have HN_101 := Lib.hid (HN0.out.below hb)
  clear hb HA1 HN0 
  clear e0 e1
  have e0 := HA101.out.cell (.head _) 0
  have e1 := HA101.out.cell (.head _) 1
  have HX102 := Lib.hid ((BF.base w101).alloc #[.int .i64 1, .int .i64 3] 3)
  have HA102 := Lib.hid (HA101.out.below HX102.out.fr)
  have HN_102 := Lib.hid (HN_101.out.below HX102.out.fr)
  have HI_102 := Lib.hid (HX102.out.ints (z := z13) (n := 2) (.head _) (fun j hj => by rcases j with _ | _ | j <;> first | rfl | exact absurd hj (by omega)) 2)
  go_wp2_with fail
  clear HX102 HA101 HN_101
  generalize w101.alloc (.cells #[.int .i64 1, .int .i64 3] 3) = w102 at *
  refine (tour_bad ⟨some ⟨Wb, 0, none⟩, 4, some ⟨R, 0, none⟩, 4⟩ pi2 _ 2 2 z13 _ HN_102.out HI_102.out (by decide) (by decide) (by decide) nm_tours.1 (by decide)).mono ?_
  rintro _ w103 ⟨rfl, hb⟩
  have HA103 := Lib.hid (HA102.out.below hb)
  clear HI_102
  have HN_103 := Lib.hid (HN_102.out.below hb)
  clear hb HA102 HN_102 
  clear e0 e1
  go_wp2_with fail
  refine (parish_any _).mono ?_
  rintro _ w104 ⟨x104, rfl, hm, hb⟩
  have HA104 := Lib.hid (HA103.out.below hb)
  have HN_104 := Lib.hid (HN_103.out.below hb)
  have HM_104 := Lib.hid (hm)
  clear hb HA103 HN_103 hm
  go_wp2_with fail
  refine (plan_bad x104 pm 15 _ HM_104.out (by decide) (by decide) nm_plan.1 (by decide)).mono ?_
  rintro _ w105 ⟨rfl, hb⟩
  have HA105 := Lib.hid (HA104.out.below hb)
  clear HM_104
  have HN_105 := Lib.hid (HN_104.out.below hb)
  clear hb HA104 HN_104 
  go_wp2_with fail
  refine (parish_any _).mono ?_
  rintro _ w106 ⟨x106, rfl, hm, hb⟩
  have HA106 := Lib.hid (HA105.out.below hb)
  have HN_106 := Lib.hid (HN_105.out.below hb)
  have HM_106 := Lib.hid (hm)
  clear hb HA105 HN_105 hm
  go_wp2_with fail
  refine (plan_bad x106 pm 10001 _ HM_106.out (by decide) (by decide) nm_plan.2 (by decide)).mono ?_
  rintro _ w107 ⟨rfl, hb⟩
  have HA107 := Lib.hid (HA106.out.below hb)
  clear HM_106
  have HN_107 := Lib.hid (HN_106.out.below hb)
  clear hb HA106 HN_106 
  go_wp2_with fail
  refine (parish_any _).mono ?_
  rintro _ w108 ⟨x108, rfl, hm, hb⟩
  have HA108 := Lib.hid (HA107.out.below hb)
  have HN_108 := Lib.hid (HN_107.out.below hb)
  have HM_108 := Lib.hid (hm)
  clear hb HA107 HN_107 hm
  go_wp2_with fail
  refine (least_bad x108 pm 0 _ HM_108.out (by decide) (by decide) nm_least.1 (by decide)).mono ?_
  rintro _ w109 ⟨rfl, hb⟩
  have HA109 := Lib.hid (HA108.out.below hb)
  clear HM_108
  have HN_109 := Lib.hid (HN_108.out.below hb)
  clear hb HA108 HN_108 
  have e0 := HA109.out.cell (.head _) 0
  have e1 := HA109.out.cell (.head _) 1
  go_wp2_with fail
  refine (least_bad ⟨some ⟨Wb, 0, none⟩, 4, some ⟨R, 0, none⟩, 4⟩ pi2 2 _ HN_109.out (by decide) (by decide) nm_least.2 (by decide)).mono ?_
  rintro _ w110 ⟨rfl, hb⟩
  have HA110 := Lib.hid (HA109.out.below hb)
  have HN_110 := Lib.hid (HN_109.out.below hb)
  clear hb HA109 HN_109 
  clear e0 e1
  clear HN_110
  go_wp2_with fail
  refine (parish_any _).mono ?_
  rintro _ w111 ⟨x111, rfl, hm, hb⟩
  have HA111 := Lib.hid (HA110.out.below hb)
  have HM_111 := Lib.hid (hm)
  clear hb HA110  hm
  have HX112 := Lib.hid ((BF.base w111).alloc #[.int .i64 0, .int .i64 2, .int .i64 0] 3)
  have HA112 := Lib.hid (HA111.out.below HX112.out.fr)
  have HM_112 := Lib.hid (HM_111.out.below HX112.out.fr)
  have HI_112 := Lib.hid (HX112.out.ints (z := yC.rt) (n := 3) (.head _) (fun j hj => by rcases j with _ | _ | _ | j <;> first | rfl | exact absurd hj (by omega)) 3)
  go_wp2_with fail
  clear HX112 HA111 HM_111
  generalize w111.alloc (.cells #[.int .i64 0, .int .i64 2, .int .i64 0] 3) = w112 at *
  refine (bounds_bad x111 pm ⟨some ⟨_, 0, none⟩, 3, none, 0⟩ yC _ HM_112.out ⟨HI_112.out, .inl ⟨_, _, rfl, rfl⟩⟩ (by decide) (by decide) (by decide) (by decide) nm_bounds.1 (by decide)).mono ?_
  rintro _ w113 ⟨rfl, hb⟩
  have HA113 := Lib.hid (HA112.out.below hb)
  clear HM_112
  clear HI_112
  clear hb HA112  
  have HA17 := Lib.hid (HA113.out.below (below_alloc w113 (.cells #[.int .i64 0, .int .i64 0] 100)))
  go_upto_region 17 with fail
  generalize w113.alloc (.cells #[.int .i64 0, .int .i64 0] 100) = w17 at *
  clear HA113
  have HAL := Lib.hid (HA17.out.sub (L' := []) (List.forall_mem_nil _))
  clear HA17
  go_cut [22] (fun s22 wx => s22 = .int .i64 3 ∧ BF w wx [])
  case first => as_aux_lemma =>
    have HAX : Hid (BF w w17.drew []) := HAL.out.below (Below.refl _ _).drew
    clear HAL
    refine wp_region_Z (S := fun X => True) (by kernel_rfl) trivial (fun hS => ?_)
    generalize w17.drew = X at *
    refine wpAnyZ_next (rs := [0, 1, 7]) (by kernel_rfl) (by simp) ?_
    refine NextZ.cons (o := ⟨some 198, _, _, _, _, _⟩) rfl (fun K hK => ?_) ?_
    · as_aux_lemma =>
     go_simp
     refine (parish_any _).mono ?_
     rintro _ X0 ⟨x0, rfl, hm0, hb0⟩
     (try go_wp2_with fail)
     have HA0 := Lib.hid (HAX.out.below hb0)
     have HM0 := Lib.hid (hm0)
     refine hK.out _ _ (trivial) (fun hS => ?_)
     clear hK K
     try simp only [Act.put, putA, putZ, putS]
     clear hb0 hm0
     refine wpAnyZ_next (rs := [1, 7]) (by kernel_rfl) (by simp) ?_
     refine NextZ.cons (o := ⟨some 199, _, _, _, _, _⟩) rfl (fun K hK => ?_) ?_
     · as_aux_lemma =>
      have hmk : (Instr.makeSlice 26 (.int .i64 65) (.int .i64 65)).run Try.prog X0 = .ok (.slice (some ⟨X0.heap.size, 0, none⟩) 65 65) (X0.alloc (.cells (eA (fun _ => .int .i64 0) 65) 3)) := make_ints 65 (by decide) X0
      go_simp
      have HM1 := Lib.hid (HM0.out.below (below_alloc X0 (.cells (eA (fun _ => .int .i64 0) 65) 3)))
      have HA1 := Lib.hid (HA0.out.below (below_alloc X0 (.cells (eA (fun _ => .int .i64 0) 65) 3)))
      have HI1 : Hid (IntsIn (X0.alloc (.cells (eA (fun _ => .int .i64 0) 65) 3)) (.slice (some ⟨X0.heap.size, 0, none⟩) 65 65) 65 (fun _ => 0)) := eA_in X0 65
      refine hK.out _ _ (trivial) (fun hS => ?_)
      clear hK K
      try simp only [Act.put, putA, putZ, putS]
      clear hmk
      generalize X0.heap.size = gz1 at *
      generalize (X0.alloc (.cells (eA (fun _ => .int .i64 0) 65) 3)) = X1 at *
      refine tZ 2 (oi := ⟨_, _, _, _, _, _⟩) (v := ?_) rfl (by kernel_rfl) (by rfl) (fun _ _ _ h => h) hS ?_ ?_
      rotate_left
      · intro W' hSw; go_simp; try with_reducible rfl
      try simp only [Act.put, putA, putZ, putS]
      refine wpAnyZ_next (rs := [3, 7]) (by kernel_rfl) (by simp) ?_
      refine NextZ.cons (o := ⟨some 201, _, _, _, _, _⟩) rfl (fun K hK => ?_) ?_
      · as_aux_lemma =>
       go_simp
       refine (bounds_bad x0 pm ⟨some ⟨gz1, 0, none⟩, 65, none, 0⟩ yE _ HM1.out ⟨HI1.out, .inl ⟨_, _, rfl, rfl⟩⟩ (by decide) (by decide) (by decide) (by decide) nm_bounds.2.1 (by decide)).mono ?_
       rintro _ X2 ⟨rfl, hb2⟩
       (try go_wp2_with fail)
       have HA2 := Lib.hid (HA1.out.below hb2)
       refine hK.out _ _ (trivial) (fun hS => ?_)
       clear hK K
       try simp only [Act.put, putA, putZ, putS]
       clear hb2
       refine tk [4, 5, 6] ?_
       repeat (refine tkZ (oi := ⟨_, _, _, _, _, _⟩) (v := ?_) rfl (by kernel_rfl) (by rfl) (fun _ _ _ h => h) hS ?_ ?_; rotate_left; (· intro W' hSw; go_simp; try with_reducible rfl); try simp only [Act.put, putA, putZ, putS])
       refine tk0 ?_
       refine wpAnyZ_next (rs := [7]) (by kernel_rfl) (by simp) ?_
       refine NextZ.cons (o := ⟨some 21, _, _, _, _, _⟩) rfl (fun K hK => ?_) NextZ.nil
       go_simp
       have HA3 := Lib.hid (HA2.out.alloc #[.int .i64 0, .int .i64 0] 100)
       have hn3_ := HA2.out.fr.size
       refine hK.out _ _ (trivial) (fun hS => ?_)
       clear hK K
       try simp only [Act.put, putA, putZ, putS]
       generalize X2.heap.size = G3 at *
       generalize (X2.alloc (.cells #[.int .i64 0, .int .i64 0] 100)) = X3 at *
       refine wpAnyZ_next (rs := [8]) (by kernel_rfl) (by simp) ?_
       refine NextZ.cons (o := ⟨none, _, _, _, _, _⟩) rfl (fun K hK => ?_) NextZ.nil
       have e0 := HA3.out.cell (.head _) 0
       have e1 := HA3.out.cell (.head _) 1
       have f0 := HA3.out.thaw (.head _) 0
       have f1 := HA3.out.thaw (.head _) 1
       have HA4 := Lib.hid (BF.set2 HA3.out (.head _) (.int .i64 0) (.int .i64 0) (L' := []) (List.forall_mem_nil _))
       go_simp
       refine hK.out _ _ (trivial) (fun hS => ?_)
       clear hK K
       (try simp only [Act.put])
       clear e0 e1 f0 f1
       refine tZ 9 (oi := ⟨_, _, _, _, _, _⟩) (v := ?_) rfl (by kernel_rfl) (by rfl) (fun _ _ _ h => h) hS ?_ ?_
       rotate_left
       · intro W' hSw; go_simp; try with_reducible rfl
       try simp only [Act.put, putA, putZ, putS]
       refine wpAnyZ_done (by kernel_rfl) ?_ _
       go_wp2_with fail
       go_meet
       exact ⟨rfl, HA4.out.sub (List.forall_mem_nil _)⟩
      refine NextZ.cons (o := ⟨some 21, _, _, _, _, _⟩) rfl (fun K hK => ?_) NextZ.nil
      · as_aux_lemma =>
       have HM5 := Lib.hid (HM1.out.below (below_alloc X1 (.cells #[.int .i64 0, .int .i64 0] 100)))
       have HI5 := Lib.hid (HI1.out.below (below_alloc X1 (.cells #[.int .i64 0, .int .i64 0] 100)))
       go_simp
       have HA5 := Lib.hid (HA1.out.alloc #[.int .i64 0, .int .i64 0] 100)
       have hn5_ := HA1.out.fr.size
       refine hK.out _ _ (trivial) (fun hS => ?_)
       clear hK K
       try simp only [Act.put, putA, putZ, putS]
       generalize X1.heap.size = G5 at *
       generalize (X1.alloc (.cells #[.int .i64 0, .int .i64 0] 100)) = X5 at *
       refine wpAnyZ_next (rs := [3]) (by kernel_rfl) (by simp) ?_
       refine NextZ.cons (o := ⟨some 201, _, _, _, _, _⟩) rfl (fun K hK => ?_) NextZ.nil
       go_simp
       refine (bounds_bad x0 pm ⟨some ⟨gz1, 0, none⟩, 65, none, 0⟩ yE _ HM5.out ⟨HI5.out, .inl ⟨_, _, rfl, rfl⟩⟩ (by decide) (by decide) (by decide) (by decide) nm_bounds.2.1 (by decide)).mono ?_
       rintro _ X6 ⟨rfl, hb6⟩
       (try go_wp2_with fail)
       have HA6 := Lib.hid (HA5.out.below hb6)
       refine hK.out _ _ (trivial) (fun hS => ?_)
       clear hK K
       try simp only [Act.put, putA, putZ, putS]
       clear hb6
       refine tk [4, 5, 6] ?_
       repeat (refine tkZ (oi := ⟨_, _, _, _, _, _⟩) (v := ?_) rfl (by kernel_rfl) (by rfl) (fun _ _ _ h => h) hS ?_ ?_; rotate_left; (· intro W' hSw; go_simp; try with_reducible rfl); try simp only [Act.put, putA, putZ, putS])
       refine tk0 ?_
       refine wpAnyZ_next (rs := [8]) (by kernel_rfl) (by simp) ?_
       refine NextZ.cons (o := ⟨none, _, _, _, _, _⟩) rfl (fun K hK => ?_) NextZ.nil
       have e0 := HA6.out.cell (.head _) 0
       have e1 := HA6.out.cell (.head _) 1
       have f0 := HA6.out.thaw (.head _) 0
       have f1 := HA6.out.thaw (.head _) 1
       have HA7 := Lib.hid (BF.set2 HA6.out (.head _) (.int .i64 0) (.int .i64 0) (L' := []) (List.forall_mem_nil _))
       go_simp
       refine hK.out _ _ (trivial) (fun hS => ?_)
       clear hK K
       (try simp only [Act.put])
       clear e0 e1 f0 f1
       refine tZ 9 (oi := ⟨_, _, _, _, _, _⟩) (v := ?_) rfl (by kernel_rfl) (by rfl) (fun _ _ _ h => h) hS ?_ ?_
       rotate_left
       · intro W' hSw; go_simp; try with_reducible rfl
       try simp only [Act.put, putA, putZ, putS]
       refine wpAnyZ_done (by kernel_rfl) ?_ _
       go_wp2_with fail
       go_meet
       exact ⟨rfl, HA7.out.sub (List.forall_mem_nil _)⟩
     refine NextZ.cons (o := ⟨some 21, _, _, _, _, _⟩) rfl (fun K hK => ?_) NextZ.nil
     · as_aux_lemma =>
      have HM8 := Lib.hid (HM0.out.below (below_alloc X0 (.cells #[.int .i64 0, .int .i64 0] 100)))
      go_simp
      have HA8 := Lib.hid (HA0.out.alloc #[.int .i64 0, .int .i64 0] 100)
      have hn8_ := HA0.out.fr.size
      refine hK.out _ _ (trivial) (fun hS => ?_)
      clear hK K
      try simp only [Act.put, putA, putZ, putS]
      generalize X0.heap.size = G8 at *
      generalize (X0.alloc (.cells #[.int .i64 0, .int .i64 0] 100)) = X8 at *
      refine wpAnyZ_next (rs := [1]) (by kernel_rfl) (by simp) ?_
      refine NextZ.cons (o := ⟨some 199, _, _, _, _, _⟩) rfl (fun K hK => ?_) NextZ.nil
      · as_aux_lemma =>
       have hmk : (Instr.makeSlice 26 (.int .i64 65) (.int .i64 65)).run Try.prog X8 = .ok (.slice (some ⟨X8.heap.size, 0, none⟩) 65 65) (X8.alloc (.cells (eA (fun _ => .int .i64 0) 65) 3)) := make_ints 65 (by decide) X8
       go_simp
       have HM9 := Lib.hid (HM8.out.below (below_alloc X8 (.cells (eA (fun _ => .int .i64 0) 65) 3)))
       have HA9 := Lib.hid (HA8.out.below (below_alloc X8 (.cells (eA (fun _ => .int .i64 0) 65) 3)))
       have HI9 : Hid (IntsIn (X8.alloc (.cells (eA (fun _ => .int .i64 0) 65) 3)) (.slice (some ⟨X8.heap.size, 0, none⟩) 65 65) 65 (fun _ => 0)) := eA_in X8 65
       refine hK.out _ _ (trivial) (fun hS => ?_)
       clear hK K
       try simp only [Act.put, putA, putZ, putS]
       clear hmk
       generalize X8.heap.size = gz9 at *
       generalize (X8.alloc (.cells (eA (fun _ => .int .i64 0) 65) 3)) = X9 at *
       refine tZ 2 (oi := ⟨_, _, _, _, _, _⟩) (v := ?_) rfl (by kernel_rfl) (by rfl) (fun _ _ _ h => h) hS ?_ ?_
       rotate_left
       · intro W' hSw; go_simp; try with_reducible rfl
       try simp only [Act.put, putA, putZ, putS]
       refine wpAnyZ_next (rs := [3]) (by kernel_rfl) (by simp) ?_
       refine NextZ.cons (o := ⟨some 201, _, _, _, _, _⟩) rfl (fun K hK => ?_) NextZ.nil
       go_simp
       refine (bounds_bad x0 pm ⟨some ⟨gz9, 0, none⟩, 65, none, 0⟩ yE _ HM9.out ⟨HI9.out, .inl ⟨_, _, rfl, rfl⟩⟩ (by decide) (by decide) (by decide) (by decide) nm_bounds.2.1 (by decide)).mono ?_
       rintro _ X10 ⟨rfl, hb10⟩
       (try go_wp2_with fail)
       have HA10 := Lib.hid (HA9.out.below hb10)
       refine hK.out _ _ (trivial) (fun hS => ?_)
       clear hK K
       try simp only [Act.put, putA, putZ, putS]
       clear hb10
       refine tk [4, 5, 6] ?_
       repeat (refine tkZ (oi := ⟨_, _, _, _, _, _⟩) (v := ?_) rfl (by kernel_rfl) (by rfl) (fun _ _ _ h => h) hS ?_ ?_; rotate_left; (· intro W' hSw; go_simp; try with_reducible rfl); try simp only [Act.put, putA, putZ, putS])
       refine tk0 ?_
       refine wpAnyZ_next (rs := [8]) (by kernel_rfl) (by simp) ?_
       refine NextZ.cons (o := ⟨none, _, _, _, _, _⟩) rfl (fun K hK => ?_) NextZ.nil
       have e0 := HA10.out.cell (.head _) 0
       have e1 := HA10.out.cell (.head _) 1
       have f0 := HA10.out.thaw (.head _) 0
       have f1 := HA10.out.thaw (.head _) 1
       have HA11 := Lib.hid (BF.set2 HA10.out (.head _) (.int .i64 0) (.int .i64 0) (L' := []) (List.forall_mem_nil _))
       go_simp
       refine hK.out _ _ (trivial) (fun hS => ?_)
       clear hK K
       (try simp only [Act.put])
       clear e0 e1 f0 f1
       refine tZ 9 (oi := ⟨_, _, _, _, _, _⟩) (v := ?_) rfl (by kernel_rfl) (by rfl) (fun _ _ _ h => h) hS ?_ ?_
       rotate_left
       · intro W' hSw; go_simp; try with_reducible rfl
       try simp only [Act.put, putA, putZ, putS]
       refine wpAnyZ_done (by kernel_rfl) ?_ _
       go_wp2_with fail
       go_meet
       exact ⟨rfl, HA11.out.sub (List.forall_mem_nil _)⟩
    refine NextZ.cons (o := ⟨some 199, _, _, _, _, _⟩) rfl (fun K hK => ?_) ?_
    · as_aux_lemma =>
     have hmk : (Instr.makeSlice 26 (.int .i64 65) (.int .i64 65)).run Try.prog X = .ok (.slice (some ⟨X.heap.size, 0, none⟩) 65 65) (X.alloc (.cells (eA (fun _ => .int .i64 0) 65) 3)) := make_ints 65 (by decide) X
     go_simp
     have HA12 := Lib.hid (HAX.out.below (below_alloc X (.cells (eA (fun _ => .int .i64 0) 65) 3)))
     have HI12 : Hid (IntsIn (X.alloc (.cells (eA (fun _ => .int .i64 0) 65) 3)) (.slice (some ⟨X.heap.size, 0, none⟩) 65 65) 65 (fun _ => 0)) := eA_in X 65
     refine hK.out _ _ (trivial) (fun hS => ?_)
     clear hK K
     try simp only [Act.put, putA, putZ, putS]
     clear hmk
     generalize X.heap.size = gz12 at *
     generalize (X.alloc (.cells (eA (fun _ => .int .i64 0) 65) 3)) = X12 at *
     refine tZ 2 (oi := ⟨_, _, _, _, _, _⟩) (v := ?_) rfl (by kernel_rfl) (by rfl) (fun _ _ _ h => h) hS ?_ ?_
     rotate_left
     · intro W' hSw; go_simp; try with_reducible rfl
     try simp only [Act.put, putA, putZ, putS]
     refine wpAnyZ_next (rs := [0, 7]) (by kernel_rfl) (by simp) ?_
     refine NextZ.cons (o := ⟨some 198, _, _, _, _, _⟩) rfl (fun K hK => ?_) ?_
     · as_aux_lemma =>
      go_simp
      refine (parish_any _).mono ?_
      rintro _ X13 ⟨x13, rfl, hm13, hb13⟩
      (try go_wp2_with fail)
      have HA13 := Lib.hid (HA12.out.below hb13)
      have HI13 := Lib.hid (HI12.out.below hb13)
      have HM13 := Lib.hid (hm13)
      refine hK.out _ _ (trivial) (fun hS => ?_)
      clear hK K
      try simp only [Act.put, putA, putZ, putS]
      clear hb13 hm13
      refine wpAnyZ_next (rs := [3, 7]) (by kernel_rfl) (by simp) ?_
      refine NextZ.cons (o := ⟨some 201, _, _, _, _, _⟩) rfl (fun K hK => ?_) ?_
      · as_aux_lemma =>
       go_simp
       refine (bounds_bad x13 pm ⟨some ⟨gz12, 0, none⟩, 65, none, 0⟩ yE _ HM13.out ⟨HI13.out, .inl ⟨_, _, rfl, rfl⟩⟩ (by decide) (by decide) (by decide) (by decide) nm_bounds.2.1 (by decide)).mono ?_
       rintro _ X14 ⟨rfl, hb14⟩
       (try go_wp2_with fail)
       have HA14 := Lib.hid (HA13.out.below hb14)
       refine hK.out _ _ (trivial) (fun hS => ?_)
       clear hK K
       try simp only [Act.put, putA, putZ, putS]
       clear hb14
       refine tk [4, 5, 6] ?_
       repeat (refine tkZ (oi := ⟨_, _, _, _, _, _⟩) (v := ?_) rfl (by kernel_rfl) (by rfl) (fun _ _ _ h => h) hS ?_ ?_; rotate_left; (· intro W' hSw; go_simp; try with_reducible rfl); try simp only [Act.put, putA, putZ, putS])
       refine tk0 ?_
       refine wpAnyZ_next (rs := [7]) (by kernel_rfl) (by simp) ?_
       refine NextZ.cons (o := ⟨some 21, _, _, _, _, _⟩) rfl (fun K hK => ?_) NextZ.nil
       go_simp
       have HA15 := Lib.hid (HA14.out.alloc #[.int .i64 0, .int .i64 0] 100)
       have hn15_ := HA14.out.fr.size
       refine hK.out _ _ (trivial) (fun hS => ?_)
       clear hK K
       try simp only [Act.put, putA, putZ, putS]
       generalize X14.heap.size = G15 at *
       generalize (X14.alloc (.cells #[.int .i64 0, .int .i64 0] 100)) = X15 at *
       refine wpAnyZ_next (rs := [8]) (by kernel_rfl) (by simp) ?_
       refine NextZ.cons (o := ⟨none, _, _, _, _, _⟩) rfl (fun K hK => ?_) NextZ.nil
       have e0 := HA15.out.cell (.head _) 0
       have e1 := HA15.out.cell (.head _) 1
       have f0 := HA15.out.thaw (.head _) 0
       have f1 := HA15.out.thaw (.head _) 1
       have HA16 := Lib.hid (BF.set2 HA15.out (.head _) (.int .i64 0) (.int .i64 0) (L' := []) (List.forall_mem_nil _))
       go_simp
       refine hK.out _ _ (trivial) (fun hS => ?_)
       clear hK K
       (try simp only [Act.put])
       clear e0 e1 f0 f1
       refine tZ 9 (oi := ⟨_, _, _, _, _, _⟩) (v := ?_) rfl (by kernel_rfl) (by rfl) (fun _ _ _ h => h) hS ?_ ?_
       rotate_left
       · intro W' hSw; go_simp; try with_reducible rfl
       try simp only [Act.put, putA, putZ, putS]
       refine wpAnyZ_done (by kernel_rfl) ?_ _
       go_wp2_with fail
       go_meet
       exact ⟨rfl, HA16.out.sub (List.forall_mem_nil _)⟩
      refine NextZ.cons (o := ⟨some 21, _, _, _, _, _⟩) rfl (fun K hK => ?_) NextZ.nil
      · as_aux_lemma =>
       have HI17 := Lib.hid (HI13.out.below (below_alloc X13 (.cells #[.int .i64 0, .int .i64 0] 100)))
       have HM17 := Lib.hid (HM13.out.below (below_alloc X13 (.cells #[.int .i64 0, .int .i64 0] 100)))
       go_simp
       have HA17 := Lib.hid (HA13.out.alloc #[.int .i64 0, .int .i64 0] 100)
       have hn17_ := HA13.out.fr.size
       refine hK.out _ _ (trivial) (fun hS => ?_)
       clear hK K
       try simp only [Act.put, putA, putZ, putS]
       generalize X13.heap.size = G17 at *
       generalize (X13.alloc (.cells #[.int .i64 0, .int .i64 0] 100)) = X17 at *
       refine wpAnyZ_next (rs := [3]) (by kernel_rfl) (by simp) ?_
       refine NextZ.cons (o := ⟨some 201, _, _, _, _, _⟩) rfl (fun K hK => ?_) NextZ.nil
       go_simp
       refine (bounds_bad x13 pm ⟨some ⟨gz12, 0, none⟩, 65, none, 0⟩ yE _ HM17.out ⟨HI17.out, .inl ⟨_, _, rfl, rfl⟩⟩ (by decide) (by decide) (by decide) (by decide) nm_bounds.2.1 (by decide)).mono ?_
       rintro _ X18 ⟨rfl, hb18⟩
       (try go_wp2_with fail)
       have HA18 := Lib.hid (HA17.out.below hb18)
       refine hK.out _ _ (trivial) (fun hS => ?_)
       clear hK K
       try simp only [Act.put, putA, putZ, putS]
       clear hb18
       refine tk [4, 5, 6] ?_
       repeat (refine tkZ (oi := ⟨_, _, _, _, _, _⟩) (v := ?_) rfl (by kernel_rfl) (by rfl) (fun _ _ _ h => h) hS ?_ ?_; rotate_left; (· intro W' hSw; go_simp; try with_reducible rfl); try simp only [Act.put, putA, putZ, putS])
       refine tk0 ?_
       refine wpAnyZ_next (rs := [8]) (by kernel_rfl) (by simp) ?_
       refine NextZ.cons (o := ⟨none, _, _, _, _, _⟩) rfl (fun K hK => ?_) NextZ.nil
       have e0 := HA18.out.cell (.head _) 0
       have e1 := HA18.out.cell (.head _) 1
       have f0 := HA18.out.thaw (.head _) 0
       have f1 := HA18.out.thaw (.head _) 1
       have HA19 := Lib.hid (BF.set2 HA18.out (.head _) (.int .i64 0) (.int .i64 0) (L' := []) (List.forall_mem_nil _))
       go_simp
       refine hK.out _ _ (trivial) (fun hS => ?_)
       clear hK K
       (try simp only [Act.put])
       clear e0 e1 f0 f1
       refine tZ 9 (oi := ⟨_, _, _, _, _, _⟩) (v := ?_) rfl (by kernel_rfl) (by rfl) (fun _ _ _ h => h) hS ?_ ?_
       rotate_left
       · intro W' hSw; go_simp; try with_reducible rfl
       try simp only [Act.put, putA, putZ, putS]
       refine wpAnyZ_done (by kernel_rfl) ?_ _
       go_wp2_with fail
       go_meet
       exact ⟨rfl, HA19.out.sub (List.forall_mem_nil _)⟩
     refine NextZ.cons (o := ⟨some 21, _, _, _, _, _⟩) rfl (fun K hK => ?_) NextZ.nil
     · as_aux_lemma =>
      have HI20 := Lib.hid (HI12.out.below (below_alloc X12 (.cells #[.int .i64 0, .int .i64 0] 100)))
      go_simp
      have HA20 := Lib.hid (HA12.out.alloc #[.int .i64 0, .int .i64 0] 100)
      have hn20_ := HA12.out.fr.size
      refine hK.out _ _ (trivial) (fun hS => ?_)
      clear hK K
      try simp only [Act.put, putA, putZ, putS]
      generalize X12.heap.size = G20 at *
      generalize (X12.alloc (.cells #[.int .i64 0, .int .i64 0] 100)) = X20 at *
      refine wpAnyZ_next (rs := [0]) (by kernel_rfl) (by simp) ?_
      refine NextZ.cons (o := ⟨some 198, _, _, _, _, _⟩) rfl (fun K hK => ?_) NextZ.nil
      · as_aux_lemma =>
       go_simp
       refine (parish_any _).mono ?_
       rintro _ X21 ⟨x21, rfl, hm21, hb21⟩
       (try go_wp2_with fail)
       have HA21 := Lib.hid (HA20.out.below hb21)
       have HI21 := Lib.hid (HI20.out.below hb21)
       have HM21 := Lib.hid (hm21)
       refine hK.out _ _ (trivial) (fun hS => ?_)
       clear hK K
       try simp only [Act.put, putA, putZ, putS]
       clear hb21 hm21
       refine wpAnyZ_next (rs := [3]) (by kernel_rfl) (by simp) ?_
       refine NextZ.cons (o := ⟨some 201, _, _, _, _, _⟩) rfl (fun K hK => ?_) NextZ.nil
       go_simp
       refine (bounds_bad x21 pm ⟨some ⟨gz12, 0, none⟩, 65, none, 0⟩ yE _ HM21.out ⟨HI21.out, .inl ⟨_, _, rfl, rfl⟩⟩ (by decide) (by decide) (by decide) (by decide) nm_bounds.2.1 (by decide)).mono ?_
       rintro _ X22 ⟨rfl, hb22⟩
       (try go_wp2_with fail)
       have HA22 := Lib.hid (HA21.out.below hb22)
       refine hK.out _ _ (trivial) (fun hS => ?_)
       clear hK K
       try simp only [Act.put, putA, putZ, putS]
       clear hb22
       refine tk [4, 5, 6] ?_
       repeat (refine tkZ (oi := ⟨_, _, _, _, _, _⟩) (v := ?_) rfl (by kernel_rfl) (by rfl) (fun _ _ _ h => h) hS ?_ ?_; rotate_left; (· intro W' hSw; go_simp; try with_reducible rfl); try simp only [Act.put, putA, putZ, putS])
       refine tk0 ?_
       refine wpAnyZ_next (rs := [8]) (by kernel_rfl) (by simp) ?_
       refine NextZ.cons (o := ⟨none, _, _, _, _, _⟩) rfl (fun K hK => ?_) NextZ.nil
       have e0 := HA22.out.cell (.head _) 0
       have e1 := HA22.out.cell (.head _) 1
       have f0 := HA22.out.thaw (.head _) 0
       have f1 := HA22.out.thaw (.head _) 1
       have HA23 := Lib.hid (BF.set2 HA22.out (.head _) (.int .i64 0) (.int .i64 0) (L' := []) (List.forall_mem_nil _))
       go_simp
       refine hK.out _ _ (trivial) (fun hS => ?_)
       clear hK K
       (try simp only [Act.put])
       clear e0 e1 f0 f1
       refine tZ 9 (oi := ⟨_, _, _, _, _, _⟩) (v := ?_) rfl (by kernel_rfl) (by rfl) (fun _ _ _ h => h) hS ?_ ?_
       rotate_left
       · intro W' hSw; go_simp; try with_reducible rfl
       try simp only [Act.put, putA, putZ, putS]
       refine wpAnyZ_done (by kernel_rfl) ?_ _
       go_wp2_with fail
       go_meet
       exact ⟨rfl, HA23.out.sub (List.forall_mem_nil _)⟩
    refine NextZ.cons (o := ⟨some 21, _, _, _, _, _⟩) rfl (fun K hK => ?_) NextZ.nil
    · as_aux_lemma =>
     go_simp
     have HA24 := Lib.hid (HAX.out.alloc #[.int .i64 0, .int .i64 0] 100)
     have hn24_ := HAX.out.fr.size
     refine hK.out _ _ (trivial) (fun hS => ?_)
     clear hK K
     try simp only [Act.put, putA, putZ, putS]
     generalize X.heap.size = G24 at *
     generalize (X.alloc (.cells #[.int .i64 0, .int .i64 0] 100)) = X24 at *
     refine wpAnyZ_next (rs := [0, 1]) (by kernel_rfl) (by simp) ?_
     refine NextZ.cons (o := ⟨some 198, _, _, _, _, _⟩) rfl (fun K hK => ?_) ?_
     · as_aux_lemma =>
      go_simp
      refine (parish_any _).mono ?_
      rintro _ X25 ⟨x25, rfl, hm25, hb25⟩
      (try go_wp2_with fail)
      have HA25 := Lib.hid (HA24.out.below hb25)
      have HM25 := Lib.hid (hm25)
      refine hK.out _ _ (trivial) (fun hS => ?_)
      clear hK K
      try simp only [Act.put, putA, putZ, putS]
      clear hb25 hm25
      refine wpAnyZ_next (rs := [1]) (by kernel_rfl) (by simp) ?_
      refine NextZ.cons (o := ⟨some 199, _, _, _, _, _⟩) rfl (fun K hK => ?_) NextZ.nil
      · as_aux_lemma =>
       have hmk : (Instr.makeSlice 26 (.int .i64 65) (.int .i64 65)).run Try.prog X25 = .ok (.slice (some ⟨X25.heap.size, 0, none⟩) 65 65) (X25.alloc (.cells (eA (fun _ => .int .i64 0) 65) 3)) := make_ints 65 (by decide) X25
       go_simp
       have HM26 := Lib.hid (HM25.out.below (below_alloc X25 (.cells (eA (fun _ => .int .i64 0) 65) 3)))
       have HA26 := Lib.hid (HA25.out.below (below_alloc X25 (.cells (eA (fun _ => .int .i64 0) 65) 3)))
       have HI26 : Hid (IntsIn (X25.alloc (.cells (eA (fun _ => .int .i64 0) 65) 3)) (.slice (some ⟨X25.heap.size, 0, none⟩) 65 65) 65 (fun _ => 0)) := eA_in X25 65
       refine hK.out _ _ (trivial) (fun hS => ?_)
       clear hK K
       try simp only [Act.put, putA, putZ, putS]
       clear hmk
       generalize X25.heap.size = gz26 at *
       generalize (X25.alloc (.cells (eA (fun _ => .int .i64 0) 65) 3)) = X26 at *
       refine tZ 2 (oi := ⟨_, _, _, _, _, _⟩) (v := ?_) rfl (by kernel_rfl) (by rfl) (fun _ _ _ h => h) hS ?_ ?_
       rotate_left
       · intro W' hSw; go_simp; try with_reducible rfl
       try simp only [Act.put, putA, putZ, putS]
       refine wpAnyZ_next (rs := [3]) (by kernel_rfl) (by simp) ?_
       refine NextZ.cons (o := ⟨some 201, _, _, _, _, _⟩) rfl (fun K hK => ?_) NextZ.nil
       go_simp
       refine (bounds_bad x25 pm ⟨some ⟨gz26, 0, none⟩, 65, none, 0⟩ yE _ HM26.out ⟨HI26.out, .inl ⟨_, _, rfl, rfl⟩⟩ (by decide) (by decide) (by decide) (by decide) nm_bounds.2.1 (by decide)).mono ?_
       rintro _ X27 ⟨rfl, hb27⟩
       (try go_wp2_with fail)
       have HA27 := Lib.hid (HA26.out.below hb27)
       refine hK.out _ _ (trivial) (fun hS => ?_)
       clear hK K
       try simp only [Act.put, putA, putZ, putS]
       clear hb27
       refine tk [4, 5, 6] ?_
       repeat (refine tkZ (oi := ⟨_, _, _, _, _, _⟩) (v := ?_) rfl (by kernel_rfl) (by rfl) (fun _ _ _ h => h) hS ?_ ?_; rotate_left; (· intro W' hSw; go_simp; try with_reducible rfl); try simp only [Act.put, putA, putZ, putS])
       refine tk0 ?_
       refine wpAnyZ_next (rs := [8]) (by kernel_rfl) (by simp) ?_
       refine NextZ.cons (o := ⟨none, _, _, _, _, _⟩) rfl (fun K hK => ?_) NextZ.nil
       have e0 := HA27.out.cell (.head _) 0
       have e1 := HA27.out.cell (.head _) 1
       have f0 := HA27.out.thaw (.head _) 0
       have f1 := HA27.out.thaw (.head _) 1
       have HA28 := Lib.hid (BF.set2 HA27.out (.head _) (.int .i64 0) (.int .i64 0) (L' := []) (List.forall_mem_nil _))
       go_simp
       refine hK.out _ _ (trivial) (fun hS => ?_)
       clear hK K
       (try simp only [Act.put])
       clear e0 e1 f0 f1
       refine tZ 9 (oi := ⟨_, _, _, _, _, _⟩) (v := ?_) rfl (by kernel_rfl) (by rfl) (fun _ _ _ h => h) hS ?_ ?_
       rotate_left
       · intro W' hSw; go_simp; try with_reducible rfl
       try simp only [Act.put, putA, putZ, putS]
       refine wpAnyZ_done (by kernel_rfl) ?_ _
       go_wp2_with fail
       go_meet
       exact ⟨rfl, HA28.out.sub (List.forall_mem_nil _)⟩
     refine NextZ.cons (o := ⟨some 199, _, _, _, _, _⟩) rfl (fun K hK => ?_) NextZ.nil
     · as_aux_lemma =>
      have hmk : (Instr.makeSlice 26 (.int .i64 65) (.int .i64 65)).run Try.prog X24 = .ok (.slice (some ⟨X24.heap.size, 0, none⟩) 65 65) (X24.alloc (.cells (eA (fun _ => .int .i64 0) 65) 3)) := make_ints 65 (by decide) X24
      go_simp
      have HA29 := Lib.hid (HA24.out.below (below_alloc X24 (.cells (eA (fun _ => .int .i64 0) 65) 3)))
      have HI29 : Hid (IntsIn (X24.alloc (.cells (eA (fun _ => .int .i64 0) 65) 3)) (.slice (some ⟨X24.heap.size, 0, none⟩) 65 65) 65 (fun _ => 0)) := eA_in X24 65
      refine hK.out _ _ (trivial) (fun hS => ?_)
      clear hK K
      try simp only [Act.put, putA, putZ, putS]
      clear hmk
      generalize X24.heap.size = gz29 at *
      generalize (X24.alloc (.cells (eA (fun _ => .int .i64 0) 65) 3)) = X29 at *
      refine tZ 2 (oi := ⟨_, _, _, _, _, _⟩) (v := ?_) rfl (by kernel_rfl) (by rfl) (fun _ _ _ h => h) hS ?_ ?_
      rotate_left
      · intro W' hSw; go_simp; try with_reducible rfl
      try simp only [Act.put, putA, putZ, putS]
      refine wpAnyZ_next (rs := [0]) (by kernel_rfl) (by simp) ?_
      refine NextZ.cons (o := ⟨some 198, _, _, _, _, _⟩) rfl (fun K hK => ?_) NextZ.nil
      · as_aux_lemma =>
       go_simp
       refine (parish_any _).mono ?_
       rintro _ X30 ⟨x30, rfl, hm30, hb30⟩
       (try go_wp2_with fail)
       have HA30 := Lib.hid (HA29.out.below hb30)
       have HI30 := Lib.hid (HI29.out.below hb30)
       have HM30 := Lib.hid (hm30)
       refine hK.out _ _ (trivial) (fun hS => ?_)
       clear hK K
       try simp only [Act.put, putA, putZ, putS]
       clear hb30 hm30
       refine wpAnyZ_next (rs := [3]) (by kernel_rfl) (by simp) ?_
       refine NextZ.cons (o := ⟨some 201, _, _, _, _, _⟩) rfl (fun K hK => ?_) NextZ.nil
       go_simp
       refine (bounds_bad x30 pm ⟨some ⟨gz29, 0, none⟩, 65, none, 0⟩ yE _ HM30.out ⟨HI30.out, .inl ⟨_, _, rfl, rfl⟩⟩ (by decide) (by decide) (by decide) (by decide) nm_bounds.2.1 (by decide)).mono ?_
       rintro _ X31 ⟨rfl, hb31⟩
       (try go_wp2_with fail)
       have HA31 := Lib.hid (HA30.out.below hb31)
       refine hK.out _ _ (trivial) (fun hS => ?_)
       clear hK K
       try simp only [Act.put, putA, putZ, putS]
       clear hb31
       refine tk [4, 5, 6] ?_
       repeat (refine tkZ (oi := ⟨_, _, _, _, _, _⟩) (v := ?_) rfl (by kernel_rfl) (by rfl) (fun _ _ _ h => h) hS ?_ ?_; rotate_left; (· intro W' hSw; go_simp; try with_reducible rfl); try simp only [Act.put, putA, putZ, putS])
       refine tk0 ?_
       refine wpAnyZ_next (rs := [8]) (by kernel_rfl) (by simp) ?_
       refine NextZ.cons (o := ⟨none, _, _, _, _, _⟩) rfl (fun K hK => ?_) NextZ.nil
       have e0 := HA31.out.cell (.head _) 0
       have e1 := HA31.out.cell (.head _) 1
       have f0 := HA31.out.thaw (.head _) 0
       have f1 := HA31.out.thaw (.head _) 1
       have HA32 := Lib.hid (BF.set2 HA31.out (.head _) (.int .i64 0) (.int .i64 0) (L' := []) (List.forall_mem_nil _))
       go_simp
       refine hK.out _ _ (trivial) (fun hS => ?_)
       clear hK K
       (try simp only [Act.put])
       clear e0 e1 f0 f1
       refine tZ 9 (oi := ⟨_, _, _, _, _, _⟩) (v := ?_) rfl (by kernel_rfl) (by rfl) (fun _ _ _ h => h) hS ?_ ?_
       rotate_left
       · intro W' hSw; go_simp; try with_reducible rfl
       try simp only [Act.put, putA, putZ, putS]
       refine wpAnyZ_done (by kernel_rfl) ?_ _
       go_wp2_with fail
       go_meet
       exact ⟨rfl, HA32.out.sub (List.forall_mem_nil _)⟩
  case rest =>
  obtain ⟨rfl, hbf⟩ := hcut
  rename World => v0
  have HV0 := Lib.hid hbf
  clear hbf HAL
  go_wp2_with fail
  refine (parish_any _).mono ?_
  rintro _ w201 ⟨x201, rfl, hm, hb⟩
  have HA201 := Lib.hid (HV0.out.below hb)
  have HM_201 := Lib.hid (hm)
  clear hb HV0  hm
  have HX202 := Lib.hid (BF.made2 w201 #[.int .i64 0, .int .i64 1, .int .i64 0] #[.int .i64 2] 3 3)
  have HA202 := Lib.hid (HA201.out.below HX202.out.fr)
  have HM_202 := Lib.hid (HM_201.out.below HX202.out.fr)
  have HI_202 := Lib.hid (HX202.out.ints (z := yG.rt) (n := 3) (.head _) (fun j hj => by rcases j with _ | _ | _ | j <;> first | rfl | exact absurd hj (by omega)) 3)
  have HJ_202 := Lib.hid (HX202.out.ints (z := yG.ct) (n := 1) (.tail _ (.head _)) (fun j hj => by rcases j with _ | j <;> first | rfl | exact absurd hj (by omega)) 1)
  go_wp2_with fail
  clear HX202 HA201 HM_201
  generalize ((w201.alloc (.cells #[.int .i64 0, .int .i64 1, .int .i64 0] 3)).alloc (.cells #[.int .i64 2] 3)) = w202 at *
  refine (bounds_bad x201 pm ⟨some ⟨_, 0, none⟩, 3, some ⟨_, 0, none⟩, 1⟩ yG _ HM_202.out ⟨HI_202.out, HJ_202.out⟩ (by decide) (by decide) (by decide) (by decide) nm_bounds.2.2 (by decide)).mono ?_
  rintro _ w203 ⟨rfl, hb⟩
  have HA203 := Lib.hid (HA202.out.below hb)
  clear HM_202
  clear hb HA202  
  clear HI_202 HJ_202
  have HX204 := Lib.hid ((BF.base w203).alloc #[.int .i64 0, .int .i64 0] 100)
  have HA204 := Lib.hid (HA203.out.below HX204.out.fr)
  go_wp2_with fail
  clear HX204 HA203 
  generalize w203.alloc (.cells #[.int .i64 0, .int .i64 0] 100) = w204 at *
  refine (parish_any _).mono ?_
  rintro _ w205 ⟨x205, rfl, hm, hb⟩
  have HA205 := Lib.hid (HA204.out.below hb)
  have HM_205 := Lib.hid (hm)
  clear hb HA204  hm
  have HX206 := Lib.hid ((BF.base w205).alloc #[.int .i64 2, .int .i64 1] 3)
  have HA206 := Lib.hid (HA205.out.below HX206.out.fr)
  have HM_206 := Lib.hid (HM_205.out.below HX206.out.fr)
  have HI_206 := Lib.hid (HX206.out.ints (z := z21) (n := 2) (.head _) (fun j hj => by rcases j with _ | _ | j <;> first | rfl | exact absurd hj (by omega)) 2)
  go_wp2_with fail
  clear HX206 HA205 HM_205
  generalize w205.alloc (.cells #[.int .i64 2, .int .i64 1] 3) = w206 at *
  refine (tour_bad x205 pm _ 2 2 z21 _ HM_206.out HI_206.out (by decide) (by decide) (by decide) nm_tours.2 (by decide)).mono ?_
  rintro _ w207 ⟨rfl, hb⟩
  have HA207 := Lib.hid (HA206.out.below hb)
  clear HM_206
  clear HI_206
  clear hb HA206  
  have HX208 := Lib.hid ((BF.base w207).alloc #[.slice none 0 0, .slice none 0 0] 30)
  have HA208 := Lib.hid (HA207.out.below HX208.out.fr)
  go_wp2_with fail
  clear HX208 HA207 
  generalize w207.alloc (.cells #[.slice none 0 0, .slice none 0 0] 30) = w208 at *
  refine (parish_any _).mono ?_
  rintro _ w209 ⟨x209, rfl, hm, hb⟩
  have HA209 := Lib.hid (HA208.out.below hb)
  have HM_209 := Lib.hid (hm)
  clear hb HA208  hm
  have HX210 := Lib.hid ((BF.base w209).alloc #[.int .i64 0] 3)
  have HA210 := Lib.hid (HA209.out.below HX210.out.fr)
  have HM_210 := Lib.hid (HM_209.out.below HX210.out.fr)
  have HI_210 := Lib.hid (HX210.out.ints (z := yT.rt) (n := 1) (.head _) (fun j hj => by rcases j with _ | j <;> first | rfl | exact absurd hj (by omega)) 1)
  go_wp2_with fail
  clear HX210 HA209 HM_209
  generalize w209.alloc (.cells #[.int .i64 0] 3) = w210 at *
  refine (time_bad x209 pm ⟨some ⟨_, 0, none⟩, 1, none, 0⟩ yT ⟨none, 0, none, 0⟩ 0 0 (fun _ => 0) (fun _ => 0) _ HM_210.out ⟨HI_210.out, .inl ⟨_, _, rfl, rfl⟩⟩ (.inl ⟨_, _, rfl, rfl⟩) (.inl ⟨_, _, rfl, rfl⟩) (by decide) (by decide) (by decide) (by decide) nm_time (by decide)).mono ?_
  rintro _ w211 ⟨rfl, hb⟩
  have HA211 := Lib.hid (HA210.out.below hb)
  clear HM_210
  clear HI_210
  clear hb HA210  
  go_upto_region 21 with fail
  have HB21 := Lib.hid HA211.out.fr
  have HAZ := HA211
  clear HA211
  go_cut [30, 31, 32] (fun s30 s31 s32 wx => ∃ R1 W1 R2 W2 R3 W3 s, s30 = .pointer (some ⟨s, 0, none⟩) ∧ s31 = .pointer (some ⟨s + 1, 0, none⟩) ∧ s32 = .pointer (some ⟨s + 1 + 1, 0, none⟩) ∧ Hid (R1 ≠ W1 ∧ R1 < R2 ∧ R1 < W2 ∧ W1 < R2 ∧ W1 < W2 ∧ R2 ≠ W2 ∧ R2 < R3 ∧ R2 < W3 ∧ W2 < R3 ∧ W2 < W3 ∧ R3 ≠ W3 ∧ R3 < s ∧ W3 < s) ∧ BF w wx [(s, #[.slice (some ⟨W1, 0, none⟩) 4 4, .slice (some ⟨R1, 0, none⟩) 4 4], 37), (s + 1, #[.slice (some ⟨W2, 0, none⟩) 4 4, .slice (some ⟨R2, 0, none⟩) 4 4], 37), (s + 1 + 1, #[.slice (some ⟨W3, 0, none⟩) 4 4, .slice (some ⟨R3, 0, none⟩) 4 4], 37), (R3, kR, 120), (W3, kW, 100), (R2, kR, 120), (W2, kW, 100), (R1, kR, 120), (W1, kW, 100)])
  case first => as_aux_lemma =>
    go_wp2_with fail
    refine (parish_own _).mono ?_
    rintro _ p1 ⟨R1, W1, rfl, n1, hb1⟩
    have HP1 := Lib.hid (hb1.low HB21.out)
    clear hb1
    go_wp2_with fail
    refine (parish_own _).mono ?_
    rintro _ p2 ⟨R2, W2, rfl, n2, hb2⟩
    have HP2 : Hid (BF w p2 [(R2, kR, 120), (W2, kW, 100), (R1, kR, 120), (W1, kW, 100)]) := HP1.out.both hb2
    have a1 := (HP1.out.lt (.head _)).2
    have a2 := (HP1.out.lt (.tail _ (.head _))).2
    have b1 := (hb2.lt (.head _)).1
    have b2 := (hb2.lt (.tail _ (.head _))).1
    clear hb2 HP1
    go_wp2_with fail
    refine (parish_own _).mono ?_
    rintro _ p3 ⟨R3, W3, rfl, n3, hb3⟩
    have HP3 : Hid (BF w p3 [(R3, kR, 120), (W3, kW, 100), (R2, kR, 120), (W2, kW, 100), (R1, kR, 120), (W1, kW, 100)]) := HP2.out.both hb3
    have a3 := (HP2.out.lt (.head _)).2
    have a4 := (HP2.out.lt (.tail _ (.head _))).2
    have b3 := (hb3.lt (.head _)).1
    have b4 := (hb3.lt (.tail _ (.head _))).1
    have b5 := (hb3.lt (.head _)).2
    have b6 := (hb3.lt (.tail _ (.head _))).2
    clear hb3 HP2
    have HLT : Hid (∀ s, s = p3.heap.size → R1 ≠ W1 ∧ R1 < R2 ∧ R1 < W2 ∧ W1 < R2 ∧ W1 < W2 ∧ R2 ≠ W2 ∧ R2 < R3 ∧ R2 < W3 ∧ W2 < R3 ∧ W2 < W3 ∧ R3 ≠ W3 ∧ R3 < s ∧ W3 < s) := fun s e => by subst e; omega
    have hz := ((HP3.out.alloc #[.slice (some ⟨W1, 0, none⟩) 4 4, .slice (some ⟨R1, 0, none⟩) 4 4] 37).alloc #[.slice (some ⟨W2, 0, none⟩) 4 4, .slice (some ⟨R2, 0, none⟩) 4 4] 37).alloc #[.slice (some ⟨W3, 0, none⟩) 4 4, .slice (some ⟨R3, 0, none⟩) 4 4] 37
    simp only [World.size_alloc] at hz
    have HZ := Lib.hid hz
    clear hz a1 a2 a3 a4 b1 b2 b3 b4 b5 b6 n1 n2 n3 HP3
    go_wp2_with fail
    go_meet
    exact ⟨R1, W1, R2, W2, R3, W3, _, rfl, rfl, rfl, HLT.out _ rfl, HZ.out.sub (List.forall_mem_cons.2 ⟨(.tail _ (.tail _ (.head _))), List.forall_mem_cons.2 ⟨(.tail _ (.head _)), List.forall_mem_cons.2 ⟨(.head _), List.forall_mem_cons.2 ⟨(.tail _ (.tail _ (.tail _ (.head _)))), List.forall_mem_cons.2 ⟨(.tail _ (.tail _ (.tail _ (.tail _ (.head _))))), List.forall_mem_cons.2 ⟨(.tail _ (.tail _ (.tail _ (.tail _ (.tail _ (.head _)))))), List.forall_mem_cons.2 ⟨(.tail _ (.tail _ (.tail _ (.tail _ (.tail _ (.tail _ (.head _))))))), List.forall_mem_cons.2 ⟨(.tail _ (.tail _ (.tail _ (.tail _ (.tail _ (.tail _ (.tail _ (.head _)))))))), List.forall_mem_cons.2 ⟨(.tail _ (.tail _ (.tail _ (.tail _ (.tail _ (.tail _ (.tail _ (.tail _ (.head _))))))))), List.forall_mem_nil _⟩⟩⟩⟩⟩⟩⟩⟩⟩)⟩
  case rest =>
  obtain ⟨R1, W1, R2, W2, R3, W3, s, rfl, rfl, rfl, HLT, hbf⟩ := hcut
  rename World => v1
  have HQ := Lib.hid hbf
  clear hbf HB21 HAZ
  obtain ⟨q1, q2, q3, q4, q5, q6, q7, q8, q9, q10, q11, q12, q13⟩ := HLT.out
  go_upto_region 22 with fail
  go_cut [235] (fun s235 wy => ∃ ea ec, s235 = .slice ea 5 ec ∧ Hid (∀ k, (Value.slice ea 5 ec).ownBlock = some k → k ≠ s ∧ k ≠ s + 1 ∧ k ≠ s + 1 + 1 ∧ k ≠ R3 ∧ k ≠ W3 ∧ k ≠ R2 ∧ k ≠ W2 ∧ k ≠ W1) ∧ Hid (wy.ownsRow w.heap.size 120 4 (.slice ea 5 ec) 5 (fD pd2 5)) ∧ BF w wy [(s, #[.slice (some ⟨W1, 0, none⟩) 4 4, .slice ea 5 ec], 37), (s + 1, #[.slice (some ⟨W2, 0, none⟩) 4 4, .slice (some ⟨R2, 0, none⟩) 4 4], 37), (s + 1 + 1, #[.slice (some ⟨W3, 0, none⟩) 4 4, .slice (some ⟨R3, 0, none⟩) 4 4], 37), (R3, kR, 120), (W3, kW, 100), (R2, kR, 120), (W2, kW, 100), (W1, kW, 100)])
  case first => as_aux_lemma =>
    have HAX : Hid (BF w v1.drew [(s, #[.slice (some ⟨W1, 0, none⟩) 4 4, .slice (some ⟨R1, 0, none⟩) 4 4], 37), (s + 1, #[.slice (some ⟨W2, 0, none⟩) 4 4, .slice (some ⟨R2, 0, none⟩) 4 4], 37), (s + 1 + 1, #[.slice (some ⟨W3, 0, none⟩) 4 4, .slice (some ⟨R3, 0, none⟩) 4 4], 37), (R3, kR, 120), (W3, kW, 100), (R2, kR, 120), (W2, kW, 100), (R1, kR, 120), (W1, kW, 100)]) := HQ.out.below (Below.refl _ _).drew
    have HOX : Hid (Rws w.heap.size v1.drew [⟨120, 4, .slice (some ⟨R1, 0, none⟩) 4 4, 4, fD pm 4⟩]) := Rws.one (own_bf (HAX.out.bk _ _ _ (.tail _ (.tail _ (.tail _ (.tail _ (.tail _ (.tail _ (.tail _ (.head _))))))))).2 (HAX.out.bk _ _ _ (.tail _ (.tail _ (.tail _ (.tail _ (.tail _ (.tail _ (.tail _ (.head _))))))))).1 rfl (by unfold maxLen; omega))
    clear HQ
    refine wp_region_Z (S := fun X => X.cell? ⟨s, 1, none⟩ = some (.slice (some ⟨R1, 0, none⟩) 4 4)) (by kernel_rfl) (HAX.out.cell (.head _) 1) (fun hS => ?_)
    generalize v1.drew = X at *
    refine tk [0, 1] ?_
    repeat (refine tkZ (oi := ⟨_, _, _, _, _, _⟩) (v := ?_) rfl (by kernel_rfl) (by rfl) (fun _ _ _ h => h) hS ?_ ?_; rotate_left; (· intro W' hSw; (try dsimp only at hSw); go_simp; try with_reducible rfl); try simp only [Act.put, putA, putZ, putS])
    refine tk0 ?_
    refine wpAnyZ_next (rs := [2]) (by kernel_rfl) (by simp) ?_
    refine NextZ.cons (o := ⟨some 232, _, _, _, _, _⟩) rfl (fun K hK => ?_) NextZ.nil
    go_simp
    refine (between_any _ _ _).mono ?_
    rintro _ X0 ⟨rfl, hb0⟩
    (try go_wp2_with fail)
    have HA0 := Lib.hid (HAX.out.below hb0)
    have HO0 := Lib.hid (HOX.out.below hb0)
    refine hK.out _ _ (HA0.out.cell (.head _) 1) (fun hS => ?_)
    clear hK K
    try simp only [Act.put, putA, putZ, putS]
    clear hb0
    refine tZ 3 (oi := ⟨_, _, _, _, _, _⟩) (v := ?_) rfl (by kernel_rfl) (by rfl) (fun _ _ _ h => h) hS ?_ ?_
    rotate_left
    · intro W' hSw; (try dsimp only at hSw); go_simp; try with_reducible rfl
    try simp only [Act.put, putA, putZ, putS]
    refine wpAnyZ_next (rs := [4]) (by kernel_rfl) (by simp) ?_
    refine NextZ.cons (o := ⟨some 234, _, _, _, _, _⟩) rfl (fun K hK => ?_) NextZ.nil
    go_simp
    have HO1 := Lib.hid (HO0.out.below (below_alloc X0 (.cells #[.int .i64 1, .int .i64 0, .int .i64 1, .int .i64 1] 120)))
    have HA1 := Lib.hid (HA0.out.below (below_alloc X0 (.cells #[.int .i64 1, .int .i64 0, .int .i64 1, .int .i64 1] 120)))
    have HJ : Hid (Src (X0.alloc (.cells #[.int .i64 1, .int .i64 0, .int .i64 1, .int .i64 1] 120)) (some ⟨X0.heap.size, 0, none⟩) 4 1 [.int .i64 1, .int .i64 0, .int .i64 1, .int .i64 1]) := ⟨rfl, fun j u hu => ⟨_, rfl, World.news_of_block (heap_alloc_new X0 _) j u hu⟩⟩
    refine hK.out _ _ (HA1.out.cell (.head _) 1) (fun hS => ?_)
    clear hK K
    try simp only [Act.put, putA, putZ, putS]
    generalize X0.heap.size = J at *
    generalize (X0.alloc (.cells #[.int .i64 1, .int .i64 0, .int .i64 1, .int .i64 1] 120)) = X1 at *
    refine wpAnyZ_next (rs := [5]) (by kernel_rfl) (by simp) ?_
    refine NextZ.cons (o := ⟨some 235, _, _, _, _, _⟩) rfl (fun K hK => ?_) NextZ.nil
    refine step_append_src X1 (by rfl) (.tmp 231) (.tmp 234) 35 (by rfl) w.heap.size 120 i2 (.agg #[.int .i64 0, .int .i64 0, .int .i64 0, .int .i64 0]) 4 32 Try.underlying35 hj2 hu0 hu1 hu2 rfl (by decide) (.slice (some ⟨R1, 0, none⟩) 4 4) 4 (fD pm 4) (by rfl) (HO1.out.own 0 _ rfl) (some ⟨J, 0, none⟩) 1 1 [.int .i64 1, .int .i64 0, .int .i64 1, .int .i64 1] (by rfl) HJ.out (by simp [Value.oneCell']) (by unfold maxLen; omega) (by omega) HA1.out.fr.size ?_
    intro v2 X2 hown hgr hl
    obtain ⟨ea, ec, rfl⟩ := own_slice' hown
    have HA2 : Hid (BF w X2 [(s, #[.slice (some ⟨W1, 0, none⟩) 4 4, .slice (some ⟨R1, 0, none⟩) 4 4], 37), (s + 1, #[.slice (some ⟨W2, 0, none⟩) 4 4, .slice (some ⟨R2, 0, none⟩) 4 4], 37), (s + 1 + 1, #[.slice (some ⟨W3, 0, none⟩) 4 4, .slice (some ⟨R3, 0, none⟩) 4 4], 37), (R3, kR, 120), (W3, kW, 100), (R2, kR, 120), (W2, kW, 100), (W1, kW, 100)]) := (HA1.out.sub (List.forall_mem_cons.2 ⟨(.head _), List.forall_mem_cons.2 ⟨(.tail _ (.head _)), List.forall_mem_cons.2 ⟨(.tail _ (.tail _ (.head _))), List.forall_mem_cons.2 ⟨(.tail _ (.tail _ (.tail _ (.head _)))), List.forall_mem_cons.2 ⟨(.tail _ (.tail _ (.tail _ (.tail _ (.head _))))), List.forall_mem_cons.2 ⟨(.tail _ (.tail _ (.tail _ (.tail _ (.tail _ (.head _)))))), List.forall_mem_cons.2 ⟨(.tail _ (.tail _ (.tail _ (.tail _ (.tail _ (.tail _ (.head _))))))), List.forall_mem_cons.2 ⟨(.tail _ (.tail _ (.tail _ (.tail _ (.tail _ (.tail _ (.tail _ (.tail _ (.head _))))))))), List.forall_mem_nil _⟩⟩⟩⟩⟩⟩⟩⟩)).fro (Fr.grown hgr) (fun q hq e => by have := own_low (HO1.out.own 0 _ rfl) e; omega) (List.forall_mem_cons.2 ⟨(show ¬ some R1 = some (s) by intro e; injection e; omega), List.forall_mem_cons.2 ⟨(show ¬ some R1 = some (s + 1) by intro e; injection e; omega), List.forall_mem_cons.2 ⟨(show ¬ some R1 = some (s + 1 + 1) by intro e; injection e; omega), List.forall_mem_cons.2 ⟨(show ¬ some R1 = some (R3) by intro e; injection e; omega), List.forall_mem_cons.2 ⟨(show ¬ some R1 = some (W3) by intro e; injection e; omega), List.forall_mem_cons.2 ⟨(show ¬ some R1 = some (R2) by intro e; injection e; omega), List.forall_mem_cons.2 ⟨(show ¬ some R1 = some (W2) by intro e; injection e; omega), List.forall_mem_cons.2 ⟨(show ¬ some R1 = some (W1) by intro e; injection e; omega), List.forall_mem_nil _⟩⟩⟩⟩⟩⟩⟩⟩)
    have HW : Hid (∀ k, (Value.slice ea 5 ec).ownBlock = some k → k ≠ s ∧ k ≠ s + 1 ∧ k ≠ s + 1 + 1 ∧ k ≠ R3 ∧ k ≠ W3 ∧ k ≠ R2 ∧ k ≠ W2 ∧ k ≠ W1) := fun k hk => by
      have t0 := (HA1.out.lt (.head _)).2
      have t1 := (HA1.out.lt (.tail _ (.head _))).2
      have t2 := (HA1.out.lt (.tail _ (.tail _ (.head _)))).2
      have t3 := (HA1.out.lt (.tail _ (.tail _ (.tail _ (.head _))))).2
      have t4 := (HA1.out.lt (.tail _ (.tail _ (.tail _ (.tail _ (.head _)))))).2
      have t5 := (HA1.out.lt (.tail _ (.tail _ (.tail _ (.tail _ (.tail _ (.head _))))))).2
      have t6 := (HA1.out.lt (.tail _ (.tail _ (.tail _ (.tail _ (.tail _ (.tail _ (.head _)))))))).2
      have t7 := (HA1.out.lt (.tail _ (.tail _ (.tail _ (.tail _ (.tail _ (.tail _ (.tail _ (.tail _ (.head _)))))))))).2
      rcases hl with h | h
      · rw [h] at hk
        have hk2 : R1 = k := Option.some.inj hk
        omega
      · rw [h] at hk
        have hk2 := Option.some.inj hk
        omega
    have HN : Hid (X2.ownsRow w.heap.size 120 4 (.slice ea 5 ec) 5 (fD pd2 5)) := hown
    clear hown hgr hl
    refine hK.out _ _ (HA2.out.cell (.head _) 1) (fun hS => ?_)
    clear hK K
    try simp only [Act.put, putA, putZ, putS]
    refine tZ 6 (oi := ⟨_, _, _, _, _, _⟩) (v := ?_) rfl (by kernel_rfl) (by rfl) (fun _ _ _ h => h) hS ?_ ?_
    rotate_left
    · intro W' hSw; (try dsimp only at hSw); go_simp; try with_reducible rfl
    try simp only [Act.put, putA, putZ, putS]
    refine wpAnyZ_next (rs := [7]) (by kernel_rfl) (by simp) ?_
    refine NextZ.last (o := ⟨none, _, _, _, _, _⟩) rfl (by kernel_rfl) (fun K hK => ?_)
    have e0 := HA2.out.cell (.head _) 1
    have f0 := HA2.out.thaw (.head _) 1
    have HA3 : Hid (BF w (X2.setCell ⟨s, 1, none⟩ (.slice ea 5 ec)) [(s, #[.slice (some ⟨W1, 0, none⟩) 4 4, .slice ea 5 ec], 37), (s + 1, #[.slice (some ⟨W2, 0, none⟩) 4 4, .slice (some ⟨R2, 0, none⟩) 4 4], 37), (s + 1 + 1, #[.slice (some ⟨W3, 0, none⟩) 4 4, .slice (some ⟨R3, 0, none⟩) 4 4], 37), (R3, kR, 120), (W3, kW, 100), (R2, kR, 120), (W2, kW, 100), (W1, kW, 100)]) := BF.set1 (i := 1) (cs' := #[.slice (some ⟨W1, 0, none⟩) 4 4, .slice ea 5 ec]) HA2.out (.head _) (.slice ea 5 ec) (by simp) rfl (List.forall_mem_cons.2 ⟨⟨(show s + 1 ≠ s by omega), (.tail _ (.head _))⟩, List.forall_mem_cons.2 ⟨⟨(show s + 1 + 1 ≠ s by omega), (.tail _ (.tail _ (.head _)))⟩, List.forall_mem_cons.2 ⟨⟨(show R3 ≠ s by omega), (.tail _ (.tail _ (.tail _ (.head _))))⟩, List.forall_mem_cons.2 ⟨⟨(show W3 ≠ s by omega), (.tail _ (.tail _ (.tail _ (.tail _ (.head _)))))⟩, List.forall_mem_cons.2 ⟨⟨(show R2 ≠ s by omega), (.tail _ (.tail _ (.tail _ (.tail _ (.tail _ (.head _))))))⟩, List.forall_mem_cons.2 ⟨⟨(show W2 ≠ s by omega), (.tail _ (.tail _ (.tail _ (.tail _ (.tail _ (.tail _ (.head _)))))))⟩, List.forall_mem_cons.2 ⟨⟨(show W1 ≠ s by omega), (.tail _ (.tail _ (.tail _ (.tail _ (.tail _ (.tail _ (.tail _ (.head _))))))))⟩, List.forall_mem_nil _⟩⟩⟩⟩⟩⟩⟩)
    have HN2 : Hid ((X2.setCell ⟨s, 1, none⟩ (.slice ea 5 ec)).ownsRow w.heap.size 120 4 (.slice ea 5 ec) 5 (fD pd2 5)) := own_fr HN.out (Fr.set _ _ _ _) (fun g cur e _ _ e2 => (HW.out g e).1 e2)
    go_simp
    refine hK.out _ _ ?_
    clear hK K
    (try simp only [Act.put])
    clear e0 f0
    refine wpAnyZ_done (by kernel_rfl) ?_ _
    go_wp2_with fail
    go_meet
    exact ⟨ea, ec, rfl, HW.out, HN2.out, HA3.out⟩
  case rest =>
  obtain ⟨ea, ec, rfl, HW, HN, hbf⟩ := hcut
  rename World => v2
  have HA2 := Lib.hid hbf
  clear hbf HQ
  have l1 := HA2.out.cell (.tail _ (.head _)) 1
  have r1 := HA2.out.cell (.tail _ (.tail _ (.tail _ (.tail _ (.tail _ (.head _)))))) 1
  have t1 := HA2.out.thaw (.tail _ (.tail _ (.tail _ (.tail _ (.tail _ (.head _)))))) 1
  have HA3 : Hid (BF w (v2.setCell ⟨R2, 1, none⟩ (.int .i64 0)) [(R2, kR0, 120), (s, #[.slice (some ⟨W1, 0, none⟩) 4 4, .slice ea 5 ec], 37), (s + 1, #[.slice (some ⟨W2, 0, none⟩) 4 4, .slice (some ⟨R2, 0, none⟩) 4 4], 37), (s + 1 + 1, #[.slice (some ⟨W3, 0, none⟩) 4 4, .slice (some ⟨R3, 0, none⟩) 4 4], 37), (R3, kR, 120), (W3, kW, 100), (W2, kW, 100), (W1, kW, 100)]) := BF.set1 (i := 1) (cs' := kR0) HA2.out (.tail _ (.tail _ (.tail _ (.tail _ (.tail _ (.head _)))))) (.int .i64 0) (by decide) rfl (List.forall_mem_cons.2 ⟨⟨(show s ≠ R2 by omega), (.head _)⟩, List.forall_mem_cons.2 ⟨⟨(show s + 1 ≠ R2 by omega), (.tail _ (.head _))⟩, List.forall_mem_cons.2 ⟨⟨(show s + 1 + 1 ≠ R2 by omega), (.tail _ (.tail _ (.head _)))⟩, List.forall_mem_cons.2 ⟨⟨(show R3 ≠ R2 by omega), (.tail _ (.tail _ (.tail _ (.head _))))⟩, List.forall_mem_cons.2 ⟨⟨(show W3 ≠ R2 by omega), (.tail _ (.tail _ (.tail _ (.tail _ (.head _)))))⟩, List.forall_mem_cons.2 ⟨⟨(show W2 ≠ R2 by omega), (.tail _ (.tail _ (.tail _ (.tail _ (.tail _ (.tail _ (.head _)))))))⟩, List.forall_mem_cons.2 ⟨⟨(show W1 ≠ R2 by omega), (.tail _ (.tail _ (.tail _ (.tail _ (.tail _ (.tail _ (.tail _ (.head _))))))))⟩, List.forall_mem_nil _⟩⟩⟩⟩⟩⟩⟩)
  have HN3 : Hid ((v2.setCell ⟨R2, 1, none⟩ (.int .i64 0)).ownsRow w.heap.size 120 4 (.slice ea 5 ec) 5 (fD pd2 5)) := own_fr HN.out (Fr.set _ _ _ _) (fun g cur e _ _ e2 => (HW.out g e).2.2.2.2.2.1 e2)
  clear HA2 HN
  go_upto_region 24 with fail
  clear l1 r1 t1
  generalize (v2.setCell ⟨R2, 1, none⟩ (.int .i64 0)) = v3 at *
  have hmk : (Instr.makeSlice 34 (.int .i64 9) (.int .i64 9)).run Try.prog v3 = .ok (.slice (some ⟨v3.heap.size, 0, none⟩) 9 9) (v3.alloc (.cells #[.int .i64 0, .int .i64 0, .int .i64 0, .int .i64 0, .int .i64 0, .int .i64 0, .int .i64 0, .int .i64 0, .int .i64 0, .int .i64 0, .int .i64 0, .int .i64 0, .int .i64 0, .int .i64 0, .int .i64 0, .int .i64 0, .int .i64 0, .int .i64 0] 100)) := by kernel_rfl
  have HAB := Lib.hid (HA3.out.alloc #[.int .i64 0, .int .i64 0, .int .i64 0, .int .i64 0, .int .i64 0, .int .i64 0, .int .i64 0, .int .i64 0, .int .i64 0, .int .i64 0, .int .i64 0, .int .i64 0, .int .i64 0, .int .i64 0, .int .i64 0, .int .i64 0, .int .i64 0, .int .i64 0] 100)
  have uS := (HA3.out.lt (.tail _ (.tail _ (.tail _ (.head _))))).2
  have n0 := HAB.out.cell (.tail _ (.tail _ (.tail _ (.tail _ (.head _))))) 0
  have m0 := HAB.out.thaw (.tail _ (.tail _ (.tail _ (.tail _ (.head _))))) 0
  have HA4 : Hid (BF w (v3.setCell ⟨s + 1 + 1, 0, none⟩ (.slice (some ⟨v3.heap.size, 0, none⟩) 9 9)) [(s + 1 + 1, #[.slice (some ⟨v3.heap.size, 0, none⟩) 9 9, .slice (some ⟨R3, 0, none⟩) 4 4], 37), (R2, kR0, 120), (s, #[.slice (some ⟨W1, 0, none⟩) 4 4, .slice ea 5 ec], 37), (s + 1, #[.slice (some ⟨W2, 0, none⟩) 4 4, .slice (some ⟨R2, 0, none⟩) 4 4], 37), (R3, kR, 120), (W3, kW, 100), (W2, kW, 100), (W1, kW, 100)]) := BF.set1 (i := 0) (cs' := #[.slice (some ⟨v3.heap.size, 0, none⟩) 9 9, .slice (some ⟨R3, 0, none⟩) 4 4]) HA3.out (.tail _ (.tail _ (.tail _ (.head _)))) (.slice (some ⟨v3.heap.size, 0, none⟩) 9 9) (by simp) rfl (List.forall_mem_cons.2 ⟨⟨(show R2 ≠ s + 1 + 1 by omega), (.head _)⟩, List.forall_mem_cons.2 ⟨⟨(show s ≠ s + 1 + 1 by omega), (.tail _ (.head _))⟩, List.forall_mem_cons.2 ⟨⟨(show s + 1 ≠ s + 1 + 1 by omega), (.tail _ (.tail _ (.head _)))⟩, List.forall_mem_cons.2 ⟨⟨(show R3 ≠ s + 1 + 1 by omega), (.tail _ (.tail _ (.tail _ (.tail _ (.head _)))))⟩, List.forall_mem_cons.2 ⟨⟨(show W3 ≠ s + 1 + 1 by omega), (.tail _ (.tail _ (.tail _ (.tail _ (.tail _ (.head _))))))⟩, List.forall_mem_cons.2 ⟨⟨(show W2 ≠ s + 1 + 1 by omega), (.tail _ (.tail _ (.tail _ (.tail _ (.tail _ (.tail _ (.head _)))))))⟩, List.forall_mem_cons.2 ⟨⟨(show W1 ≠ s + 1 + 1 by omega), (.tail _ (.tail _ (.tail _ (.tail _ (.tail _ (.tail _ (.tail _ (.head _))))))))⟩, List.forall_mem_nil _⟩⟩⟩⟩⟩⟩⟩)
  have hsz : (v3.setCell ⟨s + 1 + 1, 0, none⟩ (.slice (some ⟨v3.heap.size, 0, none⟩) 9 9)).heap.size = v3.heap.size := by simp
  have ha5 := HA4.out.alloc #[.int .i64 0, .int .i64 0, .int .i64 0, .int .i64 0, .int .i64 0, .int .i64 0, .int .i64 0, .int .i64 0, .int .i64 0, .int .i64 0, .int .i64 0, .int .i64 0, .int .i64 0, .int .i64 0, .int .i64 0, .int .i64 0, .int .i64 0, .int .i64 0] 100
  rw [hsz] at ha5
  have HA5 : Hid (BF w ((v3.setCell ⟨s + 1 + 1, 0, none⟩ (.slice (some ⟨v3.heap.size, 0, none⟩) 9 9)).alloc (.cells #[.int .i64 0, .int .i64 0, .int .i64 0, .int .i64 0, .int .i64 0, .int .i64 0, .int .i64 0, .int .i64 0, .int .i64 0, .int .i64 0, .int .i64 0, .int .i64 0, .int .i64 0, .int .i64 0, .int .i64 0, .int .i64 0, .int .i64 0, .int .i64 0] 100)) [(v3.heap.size, #[.int .i64 0, .int .i64 0, .int .i64 0, .int .i64 0, .int .i64 0, .int .i64 0, .int .i64 0, .int .i64 0, .int .i64 0, .int .i64 0, .int .i64 0, .int .i64 0, .int .i64 0, .int .i64 0, .int .i64 0, .int .i64 0, .int .i64 0, .int .i64 0], 100), (s + 1 + 1, #[.slice (some ⟨v3.heap.size, 0, none⟩) 9 9, .slice (some ⟨R3, 0, none⟩) 4 4], 37), (R2, kR0, 120), (s, #[.slice (some ⟨W1, 0, none⟩) 4 4, .slice ea 5 ec], 37), (s + 1, #[.slice (some ⟨W2, 0, none⟩) 4 4, .slice (some ⟨R2, 0, none⟩) 4 4], 37), (R3, kR, 120), (W3, kW, 100), (W2, kW, 100), (W1, kW, 100)]) := ha5
  have HN4 : Hid ((v3.setCell ⟨s + 1 + 1, 0, none⟩ (.slice (some ⟨v3.heap.size, 0, none⟩) 9 9)).ownsRow w.heap.size 120 4 (.slice ea 5 ec) 5 (fD pd2 5)) := own_fr HN3.out (Fr.set _ _ _ _) (fun g cur e _ _ e2 => (HW.out g e).2.2.1 e2)
  have HN5 := Lib.hid (own_below HN4.out (below_alloc (v3.setCell ⟨s + 1 + 1, 0, none⟩ (.slice (some ⟨v3.heap.size, 0, none⟩) 9 9)) (.cells #[.int .i64 0, .int .i64 0, .int .i64 0, .int .i64 0, .int .i64 0, .int .i64 0, .int .i64 0, .int .i64 0, .int .i64 0, .int .i64 0, .int .i64 0, .int .i64 0, .int .i64 0, .int .i64 0, .int .i64 0, .int .i64 0, .int .i64 0, .int .i64 0] 100)))
  clear ha5 hsz
  clear HA3 HA4 HN3 HN4 HAB
  have d0 := HA5.out.cell (.tail _ (.tail _ (.tail _ (.head _)))) 0
  have d1 := HA5.out.cell (.tail _ (.tail _ (.tail _ (.head _)))) 1
  go_wp2_with fail
  clear d0 d1 n0 m0 hmk uS
  generalize ((v3.setCell ⟨s + 1 + 1, 0, none⟩ (.slice (some ⟨v3.heap.size, 0, none⟩) 9 9)).alloc (.cells #[.int .i64 0, .int .i64 0, .int .i64 0, .int .i64 0, .int .i64 0, .int .i64 0, .int .i64 0, .int .i64 0, .int .i64 0, .int .i64 0, .int .i64 0, .int .i64 0, .int .i64 0, .int .i64 0, .int .i64 0, .int .i64 0, .int .i64 0, .int .i64 0] 100)) = v4 at *
  generalize v3.heap.size = Y at *
  have HMD : Hid (MpIn v4 ⟨some ⟨W1, 0, none⟩, 4, ea, ec⟩ pd2) := ⟨mp_wk (HA5.out.bk _ _ _ (.tail _ (.tail _ (.tail _ (.tail _ (.tail _ (.tail _ (.tail _ (.tail _ (.head _)))))))))).2 kW_wk, RdIn.own HN5.out⟩
  have HML : Hid (MpIn v4 ⟨some ⟨W2, 0, none⟩, 4, some ⟨R2, 0, none⟩, 4⟩ pl2) := ⟨mp_wk (HA5.out.bk _ _ _ (.tail _ (.tail _ (.tail _ (.tail _ (.tail _ (.tail _ (.tail _ (.head _))))))))).2 kW_wk, mp_rd (m := pl2) (HA5.out.bk _ _ _ (.tail _ (.tail _ (.head _)))).2 kR0_rd⟩
  have HMM : Hid (MpIn v4 ⟨some ⟨Y, 0, none⟩, 9, some ⟨R3, 0, none⟩, 4⟩ pm9) := ⟨mp_wk (HA5.out.bk _ _ _ (.head _)).2 (fun j hj => by rcases j with _ | _ | _ | _ | _ | _ | _ | _ | _ | j <;> first | exact ⟨rfl, rfl⟩ | exact absurd hj (by show ¬ j + 9 < 9; omega)), mp_rd (m := pm9) (HA5.out.bk _ _ _ (.tail _ (.tail _ (.tail _ (.tail _ (.tail _ (.head _))))))).2 kR_rd⟩
  clear HN5 HW
  refine (chk_any ⟨some ⟨W1, 0, none⟩, 4, ea, ec⟩ pd2 _ HMD.out (by decide) (by decide) nm_faults.1).mono ?_
  rintro _ v5 ⟨rfl, hb⟩
  have HA6 := Lib.hid (HA5.out.below hb)
  have HML6 := Lib.hid (HML.out.below hb)
  have HMM6 := Lib.hid (HMM.out.below hb)
  have d0 := HA6.out.cell (.tail _ (.tail _ (.tail _ (.tail _ (.head _))))) 0
  have d1 := HA6.out.cell (.tail _ (.tail _ (.tail _ (.tail _ (.head _))))) 1
  clear hb HA5 HML HMM HMD
  go_wp2_with fail
  refine (chk_any ⟨some ⟨W2, 0, none⟩, 4, some ⟨R2, 0, none⟩, 4⟩ pl2 _ HML6.out (by decide) (by decide) nm_faults.2.1).mono ?_
  rintro _ v6 ⟨rfl, hb⟩
  have HA7 := Lib.hid (HA6.out.below hb)
  have HMM7 := Lib.hid (HMM6.out.below hb)
  clear d0 d1
  have d0 := HA7.out.cell (.tail _ (.head _)) 0
  have d1 := HA7.out.cell (.tail _ (.head _)) 1
  clear hb HA6 HML6 HMM6
  go_wp2_with fail
  refine (chk_any ⟨some ⟨Y, 0, none⟩, 9, some ⟨R3, 0, none⟩, 4⟩ pm9 _ HMM7.out (by decide) (by decide) nm_faults.2.2.1).mono ?_
  rintro _ v7 ⟨rfl, hb⟩
  have HA8 := Lib.hid (HA7.out.below hb)
  clear hb HA7 HMM7 d0 d1
  go_wp2_with fail
  refine (chk_any ⟨none, 0, none, 0⟩ pm0 _ ⟨.inl ⟨_, _, rfl, rfl⟩, .inl ⟨_, _, rfl, rfl⟩⟩ (by decide) (by decide) nm_faults.2.2.2.1).mono ?_
  rintro _ v8 ⟨rfl, hb⟩
  have HA9 := Lib.hid (HA8.out.below hb)
  clear hb HA8
  go_wp2_with fail
  refine (awake_any _).mono ?_
  rintro _ v9 ⟨rfl, hb⟩
  have HA10 := Lib.hid (HA9.out.below hb)
  clear hb HA9
  go_wp2_with fail
  go_ret
  exact ⟨rfl, HA10.out.fr⟩
end Go.Proofs.Ytpnkgjkoophckaa
