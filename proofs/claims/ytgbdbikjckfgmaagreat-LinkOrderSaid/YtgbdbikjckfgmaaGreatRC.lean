/- Link: LinkOrder's walk. Printed by gen_rc.py. -/
import Derived.Test.YtgbdbikjckfgmaaGreatRA
import Derived.Test.YtgbdbikjckfgmaaGreatOR
import Derived.Test.YtgbdbikjckfgmaaGreatPI
namespace Go.Proofs.YtgbdbikjckfgmaaGreat
open Go.RowKit Go.Shelf

theorem Two.new1 {base : Nat} {X : World} {T : TypeId} {sz n2 : Nat} {v2 : Value} {x2 : List Value} (h : Two base X T sz (.slice none 0 0) 0 [] v2 n2 x2) (hb : base ≤ X.heap.size) : Two base (X.alloc (.cells #[] T)) T sz (.slice (some ⟨X.heap.size, 0, none⟩) 0 0) 0 [] v2 n2 x2 :=
  ⟨own_empty X T sz base hb, own_below h.o2 (below_alloc X _), fun k e1 e2 => by
    have h1 := own_lt h.o2 e2
    have e3 : some X.heap.size = some k := e1
    injection e3 with e4
    omega⟩
theorem Two.setRow {base : Nat} {X : World} {T T' : TypeId} {sz n1 n2 : Nat} {v1 v2 : Value} {x1 x2 : List Value} {P : Nat} {c : Array Value} (cs : Array Value) (h : Two base X T sz v1 n1 x1 v2 n2 x2) (hp : X.heap[P]? = some (.cells c T' (0, 0))) (ht : T' ≠ T) : Two base (X.setRow P cs) T sz v1 n1 x1 v2 n2 x2 :=
  ⟨own_fr h.o1 (Fr.setRow X P cs) (fun g cur e1 _ _ e3 => own_type_ne h.o1 hp ht (by rw [e1, e3])), own_fr h.o2 (Fr.setRow X P cs) (fun g cur e1 _ _ e3 => own_type_ne h.o2 hp ht (by rw [e1, e3])), h.dis⟩
structure Box (T : Prop) : Prop where
  out : T
theorem joinB {T G : Prop} (h : Box T → G) (t : T) : G := h ⟨t⟩
set_option maxRecDepth 100000 in
set_option maxHeartbeats 32000000 in
theorem linkOrder_thick (x : FV) (f : Fl) (na1 nb1 : Nat) (w : World) (h : FlQ QR w x f) (ht : f.rdy = false) :
    Calls Tryz.prog 9 #[.agg #[.slice x.oa f.no x.oc, .slice x.na f.nw x.nc, .slice x.ma f.nm x.mc], .int .u8 (na1 : Int), .int .u8 (nb1 : Int)] w fun e w' => e = .returned (.bool true) ∧ Below w.heap.size w w' := by
  obtain ⟨oa, oc, na, nc, ma, mc⟩ := x
  have HTH := Lib.hid (readyW ⟨oa, oc, na, nc, ma, mc⟩ f w h false ht)
  clear h ht
  dsimp only at HTH ⊢
  generalize f.no = no at *
  generalize f.nw = nw at *
  generalize f.nm = nm at *
  have HA := Lib.hid ((BF.base w).alloc #[.slice oa no oc, .slice na nw nc, .slice ma nm mc] 25)
  go_enter Tryz.func9, Tryz.ntmps9
  have c0 := HA.out.cell (.head _) 0
  have c1 := HA.out.cell (.head _) 1
  have c2 := HA.out.cell (.head _) 2
  go_wp2_with fail
  refine (HTH.out _ HA.out.fr).mono ?_
  rintro _ w1 ⟨rfl, hb⟩
  have HA' := Lib.hid (HA.out.below hb)
  clear HA
  have HA := HA'
  clear HA'
  clear hb c0 c1 c2
  go_wp2_with fail
  refine (awake5_any _).mono ?_
  rintro _ w2 ⟨rfl, hb⟩
  have HA' := Lib.hid (HA.out.below hb)
  clear HA
  have HA := HA'
  clear HA'
  clear hb
  go_wp2_with fail
  go_ret
  exact ⟨rfl, HA.out.fr⟩
set_option maxRecDepth 100000 in
set_option maxHeartbeats 32000000 in
theorem linkOrder_noneo (x : FV) (f : Fl) (na1 nb1 : Nat) (w : World) (h : FlQ QR w x f) (hr : f.rdy = true) (h0 : f.no = 0) :
    Calls Tryz.prog 9 #[.agg #[.slice x.oa f.no x.oc, .slice x.na f.nw x.nc, .slice x.ma f.nm x.mc], .int .u8 (na1 : Int), .int .u8 (nb1 : Int)] w fun e w' => e = .returned (.bool true) ∧ Below w.heap.size w w' := by
  obtain ⟨oa, oc, na, nc, ma, mc⟩ := x
  have HTH := Lib.hid (readyW ⟨oa, oc, na, nc, ma, mc⟩ f w h true hr)
  clear h hr
  dsimp only at HTH ⊢
  generalize f.no = no at *
  generalize f.nw = nw at *
  generalize f.nm = nm at *
  obtain rfl : no = 0 := by omega
  have HA := Lib.hid ((BF.base w).alloc #[.slice oa 0 oc, .slice na nw nc, .slice ma nm mc] 25)
  go_enter Tryz.func9, Tryz.ntmps9
  have c0 := HA.out.cell (.head _) 0
  have c1 := HA.out.cell (.head _) 1
  have c2 := HA.out.cell (.head _) 2
  go_wp2_with fail
  refine (HTH.out _ HA.out.fr).mono ?_
  rintro _ w1 ⟨rfl, hb⟩
  have HA' := Lib.hid (HA.out.below hb)
  clear HA
  have HA := HA'
  clear HA'
  clear hb c0 c1 c2
  have c0 := HA.out.cell (.head _) 0
  have c1 := HA.out.cell (.head _) 1
  have c2 := HA.out.cell (.head _) 2
  go_wp2_with fail
  refine (awake5_any _).mono ?_
  rintro _ w2 ⟨rfl, hb⟩
  have HA' := Lib.hid (HA.out.below hb)
  clear HA
  have HA := HA'
  clear HA'
  clear hb
  go_wp2_with fail
  go_ret
  exact ⟨rfl, HA.out.fr⟩
set_option maxRecDepth 100000 in
set_option maxHeartbeats 32000000 in
theorem linkOrder_nonen (x : FV) (f : Fl) (na1 nb1 : Nat) (w : World) (h : FlQ QR w x f) (hr : f.rdy = true) (h1 : 0 < f.no) (h0 : f.nw = 0) :
    Calls Tryz.prog 9 #[.agg #[.slice x.oa f.no x.oc, .slice x.na f.nw x.nc, .slice x.ma f.nm x.mc], .int .u8 (na1 : Int), .int .u8 (nb1 : Int)] w fun e w' => e = .returned (.bool true) ∧ Below w.heap.size w w' := by
  obtain ⟨oa, oc, na, nc, ma, mc⟩ := x
  have HTH := Lib.hid (readyW ⟨oa, oc, na, nc, ma, mc⟩ f w h true hr)
  clear h hr
  dsimp only at HTH ⊢
  generalize f.no = no at *
  generalize f.nw = nw at *
  generalize f.nm = nm at *
  obtain rfl : nw = 0 := by omega
  have kno : ((no : Int) == 0) = false := by simp; omega
  have HA := Lib.hid ((BF.base w).alloc #[.slice oa no oc, .slice na 0 nc, .slice ma nm mc] 25)
  go_enter Tryz.func9, Tryz.ntmps9
  have c0 := HA.out.cell (.head _) 0
  have c1 := HA.out.cell (.head _) 1
  have c2 := HA.out.cell (.head _) 2
  go_wp2_with fail
  refine (HTH.out _ HA.out.fr).mono ?_
  rintro _ w1 ⟨rfl, hb⟩
  have HA' := Lib.hid (HA.out.below hb)
  clear HA
  have HA := HA'
  clear HA'
  clear hb c0 c1 c2
  have c0 := HA.out.cell (.head _) 0
  have c1 := HA.out.cell (.head _) 1
  have c2 := HA.out.cell (.head _) 2
  go_wp2_with fail
  refine (awake5_any _).mono ?_
  rintro _ w2 ⟨rfl, hb⟩
  have HA' := Lib.hid (HA.out.below hb)
  clear HA
  have HA := HA'
  clear HA'
  clear hb
  go_wp2_with fail
  go_ret
  exact ⟨rfl, HA.out.fr⟩
set_option maxRecDepth 100000 in
set_option maxHeartbeats 32000000 in
theorem linkOrder_ok (x : FV) (f : Fl) (na1 nb1 : Nat) (i k : Nat) (w : World) (h : FlQ QR w x f) (hr : f.rdy = true) (hco : f.no ≤ x.oc) (hcn : f.nw ≤ x.nc) (hia : na1 % f.no = i) (hka : nb1 % f.nw = k) (h256 : na1 < 256) (h257 : nb1 < 256) (hi : i < f.no) (hk : k < f.nw) :
    Calls Tryz.prog 9 #[.agg #[.slice x.oa f.no x.oc, .slice x.na f.nw x.nc, .slice x.ma f.nm x.mc], .int .u8 (na1 : Int), .int .u8 (nb1 : Int)] w fun e w' => e = .returned (.bool true) ∧ Below w.heap.size w w' := by
  obtain ⟨oa, oc, na, nc, ma, mc⟩ := x
  obtain ⟨ht, hf⟩ := Fl.rdy_yes hr
  have HTH := Lib.hid (readyW ⟨oa, oc, na, nc, ma, mc⟩ f w h true hr)
  have HFI := Lib.hid (fileW ⟨oa, oc, na, nc, ma, mc⟩ f w h ht)
  have OK := Lib.hid (Fl.ok hf)
  have hno := OK.out.no
  have hnw := OK.out.nw
  obtain ⟨i0, hi0, hz0, hz1, hz2⟩ := info_parts Tryz.infoREntry
  have hft := (OK.out.rot hi hk).fault
  obtain ⟨ob, oo, _, _, _, rfl, _⟩ := h.o.at hi
  obtain ⟨nb, nn, _, _, _, rfl, _⟩ := h.n.at hk
  have HC1 : Hid (∀ (z : FV) X, FlQ QP X z f → Calls Tryz.prog 37 #[.agg #[.slice z.oa f.no z.oc, .slice z.na f.nw z.nc, .slice z.ma f.nm z.mc]] X (GivesP X (dL f.qS f.nw f.no))) := fun z X hq => by rw [← chL_S]; exact sureF_ok z f X hq hf
  have HC2 : Hid (∀ (z : FV) X, FlQ QP X z f → Calls Tryz.prog 35 #[.agg #[.slice z.oa f.no z.oc, .slice z.na f.nw z.nc, .slice z.ma f.nm z.mc]] X (GivesP X (dL f.qP f.nw f.no))) := fun z X hq => by rw [← chL_P]; exact possF_ok z f X hq hf
  have HD1 : Hid (∀ (z : FV) X, FlQ QP X z (f.rot i k) → Calls Tryz.prog 37 #[.agg #[.slice z.oa f.no z.oc, .slice z.na f.nw z.nc, .slice z.ma f.nm z.mc]] X (GivesP X (dL (f.rot i k).qS f.nw f.no))) := fun z X hq => by have h := sureF_ok z (f.rot i k) X hq hft; rw [chL_S] at h; exact h
  have HD2 : Hid (∀ (z : FV) X, FlQ QP X z (f.rot i k) → Calls Tryz.prog 35 #[.agg #[.slice z.oa f.no z.oc, .slice z.na f.nw z.nc, .slice z.ma f.nm z.mc]] X (GivesP X (dL (f.rot i k).qP f.nw f.no))) := fun z X hq => by have h := possF_ok z (f.rot i k) X hq hft; rw [chL_P] at h; exact h
  have HTF : Hid (∀ X va vc ub uc, Below w.heap.size w X → EsQ QR X (.slice va f.no vc) f.no (rotE f.O f.no i) → EsQ QR X (.slice ub f.nw uc) f.nw (rotE f.N f.nw k) → ∀ Y, Below X.heap.size X Y → Calls Tryz.prog 21 #[.agg #[.slice va f.no vc, .slice ub f.nw uc, .slice ma f.nm mc]] Y fun e w' => ∃ z : FV, e = .returned (.agg #[.slice z.oa f.no z.oc, .slice z.na f.nw z.nc, .slice z.ma f.nm z.mc]) ∧ FlQ QP w' z (f.rot i k) ∧ Below Y.heap.size Y w') := fun X va vc ub uc hX h1 h2 Y hY => fileW ⟨va, vc, ub, uc, ma, mc⟩ (f.rot i k) X ⟨h1, h2, (h.below QR.k hX).m⟩ (Fl.rot_thin ht hi hk) Y hY
  obtain ⟨VO1, o1, s1⟩ := (h.o.drop (k := i) (by omega) (oc - i)).pick
  obtain ⟨VO2, o2, s2⟩ := (h.o.take (k := i) (by omega) oc).pick
  obtain ⟨VN1, m1, t1⟩ := (h.n.drop (k := k) (by omega) (nc - k)).pick
  obtain ⟨VN2, m2, t2⟩ := (h.n.take (k := k) (by omega) nc).pick
  have HSO1 := Lib.hid (fun X (hb : Below w.heap.size w X) => s1.below (fun p v hv => below_cell hb p v hv))
  have HSO2 := Lib.hid (fun X (hb : Below w.heap.size w X) => s2.below (fun p v hv => below_cell hb p v hv))
  have HSN1 := Lib.hid (fun X (hb : Below w.heap.size w X) => t1.below (fun p v hv => below_cell hb p v hv))
  have HSN2 := Lib.hid (fun X (hb : Below w.heap.size w X) => t2.below (fun p v hv => below_cell hb p v hv))
  have HUO1 := Lib.hid (eF_oneR o1)
  have HUO2 := Lib.hid (eF_oneR o2)
  have HUN1 := Lib.hid (eF_oneR m1)
  have HUN2 := Lib.hid (eF_oneR m2)
  have HEO : Hid (∀ W v, Below w.heap.size w W → World.ownsRow W w.heap.size 77 7 v f.no (eF (fun j => f.O (i + j)) VO1 (f.no - i) ++ eF f.O VO2 i) → EsQ QR W v f.no (rotE f.O f.no i)) := fun W v hW how => by
    have hh := EsQ.cat (n := f.no - i) (m := i) (own_cast how (by omega) rfl) (fun j hj => QR.k _ _ _ _ _ _ (o1 j hj) hW) (fun j hj => QR.k _ _ _ _ _ _ (o2 j hj) hW)
    rw [show f.no - i + i = f.no by omega] at hh
    exact hh
  have HEN : Hid (∀ W v, Below w.heap.size w W → World.ownsRow W w.heap.size 77 7 v f.nw (eF (fun j => f.N (k + j)) VN1 (f.nw - k) ++ eF f.N VN2 k) → EsQ QR W v f.nw (rotE f.N f.nw k)) := fun W v hW how => by
    have hh := EsQ.cat (n := f.nw - k) (m := k) (own_cast how (by omega) rfl) (fun j hj => QR.k _ _ _ _ _ _ (m1 j hj) hW) (fun j hj => QR.k _ _ _ _ _ _ (m2 j hj) hW)
    rw [show f.nw - k + k = f.nw by omega] at hh
    exact hh
  have HL1 := Lib.hid (rot_len hi hk (fun a b => OK.out.rot_qS hi hk a b))
  have HL2 := Lib.hid (rot_len hi hk (fun a b => OK.out.rot_qP hi hk a b))
  have HM1 := Lib.hid (fun a b (hx : ((((a : Nat) : Int), ((b : Nat) : Int)) : Int × Int) ∈ dL (f.rot i k).qS f.nw f.no) => rot_mem hi hk (fun a b => OK.out.rot_qS hi hk a b) hx)
  have HM2 := Lib.hid (fun a b (hx : ((((a : Nat) : Int), ((b : Nat) : Int)) : Int × Int) ∈ dL (f.rot i k).qP f.nw f.no) => rot_mem hi hk (fun a b => OK.out.rot_qP hi hk a b) hx)
  have HB1 := Lib.hid (dL_len f.qS f.nw f.no)
  have HB2 := Lib.hid (dL_len f.qP f.nw f.no)
  have hm8 : f.nw * f.no ≤ 8 * 8 := Nat.mul_le_mul hnw hno
  unfold GivesP at HC1 HC2 HD1 HD2
  clear h hr ht hf hft OK o1 o2 m1 m2 s1 s2 t1 t2
  dsimp only at HTH HFI hco hcn ⊢
  have kw1 : IntKind.i64.wrap (na1 : Int) = (na1 : Int) := IntWalk.i64_in _ (by omega)
  have kw2 : IntKind.i64.wrap (nb1 : Int) = (nb1 : Int) := IntWalk.i64_in _ (by omega)
  have HKT : Hid ((na1 : Int).tmod (f.no : Int) = (i : Int) ∧ (nb1 : Int).tmod (f.nw : Int) = (k : Int)) := ⟨by rw [← hia, Int.tmod_eq_emod_of_nonneg (by omega)]; rfl, by rw [← hka, Int.tmod_eq_emod_of_nonneg (by omega)]; rfl⟩
  have HCO := Lib.hid hco
  have HBD : Hid (i < f.no ∧ k < f.nw) := ⟨hi, hk⟩
  have HCN := Lib.hid hcn
  clear hia hka
  generalize (f.rot i k).qS = s' at *
  generalize (f.rot i k).qP = p' at *
  generalize f.rot i k = fx at *
  generalize f.qS = s at *
  generalize f.qP = p at *
  generalize eF (fun j => f.O (i + j)) VO1 (f.no - i) = x1 at *
  generalize eF f.O VO2 i = x2 at *
  generalize eF (fun j => f.N (k + j)) VN1 (f.nw - k) = y1 at *
  generalize eF f.N VN2 k = y2 at *
  generalize rotE f.O f.no i = rO at *
  generalize rotE f.N f.nw k = rN at *
  generalize f.no = no at *
  generalize f.nw = nw at *
  generalize f.nm = nm at *
  have HNO : Hid (no - i + i = no) := by unfold Hid; omega
  have HNW : Hid (nw - k + k = nw) := by unfold Hid; omega
  have CLX := 0
  clear CLX
  have HA := Lib.hid ((BF.base w).alloc #[.slice (some ⟨ob, oo, none⟩) no oc, .slice (some ⟨nb, nn, none⟩) nw nc, .slice ma nm mc] 25)
  go_enter Tryz.func9, Tryz.ntmps9
  have kno : ((no : Int) == 0) = false := by simp; omega
  have knw : ((nw : Int) == 0) = false := by simp; omega
  have kno2 : ¬ ((no : Int) = 0) := by omega
  have knw2 : ¬ ((nw : Int) = 0) := by omega
  have kno3 : ¬ no = 0 := by omega
  have knw3 : ¬ nw = 0 := by omega
  have c0 := HA.out.cell (.head _) 0
  have c1 := HA.out.cell (.head _) 1
  have c2 := HA.out.cell (.head _) 2
  go_wp2_with fail
  refine (HTH.out _ HA.out.fr).mono ?_
  rintro _ w1 ⟨rfl, hb⟩
  have HA' := Lib.hid (HA.out.below hb)
  clear HA
  have HA := HA'
  clear HA'
  clear hb c0 c1 c2
  have c0 := HA.out.cell (.head _) 0
  have c1 := HA.out.cell (.head _) 1
  have c2 := HA.out.cell (.head _) 2
  go_upto_region 3 with fail
  have HAX : Hid (BF w w1.drew [(w.heap.size, #[.slice (some ⟨ob, oo, none⟩) no oc, .slice (some ⟨nb, nn, none⟩) nw nc, .slice ma nm mc], 25)]) := HA.out.below (Below.refl _ _).drew
  clear HA c0 c1 c2
  refine wp_region_Z (S := fun X => X.cell? ⟨w.heap.size, 0, none⟩ = some (.slice (some ⟨ob, oo, none⟩) no oc) ∧ X.cell? ⟨w.heap.size, 1, none⟩ = some (.slice (some ⟨nb, nn, none⟩) nw nc) ∧ X.cell? ⟨w.heap.size, 2, none⟩ = some (.slice ma nm mc)) (by kernel_rfl) (⟨HAX.out.cell (.head _) 0, HAX.out.cell (.head _) 1, HAX.out.cell (.head _) 2⟩) (fun hS => ?_)
  generalize w1.drew = X at *
  refine wpAnyZ_take (i := 0) (oi := ⟨some 36, _, _, _, _, _⟩) (v := ?_) rfl (by kernel_rfl) (by kernel_rfl) (by kernel_rfl) (fun _ _ _ h => h) (Or.inl ⟨by rfl, ?_⟩) hS ?_
  rotate_left
  · rintro W' ⟨z0, z1, z2⟩; go_simp; try with_reducible rfl
  try simp only [Act.put, putA, putZ, putS]
  refine wpAnyZ_take (i := 1) (oi := ⟨some 37, _, _, _, _, _⟩) (v := ?_) rfl (by kernel_rfl) (by kernel_rfl) (by kernel_rfl) (fun _ _ _ h => h) (Or.inl ⟨by rfl, ?_⟩) hS ?_
  rotate_left
  · rintro W' ⟨z0, z1, z2⟩; go_simp; try with_reducible rfl
  try simp only [Act.put, putA, putZ, putS]
  refine wpAnyZ_take (i := 2) (oi := ⟨some 38, _, _, _, _, _⟩) (v := ?_) rfl (by kernel_rfl) (by kernel_rfl) (by kernel_rfl) (fun _ _ _ h => h) (Or.inl ⟨by rfl, ?_⟩) hS ?_
  rotate_left
  · rintro W' ⟨z0, z1, z2⟩; go_simp; try with_reducible rfl
  try simp only [Act.put, putA, putZ, putS]
  refine wpAnyZ_take (i := 3) (oi := ⟨some 39, _, _, _, _, _⟩) (v := ?_) rfl (by kernel_rfl) (by kernel_rfl) (by kernel_rfl) (fun _ _ _ h => h) (Or.inl ⟨by rfl, ?_⟩) hS ?_
  rotate_left
  · rintro W' ⟨z0, z1, z2⟩; go_simp; try with_reducible rfl
  try simp only [Act.put, putA, putZ, putS]
  refine wpAnyZ_take (i := 4) (oi := ⟨some 40, _, _, _, _, _⟩) (v := ?_) rfl (by kernel_rfl) (by kernel_rfl) (by kernel_rfl) (fun _ _ _ h => h) (Or.inl ⟨by rfl, ?_⟩) hS ?_
  rotate_left
  · rintro W' ⟨z0, z1, z2⟩; go_simp; try with_reducible rfl
  try simp only [Act.put, putA, putZ, putS]
  refine wpAnyZ_take (i := 5) (oi := ⟨some 41, _, _, _, _, _⟩) (v := .int .i64 (i : Int)) rfl (by kernel_rfl) (by kernel_rfl) (by kernel_rfl) (fun _ _ _ h => h) (Or.inl ⟨by rfl, by rintro W' ⟨z0, z1, z2⟩; go_simp; (try rw [kw1]); (try rw [kw2]); (try rw [if_neg kno3]); (try rw [HKT.out.1])⟩) hS ?_
  try simp only [Act.put, putA, putZ, putS]
  refine wpAnyZ_take (i := 6) (oi := ⟨some 42, _, _, _, _, _⟩) (v := ?_) rfl (by kernel_rfl) (by kernel_rfl) (by kernel_rfl) (fun _ _ _ h => h) (Or.inl ⟨by rfl, ?_⟩) hS ?_
  rotate_left
  · rintro W' ⟨z0, z1, z2⟩; go_simp; try with_reducible rfl
  try simp only [Act.put, putA, putZ, putS]
  refine wpAnyZ_take (i := 7) (oi := ⟨some 43, _, _, _, _, _⟩) (v := ?_) rfl (by kernel_rfl) (by kernel_rfl) (by kernel_rfl) (fun _ _ _ h => h) (Or.inl ⟨by rfl, ?_⟩) hS ?_
  rotate_left
  · rintro W' ⟨z0, z1, z2⟩; go_simp; try with_reducible rfl
  try simp only [Act.put, putA, putZ, putS]
  refine wpAnyZ_take (i := 8) (oi := ⟨some 44, _, _, _, _, _⟩) (v := ?_) rfl (by kernel_rfl) (by kernel_rfl) (by kernel_rfl) (fun _ _ _ h => h) (Or.inl ⟨by rfl, ?_⟩) hS ?_
  rotate_left
  · rintro W' ⟨z0, z1, z2⟩; go_simp; try with_reducible rfl
  try simp only [Act.put, putA, putZ, putS]
  refine wpAnyZ_take (i := 9) (oi := ⟨some 45, _, _, _, _, _⟩) (v := ?_) rfl (by kernel_rfl) (by kernel_rfl) (by kernel_rfl) (fun _ _ _ h => h) (Or.inl ⟨by rfl, ?_⟩) hS ?_
  rotate_left
  · rintro W' ⟨z0, z1, z2⟩; go_simp; try with_reducible rfl
  try simp only [Act.put, putA, putZ, putS]
  refine wpAnyZ_take (i := 10) (oi := ⟨some 46, _, _, _, _, _⟩) (v := ?_) rfl (by kernel_rfl) (by kernel_rfl) (by kernel_rfl) (fun _ _ _ h => h) (Or.inl ⟨by rfl, ?_⟩) hS ?_
  rotate_left
  · rintro W' ⟨z0, z1, z2⟩; go_simp; try with_reducible rfl
  try simp only [Act.put, putA, putZ, putS]
  refine wpAnyZ_take (i := 11) (oi := ⟨some 47, _, _, _, _, _⟩) (v := .int .i64 (k : Int)) rfl (by kernel_rfl) (by kernel_rfl) (by kernel_rfl) (fun _ _ _ h => h) (Or.inl ⟨by rfl, by rintro W' ⟨z0, z1, z2⟩; go_simp; (try rw [kw1]); (try rw [kw2]); (try rw [if_neg knw3]); (try rw [HKT.out.2])⟩) hS ?_
  try simp only [Act.put, putA, putZ, putS]
  refine wpAnyZ_take (i := 12) (oi := ⟨some 7, _, _, _, _, _⟩) (v := ?_) rfl (by kernel_rfl) (by kernel_rfl) (by kernel_rfl) (fun _ _ _ h => h) (Or.inl ⟨by rfl, ?_⟩) hS ?_
  rotate_left
  · rintro W' ⟨z0, z1, z2⟩; go_simp; try with_reducible rfl
  try simp only [Act.put, putA, putZ, putS]
  refine wpAnyZ_take (i := 13) (oi := ⟨some 8, _, _, _, _, _⟩) (v := ?_) rfl (by kernel_rfl) (by kernel_rfl) (by kernel_rfl) (fun _ _ _ h => h) (Or.inl ⟨by rfl, ?_⟩) hS ?_
  rotate_left
  · rintro W' ⟨z0, z1, z2⟩; go_simp; try with_reducible rfl
  try simp only [Act.put, putA, putZ, putS]
  refine wpAnyZ_done (by kernel_rfl) ?_ _
  have HX3 := Lib.hid (HAX.out)
  generalize X = x3 at *
  go_upto_region 4 with fail
  have HAX : Hid (BF w x3.drew [(w.heap.size, #[.slice (some ⟨ob, oo, none⟩) no oc, .slice (some ⟨nb, nn, none⟩) nw nc, .slice ma nm mc], 25)]) := HX3.out.below (Below.refl _ _).drew
  clear HX3
  have ji0 : (0 : Int) ≤ (i : Int) := by omega
  have ji1 : (i : Int) ≤ (no : Int) := by omega
  have ji2 : (i : Int) ≤ (oc : Int) := by omega
  have ji3 : (no : Int) ≤ (oc : Int) := by omega
  have ji4 : ¬ (oc = i) := by omega
  have ji5 : ¬ ((oc : Int) = (i : Int)) := by omega
  have ji6 : ¬ (oc = 0) := by omega
  have jk0 : (0 : Int) ≤ (k : Int) := by omega
  have jk1 : (k : Int) ≤ (nw : Int) := by omega
  have jk2 : (k : Int) ≤ (nc : Int) := by omega
  have jk3 : (nw : Int) ≤ (nc : Int) := by omega
  have jk4 : ¬ (nc = k) := by omega
  have jk5 : ¬ ((nc : Int) = (k : Int)) := by omega
  have jk6 : ¬ (nc = 0) := by omega
  refine wp_region_heldL (S := fun X => X.cell? ⟨w.heap.size, 0, none⟩ = some (.slice (some ⟨ob, oo, none⟩) no oc) ∧ X.cell? ⟨w.heap.size, 1, none⟩ = some (.slice (some ⟨nb, nn, none⟩) nw nc) ∧ X.cell? ⟨w.heap.size, 2, none⟩ = some (.slice ma nm mc)) 27 #[false, false, false, false, false, false, false, false, false, false, false, false, false, false, false, false, false, false, false, false, false, false, false, false, false, false, false] (by kernel_rfl) (by kernel_rfl) (by kernel_rfl) ?_
  have HT : Hid (Two w.heap.size x3.drew 77 7 (.slice none 0 0) 0 [] (.slice none 0 0) 0 []) := Two.nil
  have HA := HAX
  clear HAX
  generalize x3.drew = X at *
  have hS : (fun X : World => X.cell? ⟨w.heap.size, 0, none⟩ = some (.slice (some ⟨ob, oo, none⟩) no oc) ∧ X.cell? ⟨w.heap.size, 1, none⟩ = some (.slice (some ⟨nb, nn, none⟩) nw nc) ∧ X.cell? ⟨w.heap.size, 2, none⟩ = some (.slice ma nm mc)) X := ⟨HA.out.cell (.head _) 0, HA.out.cell (.head _) 1, HA.out.cell (.head _) 2⟩
  refine tk [1, 2, 3, 4, 6, 7, 8, 9, 12, 13, 14, 15, 17, 18, 19, 20, 22, 23] ?_
  repeat (refine tkH (oi := ⟨_, _, _, _, _, _⟩) (v := ?_) rfl (by kernel_rfl) (by rfl) (fun _ _ _ h => h) hS ?_ ?_; rotate_left; (· rintro W' ⟨z0, z1, z2⟩; go_simp; try with_reducible rfl); try simp only [Act.put, putA, putZ, putS])
  refine tk0 ?_
  apply joinB
  · intro REST20
    apply joinB
    · intro REST19
      apply joinB
      · intro REST18
        apply joinB
        · intro REST17
          apply joinB
          · intro REST16
            apply joinB
            · intro REST15
              apply joinB
              · intro REST14
                apply joinB
                · intro REST13
                  apply joinB
                  · intro REST12
                    apply joinB
                    · intro REST11
                      apply joinB
                      · intro REST10
                        apply joinB
                        · intro REST9
                          apply joinB
                          · intro REST8
                            apply joinB
                            · intro REST7
                              apply joinB
                              · intro REST6
                                apply joinB
                                · intro REST5
                                  apply joinB
                                  · intro REST4
                                    apply joinB
                                    · intro REST3
                                      apply joinB
                                      · intro REST2
                                        apply joinB
                                        · intro REST1
                                          refine wpAnyH_ready (rs := [0, 11, 25]) (by kernel_rfl) (by simp) ?_
                                          refine AllReadyH.cons (o := ⟨some 48, _, _, _, _, _⟩) rfl (fun K hK => ?_) ?_
                                          ·
                                            go_simp
                                            have HA1 := Lib.hid (HA.out.below (below_alloc X (.cells #[] 77)))
                                            have HT1 := Lib.hid (HT.out.new1 HA.out.fr.size)
                                            refine hK.out _ _ ⟨HA1.out.cell (.head _) 0, HA1.out.cell (.head _) 1, HA1.out.cell (.head _) 2⟩ (fun hS => ?_)
                                            clear hK K
                                            (try simp only [putA]); (try simp only [putS]); (try simp only [putZ])
                                            clear hS
                                            generalize X.heap.size = BE at HT1 ⊢
                                            generalize X.alloc (.cells #[] 77) = Y at HA1 HT1 ⊢
                                            revert HT1; revert HA1; revert BE; revert Y
                                            exact REST1.out
                                          refine AllReadyH.cons (o := ⟨some 59, _, _, _, _, _⟩) rfl (fun K hK => ?_) ?_
                                          ·
                                            go_simp
                                            have HA1 := Lib.hid (HA.out.below (below_alloc X (.cells #[] 77)))
                                            have HT1 := Lib.hid ((HT.out.swap.new1 HA.out.fr.size).swap)
                                            refine hK.out _ _ ⟨HA1.out.cell (.head _) 0, HA1.out.cell (.head _) 1, HA1.out.cell (.head _) 2⟩ (fun hS => ?_)
                                            clear hK K
                                            (try simp only [putA]); (try simp only [putS]); (try simp only [putZ])
                                            clear hS
                                            generalize X.heap.size = BG at HT1 ⊢
                                            generalize X.alloc (.cells #[] 77) = Y at HA1 HT1 ⊢
                                            revert HT1; revert HA1; revert BG; revert Y
                                            exact REST2.out
                                          refine AllReadyH.cons (o := ⟨some 9, _, _, _, _, _⟩) rfl (fun K hK => ?_) ?_
                                          ·
                                            go_simp
                                            have HA1 := Lib.hid (HA.out.alloc #[.slice none 0 0, .slice none 0 0, .slice none 0 0] 25)
                                            have HT1 := Lib.hid (HT.out.below (below_alloc X (.cells #[.slice none 0 0, .slice none 0 0, .slice none 0 0] 25)))
                                            have HP1 := Lib.hid ((HA.out.lt (.head _)).2)
                                            refine hK.out _ _ ⟨HA1.out.cell (.tail _ (.head _)) 0, HA1.out.cell (.tail _ (.head _)) 1, HA1.out.cell (.tail _ (.head _)) 2⟩ (fun hS => ?_)
                                            clear hK K
                                            (try simp only [putA]); (try simp only [putS]); (try simp only [putZ])
                                            clear hS
                                            generalize X.heap.size = P at HA1 HP1 ⊢
                                            generalize X.alloc (.cells #[.slice none 0 0, .slice none 0 0, .slice none 0 0] 25) = Y at HA1 HT1 ⊢
                                            revert HP1; revert HT1; revert HA1; revert P; revert Y
                                            exact REST3.out
                                          exact AllReadyH.nil
                                        ·
                                          intro X BE HA HT
                                          have hS : (fun X : World => X.cell? ⟨w.heap.size, 0, none⟩ = some (.slice (some ⟨ob, oo, none⟩) no oc) ∧ X.cell? ⟨w.heap.size, 1, none⟩ = some (.slice (some ⟨nb, nn, none⟩) nw nc) ∧ X.cell? ⟨w.heap.size, 2, none⟩ = some (.slice ma nm mc)) X := ⟨HA.out.cell (.head _) 0, HA.out.cell (.head _) 1, HA.out.cell (.head _) 2⟩
                                          refine wpAnyH_ready (rs := [5, 11, 25]) (by kernel_rfl) (by simp) ?_
                                          refine AllReadyH.cons (o := ⟨some 53, _, _, _, _, _⟩) rfl (fun K hK => ?_) ?_
                                          ·
                                            refine step_append_src X (by rfl) (.tmp 48) (.tmp 52) 22 (by rfl) w.heap.size 77 i0 (.agg #[.int .i64 0, .int .i64 0, .slice none 0 0, .slice none 0 0, .int .i64 0, .slice none 0 0, .int .i64 0]) 7 104 Tryz.underlying22 hi0 hz0 hz1 hz2 rfl (by decide) (.slice (some ⟨BE, 0, none⟩) 0 0) 0 [] (by rfl) HT.out.o1 (some ⟨ob, oo + i * 7, none⟩) (no - i) (oc - i) x1 (by rfl) (HSO1.out X HA.out.fr) HUO1.out ?c31 ?c32 ?c33 ?_
                                            case c31 => unfold maxLen; omega
                                            case c32 => omega
                                            case c33 => exact HA.out.fr.size
                                            intro v Y hown hgr hat
                                            have HT1 := Lib.hid (HT.out.app1 (own_cast hown (Nat.zero_add _) (List.nil_append _)) hgr hat)
                                            have HA1 := Lib.hid (HA.out.fro (Fr.grown hgr) (fun q hq e => by have h1 := own_low HT.out.o1 e; omega) (fun p hp e => by
                                              simp only [List.mem_cons, List.not_mem_nil, or_false] at hp
                                              rcases hp with rfl
                                              · exact own_type_ne HT.out.o1 (HA.out.bk _ _ _ (.head _)).2 (by decide) e))
                                            clear hown hgr hat
                                            refine hK.out _ _ ⟨HA1.out.cell (.head _) 0, HA1.out.cell (.head _) 1, HA1.out.cell (.head _) 2⟩ (fun hS => ?_)
                                            clear hK K
                                            try simp only [Act.put, putA, putZ, putS]
                                            obtain ⟨a1, c1, rfl⟩ := own_slice' HT1.out.o1
                                            clear hS HA HT
                                            revert HT1; revert HA1; revert c1; revert a1; revert BE; revert Y
                                            exact REST4.out
                                          refine AllReadyH.cons (o := ⟨some 59, _, _, _, _, _⟩) rfl (fun K hK => ?_) ?_
                                          ·
                                            go_simp
                                            have HA1 := Lib.hid (HA.out.below (below_alloc X (.cells #[] 77)))
                                            have HT1 := Lib.hid ((HT.out.swap.new1 HA.out.fr.size).swap)
                                            refine hK.out _ _ ⟨HA1.out.cell (.head _) 0, HA1.out.cell (.head _) 1, HA1.out.cell (.head _) 2⟩ (fun hS => ?_)
                                            clear hK K
                                            (try simp only [putA]); (try simp only [putS]); (try simp only [putZ])
                                            clear hS HA HT
                                            generalize X.heap.size = BG at HT1 ⊢
                                            generalize X.alloc (.cells #[] 77) = Y at HA1 HT1 ⊢
                                            revert HT1; revert HA1; revert BG; revert BE; revert Y
                                            exact REST5.out
                                          refine AllReadyH.cons (o := ⟨some 9, _, _, _, _, _⟩) rfl (fun K hK => ?_) ?_
                                          ·
                                            go_simp
                                            have HA1 := Lib.hid (HA.out.alloc #[.slice none 0 0, .slice none 0 0, .slice none 0 0] 25)
                                            have HT1 := Lib.hid (HT.out.below (below_alloc X (.cells #[.slice none 0 0, .slice none 0 0, .slice none 0 0] 25)))
                                            have HP1 := Lib.hid ((HA.out.lt (.head _)).2)
                                            refine hK.out _ _ ⟨HA1.out.cell (.tail _ (.head _)) 0, HA1.out.cell (.tail _ (.head _)) 1, HA1.out.cell (.tail _ (.head _)) 2⟩ (fun hS => ?_)
                                            clear hK K
                                            (try simp only [putA]); (try simp only [putS]); (try simp only [putZ])
                                            clear hS HA HT
                                            generalize X.heap.size = P at HA1 HP1 ⊢
                                            generalize X.alloc (.cells #[.slice none 0 0, .slice none 0 0, .slice none 0 0] 25) = Y at HA1 HT1 ⊢
                                            revert HP1; revert HT1; revert HA1; revert P; revert BE; revert Y
                                            exact REST6.out
                                          exact AllReadyH.nil
                                      ·
                                        intro X BG HA HT
                                        have hS : (fun X : World => X.cell? ⟨w.heap.size, 0, none⟩ = some (.slice (some ⟨ob, oo, none⟩) no oc) ∧ X.cell? ⟨w.heap.size, 1, none⟩ = some (.slice (some ⟨nb, nn, none⟩) nw nc) ∧ X.cell? ⟨w.heap.size, 2, none⟩ = some (.slice ma nm mc)) X := ⟨HA.out.cell (.head _) 0, HA.out.cell (.head _) 1, HA.out.cell (.head _) 2⟩
                                        refine wpAnyH_ready (rs := [0, 25]) (by kernel_rfl) (by simp) ?_
                                        refine AllReadyH.cons (o := ⟨some 48, _, _, _, _, _⟩) rfl (fun K hK => ?_) ?_
                                        ·
                                          go_simp
                                          have HA1 := Lib.hid (HA.out.below (below_alloc X (.cells #[] 77)))
                                          have HT1 := Lib.hid (HT.out.new1 HA.out.fr.size)
                                          refine hK.out _ _ ⟨HA1.out.cell (.head _) 0, HA1.out.cell (.head _) 1, HA1.out.cell (.head _) 2⟩ (fun hS => ?_)
                                          clear hK K
                                          (try simp only [putA]); (try simp only [putS]); (try simp only [putZ])
                                          clear hS HA HT
                                          generalize X.heap.size = BE at HT1 ⊢
                                          generalize X.alloc (.cells #[] 77) = Y at HA1 HT1 ⊢
                                          revert HT1; revert HA1; revert BG; revert BE; revert Y
                                          exact REST5.out
                                        refine AllReadyH.cons (o := ⟨some 9, _, _, _, _, _⟩) rfl (fun K hK => ?_) ?_
                                        ·
                                          go_simp
                                          have HA1 := Lib.hid (HA.out.alloc #[.slice none 0 0, .slice none 0 0, .slice none 0 0] 25)
                                          have HT1 := Lib.hid (HT.out.below (below_alloc X (.cells #[.slice none 0 0, .slice none 0 0, .slice none 0 0] 25)))
                                          have HP1 := Lib.hid ((HA.out.lt (.head _)).2)
                                          refine hK.out _ _ ⟨HA1.out.cell (.tail _ (.head _)) 0, HA1.out.cell (.tail _ (.head _)) 1, HA1.out.cell (.tail _ (.head _)) 2⟩ (fun hS => ?_)
                                          clear hK K
                                          (try simp only [putA]); (try simp only [putS]); (try simp only [putZ])
                                          clear hS HA HT
                                          generalize X.heap.size = P at HA1 HP1 ⊢
                                          generalize X.alloc (.cells #[.slice none 0 0, .slice none 0 0, .slice none 0 0] 25) = Y at HA1 HT1 ⊢
                                          revert HP1; revert HT1; revert HA1; revert P; revert BG; revert Y
                                          exact REST7.out
                                        exact AllReadyH.nil
                                    ·
                                      intro X P HA HT HP
                                      have hS : (fun X : World => X.cell? ⟨w.heap.size, 0, none⟩ = some (.slice (some ⟨ob, oo, none⟩) no oc) ∧ X.cell? ⟨w.heap.size, 1, none⟩ = some (.slice (some ⟨nb, nn, none⟩) nw nc) ∧ X.cell? ⟨w.heap.size, 2, none⟩ = some (.slice ma nm mc)) X := ⟨HA.out.cell (.tail _ (.head _)) 0, HA.out.cell (.tail _ (.head _)) 1, HA.out.cell (.tail _ (.head _)) 2⟩
                                      refine wpAnyH_ready (rs := [0, 11]) (by kernel_rfl) (by simp) ?_
                                      refine AllReadyH.cons (o := ⟨some 48, _, _, _, _, _⟩) rfl (fun K hK => ?_) ?_
                                      ·
                                        go_simp
                                        have HA1 := Lib.hid (HA.out.below (below_alloc X (.cells #[] 77)))
                                        have HT1 := Lib.hid (HT.out.new1 HA.out.fr.size)
                                        refine hK.out _ _ ⟨HA1.out.cell (.tail _ (.head _)) 0, HA1.out.cell (.tail _ (.head _)) 1, HA1.out.cell (.tail _ (.head _)) 2⟩ (fun hS => ?_)
                                        clear hK K
                                        (try simp only [putA]); (try simp only [putS]); (try simp only [putZ])
                                        clear hS HA HT
                                        generalize X.heap.size = BE at HT1 ⊢
                                        generalize X.alloc (.cells #[] 77) = Y at HA1 HT1 ⊢
                                        revert HP; revert HT1; revert HA1; revert P; revert BE; revert Y
                                        exact REST6.out
                                      refine AllReadyH.cons (o := ⟨some 59, _, _, _, _, _⟩) rfl (fun K hK => ?_) ?_
                                      ·
                                        go_simp
                                        have HA1 := Lib.hid (HA.out.below (below_alloc X (.cells #[] 77)))
                                        have HT1 := Lib.hid ((HT.out.swap.new1 HA.out.fr.size).swap)
                                        refine hK.out _ _ ⟨HA1.out.cell (.tail _ (.head _)) 0, HA1.out.cell (.tail _ (.head _)) 1, HA1.out.cell (.tail _ (.head _)) 2⟩ (fun hS => ?_)
                                        clear hK K
                                        (try simp only [putA]); (try simp only [putS]); (try simp only [putZ])
                                        clear hS HA HT
                                        generalize X.heap.size = BG at HT1 ⊢
                                        generalize X.alloc (.cells #[] 77) = Y at HA1 HT1 ⊢
                                        revert HP; revert HT1; revert HA1; revert P; revert BG; revert Y
                                        exact REST7.out
                                      exact AllReadyH.nil
                                  ·
                                    intro X BE pa pc HA HT
                                    have hS : (fun X : World => X.cell? ⟨w.heap.size, 0, none⟩ = some (.slice (some ⟨ob, oo, none⟩) no oc) ∧ X.cell? ⟨w.heap.size, 1, none⟩ = some (.slice (some ⟨nb, nn, none⟩) nw nc) ∧ X.cell? ⟨w.heap.size, 2, none⟩ = some (.slice ma nm mc)) X := ⟨HA.out.cell (.head _) 0, HA.out.cell (.head _) 1, HA.out.cell (.head _) 2⟩
                                    refine wpAnyH_ready (rs := [10, 11, 25]) (by kernel_rfl) (by simp) ?_
                                    refine AllReadyH.cons (o := ⟨some 58, _, _, _, _, _⟩) rfl (fun K hK => ?_) ?_
                                    ·
                                      refine step_append_src X (by rfl) (.tmp 53) (.tmp 57) 22 (by rfl) w.heap.size 77 i0 (.agg #[.int .i64 0, .int .i64 0, .slice none 0 0, .slice none 0 0, .int .i64 0, .slice none 0 0, .int .i64 0]) 7 104 Tryz.underlying22 hi0 hz0 hz1 hz2 rfl (by decide) (.slice pa (no - i) pc) (no - i) x1 (by rfl) HT.out.o1 (some ⟨ob, oo, none⟩) i oc x2 (by rfl) (HSO2.out X HA.out.fr) HUO2.out ?c101 ?c102 ?c103 ?_
                                      case c101 => unfold maxLen; omega
                                      case c102 => omega
                                      case c103 => exact HA.out.fr.size
                                      intro v Y hown hgr hat
                                      have HT1 := Lib.hid (HT.out.app1 (own_cast hown HNO.out rfl) hgr hat)
                                      have HA1 := Lib.hid (HA.out.fro (Fr.grown hgr) (fun q hq e => by have h1 := own_low HT.out.o1 e; omega) (fun p hp e => by
                                        simp only [List.mem_cons, List.not_mem_nil, or_false] at hp
                                        rcases hp with rfl
                                        · exact own_type_ne HT.out.o1 (HA.out.bk _ _ _ (.head _)).2 (by decide) e))
                                      clear hown hgr hat
                                      refine hK.out _ _ ⟨HA1.out.cell (.head _) 0, HA1.out.cell (.head _) 1, HA1.out.cell (.head _) 2⟩ (fun hS => ?_)
                                      clear hK K
                                      try simp only [Act.put, putA, putZ, putS]
                                      obtain ⟨a1, c1, rfl⟩ := own_slice' HT1.out.o1
                                      clear hS HA HT
                                      revert HT1; revert HA1; revert c1; revert a1; revert pc; revert pa; revert BE; revert Y
                                      exact REST8.out
                                    refine AllReadyH.cons (o := ⟨some 59, _, _, _, _, _⟩) rfl (fun K hK => ?_) ?_
                                    ·
                                      go_simp
                                      have HA1 := Lib.hid (HA.out.below (below_alloc X (.cells #[] 77)))
                                      have HT1 := Lib.hid ((HT.out.swap.new1 HA.out.fr.size).swap)
                                      refine hK.out _ _ ⟨HA1.out.cell (.head _) 0, HA1.out.cell (.head _) 1, HA1.out.cell (.head _) 2⟩ (fun hS => ?_)
                                      clear hK K
                                      (try simp only [putA]); (try simp only [putS]); (try simp only [putZ])
                                      clear hS HA HT
                                      generalize X.heap.size = BG at HT1 ⊢
                                      generalize X.alloc (.cells #[] 77) = Y at HA1 HT1 ⊢
                                      revert HT1; revert HA1; revert BG; revert pc; revert pa; revert BE; revert Y
                                      exact REST9.out
                                    refine AllReadyH.cons (o := ⟨some 9, _, _, _, _, _⟩) rfl (fun K hK => ?_) ?_
                                    ·
                                      go_simp
                                      have HA1 := Lib.hid (HA.out.alloc #[.slice none 0 0, .slice none 0 0, .slice none 0 0] 25)
                                      have HT1 := Lib.hid (HT.out.below (below_alloc X (.cells #[.slice none 0 0, .slice none 0 0, .slice none 0 0] 25)))
                                      have HP1 := Lib.hid ((HA.out.lt (.head _)).2)
                                      refine hK.out _ _ ⟨HA1.out.cell (.tail _ (.head _)) 0, HA1.out.cell (.tail _ (.head _)) 1, HA1.out.cell (.tail _ (.head _)) 2⟩ (fun hS => ?_)
                                      clear hK K
                                      (try simp only [putA]); (try simp only [putS]); (try simp only [putZ])
                                      clear hS HA HT
                                      generalize X.heap.size = P at HA1 HP1 ⊢
                                      generalize X.alloc (.cells #[.slice none 0 0, .slice none 0 0, .slice none 0 0] 25) = Y at HA1 HT1 ⊢
                                      revert HP1; revert HT1; revert HA1; revert P; revert pc; revert pa; revert BE; revert Y
                                      exact REST10.out
                                    exact AllReadyH.nil
                                ·
                                  intro X BE BG HA HT
                                  have hS : (fun X : World => X.cell? ⟨w.heap.size, 0, none⟩ = some (.slice (some ⟨ob, oo, none⟩) no oc) ∧ X.cell? ⟨w.heap.size, 1, none⟩ = some (.slice (some ⟨nb, nn, none⟩) nw nc) ∧ X.cell? ⟨w.heap.size, 2, none⟩ = some (.slice ma nm mc)) X := ⟨HA.out.cell (.head _) 0, HA.out.cell (.head _) 1, HA.out.cell (.head _) 2⟩
                                  refine wpAnyH_ready (rs := [5, 25]) (by kernel_rfl) (by simp) ?_
                                  refine AllReadyH.cons (o := ⟨some 53, _, _, _, _, _⟩) rfl (fun K hK => ?_) ?_
                                  ·
                                    refine step_append_src X (by rfl) (.tmp 48) (.tmp 52) 22 (by rfl) w.heap.size 77 i0 (.agg #[.int .i64 0, .int .i64 0, .slice none 0 0, .slice none 0 0, .int .i64 0, .slice none 0 0, .int .i64 0]) 7 104 Tryz.underlying22 hi0 hz0 hz1 hz2 rfl (by decide) (.slice (some ⟨BE, 0, none⟩) 0 0) 0 [] (by rfl) HT.out.o1 (some ⟨ob, oo + i * 7, none⟩) (no - i) (oc - i) x1 (by rfl) (HSO1.out X HA.out.fr) HUO1.out ?c131 ?c132 ?c133 ?_
                                    case c131 => unfold maxLen; omega
                                    case c132 => omega
                                    case c133 => exact HA.out.fr.size
                                    intro v Y hown hgr hat
                                    have HT1 := Lib.hid (HT.out.app1 (own_cast hown (Nat.zero_add _) (List.nil_append _)) hgr hat)
                                    have HA1 := Lib.hid (HA.out.fro (Fr.grown hgr) (fun q hq e => by have h1 := own_low HT.out.o1 e; omega) (fun p hp e => by
                                      simp only [List.mem_cons, List.not_mem_nil, or_false] at hp
                                      rcases hp with rfl
                                      · exact own_type_ne HT.out.o1 (HA.out.bk _ _ _ (.head _)).2 (by decide) e))
                                    clear hown hgr hat
                                    refine hK.out _ _ ⟨HA1.out.cell (.head _) 0, HA1.out.cell (.head _) 1, HA1.out.cell (.head _) 2⟩ (fun hS => ?_)
                                    clear hK K
                                    try simp only [Act.put, putA, putZ, putS]
                                    obtain ⟨a1, c1, rfl⟩ := own_slice' HT1.out.o1
                                    clear hS HA HT
                                    revert HT1; revert HA1; revert BG; revert c1; revert a1; revert BE; revert Y
                                    exact REST9.out
                                  refine AllReadyH.cons (o := ⟨some 9, _, _, _, _, _⟩) rfl (fun K hK => ?_) ?_
                                  ·
                                    go_simp
                                    have HA1 := Lib.hid (HA.out.alloc #[.slice none 0 0, .slice none 0 0, .slice none 0 0] 25)
                                    have HT1 := Lib.hid (HT.out.below (below_alloc X (.cells #[.slice none 0 0, .slice none 0 0, .slice none 0 0] 25)))
                                    have HP1 := Lib.hid ((HA.out.lt (.head _)).2)
                                    refine hK.out _ _ ⟨HA1.out.cell (.tail _ (.head _)) 0, HA1.out.cell (.tail _ (.head _)) 1, HA1.out.cell (.tail _ (.head _)) 2⟩ (fun hS => ?_)
                                    clear hK K
                                    (try simp only [putA]); (try simp only [putS]); (try simp only [putZ])
                                    clear hS HA HT
                                    generalize X.heap.size = P at HA1 HP1 ⊢
                                    generalize X.alloc (.cells #[.slice none 0 0, .slice none 0 0, .slice none 0 0] 25) = Y at HA1 HT1 ⊢
                                    revert HP1; revert HT1; revert HA1; revert P; revert BG; revert BE; revert Y
                                    exact REST11.out
                                  exact AllReadyH.nil
                              ·
                                intro X BE P HA HT HP
                                have hS : (fun X : World => X.cell? ⟨w.heap.size, 0, none⟩ = some (.slice (some ⟨ob, oo, none⟩) no oc) ∧ X.cell? ⟨w.heap.size, 1, none⟩ = some (.slice (some ⟨nb, nn, none⟩) nw nc) ∧ X.cell? ⟨w.heap.size, 2, none⟩ = some (.slice ma nm mc)) X := ⟨HA.out.cell (.tail _ (.head _)) 0, HA.out.cell (.tail _ (.head _)) 1, HA.out.cell (.tail _ (.head _)) 2⟩
                                refine wpAnyH_ready (rs := [5, 11]) (by kernel_rfl) (by simp) ?_
                                refine AllReadyH.cons (o := ⟨some 53, _, _, _, _, _⟩) rfl (fun K hK => ?_) ?_
                                ·
                                  refine step_append_src X (by rfl) (.tmp 48) (.tmp 52) 22 (by rfl) w.heap.size 77 i0 (.agg #[.int .i64 0, .int .i64 0, .slice none 0 0, .slice none 0 0, .int .i64 0, .slice none 0 0, .int .i64 0]) 7 104 Tryz.underlying22 hi0 hz0 hz1 hz2 rfl (by decide) (.slice (some ⟨BE, 0, none⟩) 0 0) 0 [] (by rfl) HT.out.o1 (some ⟨ob, oo + i * 7, none⟩) (no - i) (oc - i) x1 (by rfl) (HSO1.out X HA.out.fr) HUO1.out ?c151 ?c152 ?c153 ?_
                                  case c151 => unfold maxLen; omega
                                  case c152 => omega
                                  case c153 => exact HA.out.fr.size
                                  intro v Y hown hgr hat
                                  have HT1 := Lib.hid (HT.out.app1 (own_cast hown (Nat.zero_add _) (List.nil_append _)) hgr hat)
                                  have HA1 := Lib.hid (HA.out.fro (Fr.grown hgr) (fun q hq e => by have h1 := own_low HT.out.o1 e; omega) (fun p hp e => by
                                    simp only [List.mem_cons, List.not_mem_nil, or_false] at hp
                                    rcases hp with rfl | rfl
                                    · exact own_type_ne HT.out.o1 (HA.out.bk _ _ _ (.head _)).2 (by decide) e
                                    · exact own_type_ne HT.out.o1 (HA.out.bk _ _ _ (.tail _ (.head _))).2 (by decide) e))
                                  clear hown hgr hat
                                  refine hK.out _ _ ⟨HA1.out.cell (.tail _ (.head _)) 0, HA1.out.cell (.tail _ (.head _)) 1, HA1.out.cell (.tail _ (.head _)) 2⟩ (fun hS => ?_)
                                  clear hK K
                                  try simp only [Act.put, putA, putZ, putS]
                                  obtain ⟨a1, c1, rfl⟩ := own_slice' HT1.out.o1
                                  clear hS HA HT
                                  revert HP; revert HT1; revert HA1; revert P; revert c1; revert a1; revert BE; revert Y
                                  exact REST10.out
                                refine AllReadyH.cons (o := ⟨some 59, _, _, _, _, _⟩) rfl (fun K hK => ?_) ?_
                                ·
                                  go_simp
                                  have HA1 := Lib.hid (HA.out.below (below_alloc X (.cells #[] 77)))
                                  have HT1 := Lib.hid ((HT.out.swap.new1 HA.out.fr.size).swap)
                                  refine hK.out _ _ ⟨HA1.out.cell (.tail _ (.head _)) 0, HA1.out.cell (.tail _ (.head _)) 1, HA1.out.cell (.tail _ (.head _)) 2⟩ (fun hS => ?_)
                                  clear hK K
                                  (try simp only [putA]); (try simp only [putS]); (try simp only [putZ])
                                  clear hS HA HT
                                  generalize X.heap.size = BG at HT1 ⊢
                                  generalize X.alloc (.cells #[] 77) = Y at HA1 HT1 ⊢
                                  revert HP; revert HT1; revert HA1; revert P; revert BG; revert BE; revert Y
                                  exact REST11.out
                                exact AllReadyH.nil
                            ·
                              intro X BG P HA HT HP
                              have hS : (fun X : World => X.cell? ⟨w.heap.size, 0, none⟩ = some (.slice (some ⟨ob, oo, none⟩) no oc) ∧ X.cell? ⟨w.heap.size, 1, none⟩ = some (.slice (some ⟨nb, nn, none⟩) nw nc) ∧ X.cell? ⟨w.heap.size, 2, none⟩ = some (.slice ma nm mc)) X := ⟨HA.out.cell (.tail _ (.head _)) 0, HA.out.cell (.tail _ (.head _)) 1, HA.out.cell (.tail _ (.head _)) 2⟩
                              refine wpAnyH_ready (rs := [0]) (by kernel_rfl) (by simp) ?_
                              refine AllReadyH.cons (o := ⟨some 48, _, _, _, _, _⟩) rfl (fun K hK => ?_) ?_
                              ·
                                go_simp
                                have HA1 := Lib.hid (HA.out.below (below_alloc X (.cells #[] 77)))
                                have HT1 := Lib.hid (HT.out.new1 HA.out.fr.size)
                                refine hK.out _ _ ⟨HA1.out.cell (.tail _ (.head _)) 0, HA1.out.cell (.tail _ (.head _)) 1, HA1.out.cell (.tail _ (.head _)) 2⟩ (fun hS => ?_)
                                clear hK K
                                (try simp only [putA]); (try simp only [putS]); (try simp only [putZ])
                                clear hS HA HT
                                generalize X.heap.size = BE at HT1 ⊢
                                generalize X.alloc (.cells #[] 77) = Y at HA1 HT1 ⊢
                                revert HP; revert HT1; revert HA1; revert P; revert BG; revert BE; revert Y
                                exact REST11.out
                              exact AllReadyH.nil
                          ·
                            intro X BE pa pc va vc HA HT
                            have hS : (fun X : World => X.cell? ⟨w.heap.size, 0, none⟩ = some (.slice (some ⟨ob, oo, none⟩) no oc) ∧ X.cell? ⟨w.heap.size, 1, none⟩ = some (.slice (some ⟨nb, nn, none⟩) nw nc) ∧ X.cell? ⟨w.heap.size, 2, none⟩ = some (.slice ma nm mc)) X := ⟨HA.out.cell (.head _) 0, HA.out.cell (.head _) 1, HA.out.cell (.head _) 2⟩
                            refine wpAnyH_ready (rs := [11, 25]) (by kernel_rfl) (by simp) ?_
                            refine AllReadyH.cons (o := ⟨some 59, _, _, _, _, _⟩) rfl (fun K hK => ?_) ?_
                            ·
                              go_simp
                              have HA1 := Lib.hid (HA.out.below (below_alloc X (.cells #[] 77)))
                              have HT1 := Lib.hid ((HT.out.swap.new1 HA.out.fr.size).swap)
                              refine hK.out _ _ ⟨HA1.out.cell (.head _) 0, HA1.out.cell (.head _) 1, HA1.out.cell (.head _) 2⟩ (fun hS => ?_)
                              clear hK K
                              (try simp only [putA]); (try simp only [putS]); (try simp only [putZ])
                              clear hS HA HT
                              generalize X.heap.size = BG at HT1 ⊢
                              generalize X.alloc (.cells #[] 77) = Y at HA1 HT1 ⊢
                              revert HT1; revert HA1; revert BG; revert vc; revert va; revert pc; revert pa; revert BE; revert Y
                              exact REST12.out
                            refine AllReadyH.cons (o := ⟨some 9, _, _, _, _, _⟩) rfl (fun K hK => ?_) ?_
                            ·
                              go_simp
                              have HA1 := Lib.hid (HA.out.alloc #[.slice none 0 0, .slice none 0 0, .slice none 0 0] 25)
                              have HT1 := Lib.hid (HT.out.below (below_alloc X (.cells #[.slice none 0 0, .slice none 0 0, .slice none 0 0] 25)))
                              have HP1 := Lib.hid ((HA.out.lt (.head _)).2)
                              refine hK.out _ _ ⟨HA1.out.cell (.tail _ (.head _)) 0, HA1.out.cell (.tail _ (.head _)) 1, HA1.out.cell (.tail _ (.head _)) 2⟩ (fun hS => ?_)
                              clear hK K
                              (try simp only [putA]); (try simp only [putS]); (try simp only [putZ])
                              clear hS HA HT
                              generalize X.heap.size = P at HA1 HP1 ⊢
                              generalize X.alloc (.cells #[.slice none 0 0, .slice none 0 0, .slice none 0 0] 25) = Y at HA1 HT1 ⊢
                              revert HP1; revert HT1; revert HA1; revert P; revert vc; revert va; revert pc; revert pa; revert BE; revert Y
                              exact REST13.out
                            exact AllReadyH.nil
                        ·
                          intro X BE pa pc BG HA HT
                          have hS : (fun X : World => X.cell? ⟨w.heap.size, 0, none⟩ = some (.slice (some ⟨ob, oo, none⟩) no oc) ∧ X.cell? ⟨w.heap.size, 1, none⟩ = some (.slice (some ⟨nb, nn, none⟩) nw nc) ∧ X.cell? ⟨w.heap.size, 2, none⟩ = some (.slice ma nm mc)) X := ⟨HA.out.cell (.head _) 0, HA.out.cell (.head _) 1, HA.out.cell (.head _) 2⟩
                          refine wpAnyH_ready (rs := [10, 25]) (by kernel_rfl) (by simp) ?_
                          refine AllReadyH.cons (o := ⟨some 58, _, _, _, _, _⟩) rfl (fun K hK => ?_) ?_
                          ·
                            refine step_append_src X (by rfl) (.tmp 53) (.tmp 57) 22 (by rfl) w.heap.size 77 i0 (.agg #[.int .i64 0, .int .i64 0, .slice none 0 0, .slice none 0 0, .int .i64 0, .slice none 0 0, .int .i64 0]) 7 104 Tryz.underlying22 hi0 hz0 hz1 hz2 rfl (by decide) (.slice pa (no - i) pc) (no - i) x1 (by rfl) HT.out.o1 (some ⟨ob, oo, none⟩) i oc x2 (by rfl) (HSO2.out X HA.out.fr) HUO2.out ?c201 ?c202 ?c203 ?_
                            case c201 => unfold maxLen; omega
                            case c202 => omega
                            case c203 => exact HA.out.fr.size
                            intro v Y hown hgr hat
                            have HT1 := Lib.hid (HT.out.app1 (own_cast hown HNO.out rfl) hgr hat)
                            have HA1 := Lib.hid (HA.out.fro (Fr.grown hgr) (fun q hq e => by have h1 := own_low HT.out.o1 e; omega) (fun p hp e => by
                              simp only [List.mem_cons, List.not_mem_nil, or_false] at hp
                              rcases hp with rfl
                              · exact own_type_ne HT.out.o1 (HA.out.bk _ _ _ (.head _)).2 (by decide) e))
                            clear hown hgr hat
                            refine hK.out _ _ ⟨HA1.out.cell (.head _) 0, HA1.out.cell (.head _) 1, HA1.out.cell (.head _) 2⟩ (fun hS => ?_)
                            clear hK K
                            try simp only [Act.put, putA, putZ, putS]
                            obtain ⟨a1, c1, rfl⟩ := own_slice' HT1.out.o1
                            clear hS HA HT
                            revert HT1; revert HA1; revert BG; revert c1; revert a1; revert pc; revert pa; revert BE; revert Y
                            exact REST12.out
                          refine AllReadyH.cons (o := ⟨some 9, _, _, _, _, _⟩) rfl (fun K hK => ?_) ?_
                          ·
                            go_simp
                            have HA1 := Lib.hid (HA.out.alloc #[.slice none 0 0, .slice none 0 0, .slice none 0 0] 25)
                            have HT1 := Lib.hid (HT.out.below (below_alloc X (.cells #[.slice none 0 0, .slice none 0 0, .slice none 0 0] 25)))
                            have HP1 := Lib.hid ((HA.out.lt (.head _)).2)
                            refine hK.out _ _ ⟨HA1.out.cell (.tail _ (.head _)) 0, HA1.out.cell (.tail _ (.head _)) 1, HA1.out.cell (.tail _ (.head _)) 2⟩ (fun hS => ?_)
                            clear hK K
                            (try simp only [putA]); (try simp only [putS]); (try simp only [putZ])
                            clear hS HA HT
                            generalize X.heap.size = P at HA1 HP1 ⊢
                            generalize X.alloc (.cells #[.slice none 0 0, .slice none 0 0, .slice none 0 0] 25) = Y at HA1 HT1 ⊢
                            revert HP1; revert HT1; revert HA1; revert P; revert BG; revert pc; revert pa; revert BE; revert Y
                            exact REST14.out
                          exact AllReadyH.nil
                      ·
                        intro X BE pa pc P HA HT HP
                        have hS : (fun X : World => X.cell? ⟨w.heap.size, 0, none⟩ = some (.slice (some ⟨ob, oo, none⟩) no oc) ∧ X.cell? ⟨w.heap.size, 1, none⟩ = some (.slice (some ⟨nb, nn, none⟩) nw nc) ∧ X.cell? ⟨w.heap.size, 2, none⟩ = some (.slice ma nm mc)) X := ⟨HA.out.cell (.tail _ (.head _)) 0, HA.out.cell (.tail _ (.head _)) 1, HA.out.cell (.tail _ (.head _)) 2⟩
                        refine wpAnyH_ready (rs := [10, 11]) (by kernel_rfl) (by simp) ?_
                        refine AllReadyH.cons (o := ⟨some 58, _, _, _, _, _⟩) rfl (fun K hK => ?_) ?_
                        ·
                          refine step_append_src X (by rfl) (.tmp 53) (.tmp 57) 22 (by rfl) w.heap.size 77 i0 (.agg #[.int .i64 0, .int .i64 0, .slice none 0 0, .slice none 0 0, .int .i64 0, .slice none 0 0, .int .i64 0]) 7 104 Tryz.underlying22 hi0 hz0 hz1 hz2 rfl (by decide) (.slice pa (no - i) pc) (no - i) x1 (by rfl) HT.out.o1 (some ⟨ob, oo, none⟩) i oc x2 (by rfl) (HSO2.out X HA.out.fr) HUO2.out ?c221 ?c222 ?c223 ?_
                          case c221 => unfold maxLen; omega
                          case c222 => omega
                          case c223 => exact HA.out.fr.size
                          intro v Y hown hgr hat
                          have HT1 := Lib.hid (HT.out.app1 (own_cast hown HNO.out rfl) hgr hat)
                          have HA1 := Lib.hid (HA.out.fro (Fr.grown hgr) (fun q hq e => by have h1 := own_low HT.out.o1 e; omega) (fun p hp e => by
                            simp only [List.mem_cons, List.not_mem_nil, or_false] at hp
                            rcases hp with rfl | rfl
                            · exact own_type_ne HT.out.o1 (HA.out.bk _ _ _ (.head _)).2 (by decide) e
                            · exact own_type_ne HT.out.o1 (HA.out.bk _ _ _ (.tail _ (.head _))).2 (by decide) e))
                          clear hown hgr hat
                          refine hK.out _ _ ⟨HA1.out.cell (.tail _ (.head _)) 0, HA1.out.cell (.tail _ (.head _)) 1, HA1.out.cell (.tail _ (.head _)) 2⟩ (fun hS => ?_)
                          clear hK K
                          try simp only [Act.put, putA, putZ, putS]
                          obtain ⟨a1, c1, rfl⟩ := own_slice' HT1.out.o1
                          clear hS HA HT
                          revert HP; revert HT1; revert HA1; revert P; revert c1; revert a1; revert pc; revert pa; revert BE; revert Y
                          exact REST13.out
                        refine AllReadyH.cons (o := ⟨some 59, _, _, _, _, _⟩) rfl (fun K hK => ?_) ?_
                        ·
                          go_simp
                          have HA1 := Lib.hid (HA.out.below (below_alloc X (.cells #[] 77)))
                          have HT1 := Lib.hid ((HT.out.swap.new1 HA.out.fr.size).swap)
                          refine hK.out _ _ ⟨HA1.out.cell (.tail _ (.head _)) 0, HA1.out.cell (.tail _ (.head _)) 1, HA1.out.cell (.tail _ (.head _)) 2⟩ (fun hS => ?_)
                          clear hK K
                          (try simp only [putA]); (try simp only [putS]); (try simp only [putZ])
                          clear hS HA HT
                          generalize X.heap.size = BG at HT1 ⊢
                          generalize X.alloc (.cells #[] 77) = Y at HA1 HT1 ⊢
                          revert HP; revert HT1; revert HA1; revert P; revert BG; revert pc; revert pa; revert BE; revert Y
                          exact REST14.out
                        exact AllReadyH.nil
                    ·
                      intro X BE BG P HA HT HP
                      have hS : (fun X : World => X.cell? ⟨w.heap.size, 0, none⟩ = some (.slice (some ⟨ob, oo, none⟩) no oc) ∧ X.cell? ⟨w.heap.size, 1, none⟩ = some (.slice (some ⟨nb, nn, none⟩) nw nc) ∧ X.cell? ⟨w.heap.size, 2, none⟩ = some (.slice ma nm mc)) X := ⟨HA.out.cell (.tail _ (.head _)) 0, HA.out.cell (.tail _ (.head _)) 1, HA.out.cell (.tail _ (.head _)) 2⟩
                      refine wpAnyH_ready (rs := [5]) (by kernel_rfl) (by simp) ?_
                      refine AllReadyH.cons (o := ⟨some 53, _, _, _, _, _⟩) rfl (fun K hK => ?_) ?_
                      ·
                        refine step_append_src X (by rfl) (.tmp 48) (.tmp 52) 22 (by rfl) w.heap.size 77 i0 (.agg #[.int .i64 0, .int .i64 0, .slice none 0 0, .slice none 0 0, .int .i64 0, .slice none 0 0, .int .i64 0]) 7 104 Tryz.underlying22 hi0 hz0 hz1 hz2 rfl (by decide) (.slice (some ⟨BE, 0, none⟩) 0 0) 0 [] (by rfl) HT.out.o1 (some ⟨ob, oo + i * 7, none⟩) (no - i) (oc - i) x1 (by rfl) (HSO1.out X HA.out.fr) HUO1.out ?c241 ?c242 ?c243 ?_
                        case c241 => unfold maxLen; omega
                        case c242 => omega
                        case c243 => exact HA.out.fr.size
                        intro v Y hown hgr hat
                        have HT1 := Lib.hid (HT.out.app1 (own_cast hown (Nat.zero_add _) (List.nil_append _)) hgr hat)
                        have HA1 := Lib.hid (HA.out.fro (Fr.grown hgr) (fun q hq e => by have h1 := own_low HT.out.o1 e; omega) (fun p hp e => by
                          simp only [List.mem_cons, List.not_mem_nil, or_false] at hp
                          rcases hp with rfl | rfl
                          · exact own_type_ne HT.out.o1 (HA.out.bk _ _ _ (.head _)).2 (by decide) e
                          · exact own_type_ne HT.out.o1 (HA.out.bk _ _ _ (.tail _ (.head _))).2 (by decide) e))
                        clear hown hgr hat
                        refine hK.out _ _ ⟨HA1.out.cell (.tail _ (.head _)) 0, HA1.out.cell (.tail _ (.head _)) 1, HA1.out.cell (.tail _ (.head _)) 2⟩ (fun hS => ?_)
                        clear hK K
                        try simp only [Act.put, putA, putZ, putS]
                        obtain ⟨a1, c1, rfl⟩ := own_slice' HT1.out.o1
                        clear hS HA HT
                        revert HP; revert HT1; revert HA1; revert P; revert BG; revert c1; revert a1; revert BE; revert Y
                        exact REST14.out
                      exact AllReadyH.nil
                  ·
                    intro X BE pa pc va vc BG HA HT
                    have hS : (fun X : World => X.cell? ⟨w.heap.size, 0, none⟩ = some (.slice (some ⟨ob, oo, none⟩) no oc) ∧ X.cell? ⟨w.heap.size, 1, none⟩ = some (.slice (some ⟨nb, nn, none⟩) nw nc) ∧ X.cell? ⟨w.heap.size, 2, none⟩ = some (.slice ma nm mc)) X := ⟨HA.out.cell (.head _) 0, HA.out.cell (.head _) 1, HA.out.cell (.head _) 2⟩
                    refine wpAnyH_ready (rs := [16, 25]) (by kernel_rfl) (by simp) ?_
                    refine AllReadyH.cons (o := ⟨some 64, _, _, _, _, _⟩) rfl (fun K hK => ?_) ?_
                    ·
                      refine step_append_src X (by rfl) (.tmp 59) (.tmp 63) 22 (by rfl) w.heap.size 77 i0 (.agg #[.int .i64 0, .int .i64 0, .slice none 0 0, .slice none 0 0, .int .i64 0, .slice none 0 0, .int .i64 0]) 7 104 Tryz.underlying22 hi0 hz0 hz1 hz2 rfl (by decide) (.slice (some ⟨BG, 0, none⟩) 0 0) 0 [] (by rfl) HT.out.o2 (some ⟨nb, nn + k * 7, none⟩) (nw - k) (nc - k) y1 (by rfl) (HSN1.out X HA.out.fr) HUN1.out ?c251 ?c252 ?c253 ?_
                      case c251 => unfold maxLen; omega
                      case c252 => omega
                      case c253 => exact HA.out.fr.size
                      intro v Y hown hgr hat
                      have HT1 := Lib.hid ((HT.out.swap.app1 (own_cast hown (Nat.zero_add _) (List.nil_append _)) hgr hat).swap)
                      have HA1 := Lib.hid (HA.out.fro (Fr.grown hgr) (fun q hq e => by have h1 := own_low HT.out.o2 e; omega) (fun p hp e => by
                        simp only [List.mem_cons, List.not_mem_nil, or_false] at hp
                        rcases hp with rfl
                        · exact own_type_ne HT.out.o2 (HA.out.bk _ _ _ (.head _)).2 (by decide) e))
                      clear hown hgr hat
                      refine hK.out _ _ ⟨HA1.out.cell (.head _) 0, HA1.out.cell (.head _) 1, HA1.out.cell (.head _) 2⟩ (fun hS => ?_)
                      clear hK K
                      try simp only [Act.put, putA, putZ, putS]
                      obtain ⟨a1, c1, rfl⟩ := own_slice' HT1.out.o2
                      clear hS HA HT
                      revert HT1; revert HA1; revert c1; revert a1; revert BG; revert vc; revert va; revert pc; revert pa; revert BE; revert Y
                      exact REST15.out
                    refine AllReadyH.cons (o := ⟨some 9, _, _, _, _, _⟩) rfl (fun K hK => ?_) ?_
                    ·
                      go_simp
                      have HA1 := Lib.hid (HA.out.alloc #[.slice none 0 0, .slice none 0 0, .slice none 0 0] 25)
                      have HT1 := Lib.hid (HT.out.below (below_alloc X (.cells #[.slice none 0 0, .slice none 0 0, .slice none 0 0] 25)))
                      have HP1 := Lib.hid ((HA.out.lt (.head _)).2)
                      refine hK.out _ _ ⟨HA1.out.cell (.tail _ (.head _)) 0, HA1.out.cell (.tail _ (.head _)) 1, HA1.out.cell (.tail _ (.head _)) 2⟩ (fun hS => ?_)
                      clear hK K
                      (try simp only [putA]); (try simp only [putS]); (try simp only [putZ])
                      clear hS HA HT
                      generalize X.heap.size = P at HA1 HP1 ⊢
                      generalize X.alloc (.cells #[.slice none 0 0, .slice none 0 0, .slice none 0 0] 25) = Y at HA1 HT1 ⊢
                      revert HP1; revert HT1; revert HA1; revert P; revert BG; revert vc; revert va; revert pc; revert pa; revert BE; revert Y
                      exact REST16.out
                    exact AllReadyH.nil
                ·
                  intro X BE pa pc va vc P HA HT HP
                  have hS : (fun X : World => X.cell? ⟨w.heap.size, 0, none⟩ = some (.slice (some ⟨ob, oo, none⟩) no oc) ∧ X.cell? ⟨w.heap.size, 1, none⟩ = some (.slice (some ⟨nb, nn, none⟩) nw nc) ∧ X.cell? ⟨w.heap.size, 2, none⟩ = some (.slice ma nm mc)) X := ⟨HA.out.cell (.tail _ (.head _)) 0, HA.out.cell (.tail _ (.head _)) 1, HA.out.cell (.tail _ (.head _)) 2⟩
                  refine wpAnyH_ready (rs := [11]) (by kernel_rfl) (by simp) ?_
                  refine AllReadyH.cons (o := ⟨some 59, _, _, _, _, _⟩) rfl (fun K hK => ?_) ?_
                  ·
                    go_simp
                    have HA1 := Lib.hid (HA.out.below (below_alloc X (.cells #[] 77)))
                    have HT1 := Lib.hid ((HT.out.swap.new1 HA.out.fr.size).swap)
                    refine hK.out _ _ ⟨HA1.out.cell (.tail _ (.head _)) 0, HA1.out.cell (.tail _ (.head _)) 1, HA1.out.cell (.tail _ (.head _)) 2⟩ (fun hS => ?_)
                    clear hK K
                    (try simp only [putA]); (try simp only [putS]); (try simp only [putZ])
                    clear hS HA HT
                    generalize X.heap.size = BG at HT1 ⊢
                    generalize X.alloc (.cells #[] 77) = Y at HA1 HT1 ⊢
                    revert HP; revert HT1; revert HA1; revert P; revert BG; revert vc; revert va; revert pc; revert pa; revert BE; revert Y
                    exact REST16.out
                  exact AllReadyH.nil
              ·
                intro X BE pa pc BG P HA HT HP
                have hS : (fun X : World => X.cell? ⟨w.heap.size, 0, none⟩ = some (.slice (some ⟨ob, oo, none⟩) no oc) ∧ X.cell? ⟨w.heap.size, 1, none⟩ = some (.slice (some ⟨nb, nn, none⟩) nw nc) ∧ X.cell? ⟨w.heap.size, 2, none⟩ = some (.slice ma nm mc)) X := ⟨HA.out.cell (.tail _ (.head _)) 0, HA.out.cell (.tail _ (.head _)) 1, HA.out.cell (.tail _ (.head _)) 2⟩
                refine wpAnyH_ready (rs := [10]) (by kernel_rfl) (by simp) ?_
                refine AllReadyH.cons (o := ⟨some 58, _, _, _, _, _⟩) rfl (fun K hK => ?_) ?_
                ·
                  refine step_append_src X (by rfl) (.tmp 53) (.tmp 57) 22 (by rfl) w.heap.size 77 i0 (.agg #[.int .i64 0, .int .i64 0, .slice none 0 0, .slice none 0 0, .int .i64 0, .slice none 0 0, .int .i64 0]) 7 104 Tryz.underlying22 hi0 hz0 hz1 hz2 rfl (by decide) (.slice pa (no - i) pc) (no - i) x1 (by rfl) HT.out.o1 (some ⟨ob, oo, none⟩) i oc x2 (by rfl) (HSO2.out X HA.out.fr) HUO2.out ?c281 ?c282 ?c283 ?_
                  case c281 => unfold maxLen; omega
                  case c282 => omega
                  case c283 => exact HA.out.fr.size
                  intro v Y hown hgr hat
                  have HT1 := Lib.hid (HT.out.app1 (own_cast hown HNO.out rfl) hgr hat)
                  have HA1 := Lib.hid (HA.out.fro (Fr.grown hgr) (fun q hq e => by have h1 := own_low HT.out.o1 e; omega) (fun p hp e => by
                    simp only [List.mem_cons, List.not_mem_nil, or_false] at hp
                    rcases hp with rfl | rfl
                    · exact own_type_ne HT.out.o1 (HA.out.bk _ _ _ (.head _)).2 (by decide) e
                    · exact own_type_ne HT.out.o1 (HA.out.bk _ _ _ (.tail _ (.head _))).2 (by decide) e))
                  clear hown hgr hat
                  refine hK.out _ _ ⟨HA1.out.cell (.tail _ (.head _)) 0, HA1.out.cell (.tail _ (.head _)) 1, HA1.out.cell (.tail _ (.head _)) 2⟩ (fun hS => ?_)
                  clear hK K
                  try simp only [Act.put, putA, putZ, putS]
                  obtain ⟨a1, c1, rfl⟩ := own_slice' HT1.out.o1
                  clear hS HA HT
                  revert HP; revert HT1; revert HA1; revert P; revert BG; revert c1; revert a1; revert pc; revert pa; revert BE; revert Y
                  exact REST16.out
                exact AllReadyH.nil
            ·
              intro X BE pa pc va vc BG ra rc HA HT
              have hS : (fun X : World => X.cell? ⟨w.heap.size, 0, none⟩ = some (.slice (some ⟨ob, oo, none⟩) no oc) ∧ X.cell? ⟨w.heap.size, 1, none⟩ = some (.slice (some ⟨nb, nn, none⟩) nw nc) ∧ X.cell? ⟨w.heap.size, 2, none⟩ = some (.slice ma nm mc)) X := ⟨HA.out.cell (.head _) 0, HA.out.cell (.head _) 1, HA.out.cell (.head _) 2⟩
              refine wpAnyH_ready (rs := [21, 25]) (by kernel_rfl) (by simp) ?_
              refine AllReadyH.cons (o := ⟨some 69, _, _, _, _, _⟩) rfl (fun K hK => ?_) ?_
              ·
                refine step_append_src X (by rfl) (.tmp 64) (.tmp 68) 22 (by rfl) w.heap.size 77 i0 (.agg #[.int .i64 0, .int .i64 0, .slice none 0 0, .slice none 0 0, .int .i64 0, .slice none 0 0, .int .i64 0]) 7 104 Tryz.underlying22 hi0 hz0 hz1 hz2 rfl (by decide) (.slice ra (nw - k) rc) (nw - k) y1 (by rfl) HT.out.o2 (some ⟨nb, nn, none⟩) k nc y2 (by rfl) (HSN2.out X HA.out.fr) HUN2.out ?c291 ?c292 ?c293 ?_
                case c291 => unfold maxLen; omega
                case c292 => omega
                case c293 => exact HA.out.fr.size
                intro v Y hown hgr hat
                have HT1 := Lib.hid ((HT.out.swap.app1 (own_cast hown HNW.out rfl) hgr hat).swap)
                have HA1 := Lib.hid (HA.out.fro (Fr.grown hgr) (fun q hq e => by have h1 := own_low HT.out.o2 e; omega) (fun p hp e => by
                  simp only [List.mem_cons, List.not_mem_nil, or_false] at hp
                  rcases hp with rfl
                  · exact own_type_ne HT.out.o2 (HA.out.bk _ _ _ (.head _)).2 (by decide) e))
                clear hown hgr hat
                refine hK.out _ _ ⟨HA1.out.cell (.head _) 0, HA1.out.cell (.head _) 1, HA1.out.cell (.head _) 2⟩ (fun hS => ?_)
                clear hK K
                try simp only [Act.put, putA, putZ, putS]
                obtain ⟨a1, c1, rfl⟩ := own_slice' HT1.out.o2
                clear hS HA HT
                refine tk [24] ?_
                have hS2 : (fun X : World => X.cell? ⟨w.heap.size, 0, none⟩ = some (.slice (some ⟨ob, oo, none⟩) no oc) ∧ X.cell? ⟨w.heap.size, 1, none⟩ = some (.slice (some ⟨nb, nn, none⟩) nw nc) ∧ X.cell? ⟨w.heap.size, 2, none⟩ = some (.slice ma nm mc)) Y := ⟨HA1.out.cell (.head _) 0, HA1.out.cell (.head _) 1, HA1.out.cell (.head _) 2⟩
                repeat (refine tkH (oi := ⟨_, _, _, _, _, _⟩) (v := ?_) rfl (by kernel_rfl) (by rfl) (fun _ _ _ h => h) hS2 ?_ ?_; rotate_left; (· rintro W' ⟨z0, z1, z2⟩; go_simp; try with_reducible rfl); try simp only [Act.put, putA, putZ, putS])
                refine tk0 ?_
                clear hS2
                revert HT1; revert HA1; revert c1; revert a1; revert rc; revert ra; revert BG; revert vc; revert va; revert pc; revert pa; revert BE; revert Y
                exact REST18.out
              refine AllReadyH.cons (o := ⟨some 9, _, _, _, _, _⟩) rfl (fun K hK => ?_) ?_
              ·
                go_simp
                have HA1 := Lib.hid (HA.out.alloc #[.slice none 0 0, .slice none 0 0, .slice none 0 0] 25)
                have HT1 := Lib.hid (HT.out.below (below_alloc X (.cells #[.slice none 0 0, .slice none 0 0, .slice none 0 0] 25)))
                have HP1 := Lib.hid ((HA.out.lt (.head _)).2)
                refine hK.out _ _ ⟨HA1.out.cell (.tail _ (.head _)) 0, HA1.out.cell (.tail _ (.head _)) 1, HA1.out.cell (.tail _ (.head _)) 2⟩ (fun hS => ?_)
                clear hK K
                (try simp only [putA]); (try simp only [putS]); (try simp only [putZ])
                clear hS HA HT
                generalize X.heap.size = P at HA1 HP1 ⊢
                generalize X.alloc (.cells #[.slice none 0 0, .slice none 0 0, .slice none 0 0] 25) = Y at HA1 HT1 ⊢
                revert HP1; revert HT1; revert HA1; revert P; revert rc; revert ra; revert BG; revert vc; revert va; revert pc; revert pa; revert BE; revert Y
                exact REST17.out
              exact AllReadyH.nil
          ·
            intro X BE pa pc va vc BG P HA HT HP
            have hS : (fun X : World => X.cell? ⟨w.heap.size, 0, none⟩ = some (.slice (some ⟨ob, oo, none⟩) no oc) ∧ X.cell? ⟨w.heap.size, 1, none⟩ = some (.slice (some ⟨nb, nn, none⟩) nw nc) ∧ X.cell? ⟨w.heap.size, 2, none⟩ = some (.slice ma nm mc)) X := ⟨HA.out.cell (.tail _ (.head _)) 0, HA.out.cell (.tail _ (.head _)) 1, HA.out.cell (.tail _ (.head _)) 2⟩
            refine wpAnyH_ready (rs := [16]) (by kernel_rfl) (by simp) ?_
            refine AllReadyH.cons (o := ⟨some 64, _, _, _, _, _⟩) rfl (fun K hK => ?_) ?_
            ·
              refine step_append_src X (by rfl) (.tmp 59) (.tmp 63) 22 (by rfl) w.heap.size 77 i0 (.agg #[.int .i64 0, .int .i64 0, .slice none 0 0, .slice none 0 0, .int .i64 0, .slice none 0 0, .int .i64 0]) 7 104 Tryz.underlying22 hi0 hz0 hz1 hz2 rfl (by decide) (.slice (some ⟨BG, 0, none⟩) 0 0) 0 [] (by rfl) HT.out.o2 (some ⟨nb, nn + k * 7, none⟩) (nw - k) (nc - k) y1 (by rfl) (HSN1.out X HA.out.fr) HUN1.out ?c311 ?c312 ?c313 ?_
              case c311 => unfold maxLen; omega
              case c312 => omega
              case c313 => exact HA.out.fr.size
              intro v Y hown hgr hat
              have HT1 := Lib.hid ((HT.out.swap.app1 (own_cast hown (Nat.zero_add _) (List.nil_append _)) hgr hat).swap)
              have HA1 := Lib.hid (HA.out.fro (Fr.grown hgr) (fun q hq e => by have h1 := own_low HT.out.o2 e; omega) (fun p hp e => by
                simp only [List.mem_cons, List.not_mem_nil, or_false] at hp
                rcases hp with rfl | rfl
                · exact own_type_ne HT.out.o2 (HA.out.bk _ _ _ (.head _)).2 (by decide) e
                · exact own_type_ne HT.out.o2 (HA.out.bk _ _ _ (.tail _ (.head _))).2 (by decide) e))
              clear hown hgr hat
              refine hK.out _ _ ⟨HA1.out.cell (.tail _ (.head _)) 0, HA1.out.cell (.tail _ (.head _)) 1, HA1.out.cell (.tail _ (.head _)) 2⟩ (fun hS => ?_)
              clear hK K
              try simp only [Act.put, putA, putZ, putS]
              obtain ⟨a1, c1, rfl⟩ := own_slice' HT1.out.o2
              clear hS HA HT
              revert HP; revert HT1; revert HA1; revert P; revert c1; revert a1; revert BG; revert vc; revert va; revert pc; revert pa; revert BE; revert Y
              exact REST17.out
            exact AllReadyH.nil
        ·
          intro X BE pa pc va vc BG ra rc P HA HT HP
          have hS : (fun X : World => X.cell? ⟨w.heap.size, 0, none⟩ = some (.slice (some ⟨ob, oo, none⟩) no oc) ∧ X.cell? ⟨w.heap.size, 1, none⟩ = some (.slice (some ⟨nb, nn, none⟩) nw nc) ∧ X.cell? ⟨w.heap.size, 2, none⟩ = some (.slice ma nm mc)) X := ⟨HA.out.cell (.tail _ (.head _)) 0, HA.out.cell (.tail _ (.head _)) 1, HA.out.cell (.tail _ (.head _)) 2⟩
          refine wpAnyH_ready (rs := [21]) (by kernel_rfl) (by simp) ?_
          refine AllReadyH.cons (o := ⟨some 69, _, _, _, _, _⟩) rfl (fun K hK => ?_) ?_
          ·
            refine step_append_src X (by rfl) (.tmp 64) (.tmp 68) 22 (by rfl) w.heap.size 77 i0 (.agg #[.int .i64 0, .int .i64 0, .slice none 0 0, .slice none 0 0, .int .i64 0, .slice none 0 0, .int .i64 0]) 7 104 Tryz.underlying22 hi0 hz0 hz1 hz2 rfl (by decide) (.slice ra (nw - k) rc) (nw - k) y1 (by rfl) HT.out.o2 (some ⟨nb, nn, none⟩) k nc y2 (by rfl) (HSN2.out X HA.out.fr) HUN2.out ?c321 ?c322 ?c323 ?_
            case c321 => unfold maxLen; omega
            case c322 => omega
            case c323 => exact HA.out.fr.size
            intro v Y hown hgr hat
            have HT1 := Lib.hid ((HT.out.swap.app1 (own_cast hown HNW.out rfl) hgr hat).swap)
            have HA1 := Lib.hid (HA.out.fro (Fr.grown hgr) (fun q hq e => by have h1 := own_low HT.out.o2 e; omega) (fun p hp e => by
              simp only [List.mem_cons, List.not_mem_nil, or_false] at hp
              rcases hp with rfl | rfl
              · exact own_type_ne HT.out.o2 (HA.out.bk _ _ _ (.head _)).2 (by decide) e
              · exact own_type_ne HT.out.o2 (HA.out.bk _ _ _ (.tail _ (.head _))).2 (by decide) e))
            clear hown hgr hat
            refine hK.out _ _ ⟨HA1.out.cell (.tail _ (.head _)) 0, HA1.out.cell (.tail _ (.head _)) 1, HA1.out.cell (.tail _ (.head _)) 2⟩ (fun hS => ?_)
            clear hK K
            try simp only [Act.put, putA, putZ, putS]
            obtain ⟨a1, c1, rfl⟩ := own_slice' HT1.out.o2
            clear hS HA HT
            refine tk [24] ?_
            have hS2 : (fun X : World => X.cell? ⟨w.heap.size, 0, none⟩ = some (.slice (some ⟨ob, oo, none⟩) no oc) ∧ X.cell? ⟨w.heap.size, 1, none⟩ = some (.slice (some ⟨nb, nn, none⟩) nw nc) ∧ X.cell? ⟨w.heap.size, 2, none⟩ = some (.slice ma nm mc)) Y := ⟨HA1.out.cell (.tail _ (.head _)) 0, HA1.out.cell (.tail _ (.head _)) 1, HA1.out.cell (.tail _ (.head _)) 2⟩
            repeat (refine tkH (oi := ⟨_, _, _, _, _, _⟩) (v := ?_) rfl (by kernel_rfl) (by rfl) (fun _ _ _ h => h) hS2 ?_ ?_; rotate_left; (· rintro W' ⟨z0, z1, z2⟩; go_simp; try with_reducible rfl); try simp only [Act.put, putA, putZ, putS])
            refine tk0 ?_
            clear hS2
            revert HP; revert HT1; revert HA1; revert P; revert c1; revert a1; revert rc; revert ra; revert BG; revert vc; revert va; revert pc; revert pa; revert BE; revert Y
            exact REST19.out
          exact AllReadyH.nil
      ·
        intro X BE pa pc va vc BG ra rc ub uc HA HT
        have hS : (fun X : World => X.cell? ⟨w.heap.size, 0, none⟩ = some (.slice (some ⟨ob, oo, none⟩) no oc) ∧ X.cell? ⟨w.heap.size, 1, none⟩ = some (.slice (some ⟨nb, nn, none⟩) nw nc) ∧ X.cell? ⟨w.heap.size, 2, none⟩ = some (.slice ma nm mc)) X := ⟨HA.out.cell (.head _) 0, HA.out.cell (.head _) 1, HA.out.cell (.head _) 2⟩
        refine wpAnyH_ready (rs := [25]) (by kernel_rfl) (by simp) ?_
        refine AllReadyH.cons (o := ⟨some 9, _, _, _, _, _⟩) rfl (fun K hK => ?_) ?_
        ·
          go_simp
          have HA1 := Lib.hid (HA.out.alloc #[.slice none 0 0, .slice none 0 0, .slice none 0 0] 25)
          have HT1 := Lib.hid (HT.out.below (below_alloc X (.cells #[.slice none 0 0, .slice none 0 0, .slice none 0 0] 25)))
          have HP1 := Lib.hid ((HA.out.lt (.head _)).2)
          refine hK.out _ _ ⟨HA1.out.cell (.tail _ (.head _)) 0, HA1.out.cell (.tail _ (.head _)) 1, HA1.out.cell (.tail _ (.head _)) 2⟩ (fun hS => ?_)
          clear hK K
          (try simp only [putA]); (try simp only [putS]); (try simp only [putZ])
          clear hS HA HT
          generalize X.heap.size = P at HA1 HP1 ⊢
          generalize X.alloc (.cells #[.slice none 0 0, .slice none 0 0, .slice none 0 0] 25) = Y at HA1 HT1 ⊢
          revert HP1; revert HT1; revert HA1; revert P; revert uc; revert ub; revert rc; revert ra; revert BG; revert vc; revert va; revert pc; revert pa; revert BE; revert Y
          exact REST19.out
        exact AllReadyH.nil
    ·
      intro X BE pa pc va vc BG ra rc ub uc P HA HT HP
      have hS : (fun X : World => X.cell? ⟨w.heap.size, 0, none⟩ = some (.slice (some ⟨ob, oo, none⟩) no oc) ∧ X.cell? ⟨w.heap.size, 1, none⟩ = some (.slice (some ⟨nb, nn, none⟩) nw nc) ∧ X.cell? ⟨w.heap.size, 2, none⟩ = some (.slice ma nm mc)) X := ⟨HA.out.cell (.tail _ (.head _)) 0, HA.out.cell (.tail _ (.head _)) 1, HA.out.cell (.tail _ (.head _)) 2⟩
      refine wpAnyH_ready (rs := [26]) (by kernel_rfl) (by simp) ?_
      refine AllReadyH.cons (o := ⟨none, _, _, _, _, _⟩) rfl (fun K hK => ?_) ?_
      ·
        have hpl := HP.out
        have hpb := (HA.out.bk _ _ _ (.head _)).2
        refine step_store_row (o := ⟨none, .store 25 (.tmp 9) (.tmp 72), _, _, _, _⟩) (by rfl) 25 (.tmp 9) (.tmp 72) (by rfl) P #[.slice va no vc, .slice ub nw uc, .slice ma nm mc] (by rfl) (by rfl) 25 #[.slice none 0 0, .slice none 0 0, .slice none 0 0] hpb (by kernel_rfl) (by rfl) (by simp [Value.oneCell']) ?_
        have HA1 := Lib.hid (HA.out.setR (.head _) #[.slice va no vc, .slice ub nw uc, .slice ma nm mc] (L' := [(w.heap.size, #[.slice (some ⟨ob, oo, none⟩) no oc, .slice (some ⟨nb, nn, none⟩) nw nc, .slice ma nm mc], 25)]) (List.forall_mem_cons.2 ⟨⟨show w.heap.size ≠ P by omega, (.tail _ (.head _))⟩, List.forall_mem_nil _⟩))
        have HT1 := Lib.hid (HT.out.setRow #[.slice va no vc, .slice ub nw uc, .slice ma nm mc] hpb (by decide))
        refine hK.out _ _ ⟨HA1.out.cell (.tail _ (.head _)) 0, HA1.out.cell (.tail _ (.head _)) 1, HA1.out.cell (.tail _ (.head _)) 2⟩ (fun hS => ?_)
        clear hK K
        try simp only [Act.put, putA, putZ, putS]
        clear hS HA HT hpb hpl HP
        generalize X.setRow P #[.slice va no vc, .slice ub nw uc, .slice ma nm mc] = Y at HA1 HT1 ⊢
        revert HT1; revert HA1; revert P; revert uc; revert ub; revert rc; revert ra; revert BG; revert vc; revert va; revert pc; revert pa; revert BE; revert Y
        exact REST20.out
      exact AllReadyH.nil
  ·
    intro X BE pa pc va vc BG ra rc ub uc P HA HT
    have hS : (fun X : World => X.cell? ⟨w.heap.size, 0, none⟩ = some (.slice (some ⟨ob, oo, none⟩) no oc) ∧ X.cell? ⟨w.heap.size, 1, none⟩ = some (.slice (some ⟨nb, nn, none⟩) nw nc) ∧ X.cell? ⟨w.heap.size, 2, none⟩ = some (.slice ma nm mc)) X := ⟨HA.out.cell (.tail _ (.head _)) 0, HA.out.cell (.tail _ (.head _)) 1, HA.out.cell (.tail _ (.head _)) 2⟩
    refine wpAnyH_done (by kernel_rfl) ?_ _
    have HX0 : Hid (Below X.heap.size X X) := Below.refl _ _
    have HO1 := Lib.hid (HEO.out X _ HA.out.fr HT.out.o1)
    have HO2 := Lib.hid (HEN.out X _ HA.out.fr HT.out.o2)
    have HFX := Lib.hid (HTF.out X va vc ub uc HA.out.fr HO1.out HO2.out)
    rename World => xs
    clear HEO HEN HTF HT HO1 HO2 HSO1 HSO2 HSN1 HSN2 HUO1 HUO2 HUN1 HUN2 HNO HNW
    have c0 := HA.out.cell (.tail _ (.head _)) 0
    have c1 := HA.out.cell (.tail _ (.head _)) 1
    have c2 := HA.out.cell (.tail _ (.head _)) 2
    go_wp2_with fail
    refine (HFI.out _ HA.out.fr).mono ?_
    rintro _ y1 ⟨z, rfl, hq, hb⟩
    have HX0' := Lib.hid (HX0.out.trans (hb.mono HX0.out.size))
    clear HX0
    have HX0 := HX0'
    clear HX0'
    have HA' := Lib.hid (HA.out.below hb)
    clear HA
    have HA := HA'
    clear HA'
    have HQ := Lib.hid hq
    clear hq
    clear hb c0 c1 c2
    go_wp2_with fail
    refine (HC1.out z _ HQ.out).mono ?_
    rintro _ y2 ⟨a1, c1, rfl, hl, hb⟩
    have HX0' := Lib.hid (HX0.out.trans (hb.mono HX0.out.size))
    clear HX0
    have HX0 := HX0'
    clear HX0'
    have HA' := Lib.hid (HA.out.below hb)
    clear HA
    have HA := HA'
    clear HA'
    have HLS1 := Lib.hid hl
    clear hl
    clear hb
    clear HQ
    have c0 := HA.out.cell (.head _) 0
    have c1 := HA.out.cell (.head _) 1
    have c2 := HA.out.cell (.head _) 2
    go_wp2_with fail
    refine (HFX.out _ HX0.out).mono ?_
    rintro _ y3 ⟨z, rfl, hq, hb⟩
    have HX0' := Lib.hid (HX0.out.trans (hb.mono HX0.out.size))
    clear HX0
    have HX0 := HX0'
    clear HX0'
    have HA' := Lib.hid (HA.out.below hb)
    clear HA
    have HA := HA'
    clear HA'
    have HLS1' := Lib.hid (HLS1.out.below hb)
    clear HLS1
    have HLS1 := HLS1'
    clear HLS1'
    have HQ := Lib.hid hq
    clear hq
    clear hb c0 c1 c2
    go_wp2_with fail
    refine (HD1.out z _ HQ.out).mono ?_
    rintro _ y4 ⟨a2, c2, rfl, hl, hb⟩
    have HX0' := Lib.hid (HX0.out.trans (hb.mono HX0.out.size))
    clear HX0
    have HX0 := HX0'
    clear HX0'
    have HA' := Lib.hid (HA.out.below hb)
    clear HA
    have HA := HA'
    clear HA'
    have HLS1' := Lib.hid (HLS1.out.below hb)
    clear HLS1
    have HLS1 := HLS1'
    clear HLS1'
    have HLS2 := Lib.hid hl
    clear hl
    clear hb
    clear HQ
    have c0 := HA.out.cell (.tail _ (.head _)) 0
    have c1 := HA.out.cell (.tail _ (.head _)) 1
    have c2 := HA.out.cell (.tail _ (.head _)) 2
    go_wp2_with fail
    refine (HFI.out _ HA.out.fr).mono ?_
    rintro _ y5 ⟨z, rfl, hq, hb⟩
    have HX0' := Lib.hid (HX0.out.trans (hb.mono HX0.out.size))
    clear HX0
    have HX0 := HX0'
    clear HX0'
    have HA' := Lib.hid (HA.out.below hb)
    clear HA
    have HA := HA'
    clear HA'
    have HLS1' := Lib.hid (HLS1.out.below hb)
    clear HLS1
    have HLS1 := HLS1'
    clear HLS1'
    have HLS2' := Lib.hid (HLS2.out.below hb)
    clear HLS2
    have HLS2 := HLS2'
    clear HLS2'
    have HQ := Lib.hid hq
    clear hq
    clear hb c0 c1 c2
    go_wp2_with fail
    refine (HC2.out z _ HQ.out).mono ?_
    rintro _ y6 ⟨a3, c3, rfl, hl, hb⟩
    have HX0' := Lib.hid (HX0.out.trans (hb.mono HX0.out.size))
    clear HX0
    have HX0 := HX0'
    clear HX0'
    have HA' := Lib.hid (HA.out.below hb)
    clear HA
    have HA := HA'
    clear HA'
    have HLS1' := Lib.hid (HLS1.out.below hb)
    clear HLS1
    have HLS1 := HLS1'
    clear HLS1'
    have HLS2' := Lib.hid (HLS2.out.below hb)
    clear HLS2
    have HLS2 := HLS2'
    clear HLS2'
    have HLP1 := Lib.hid hl
    clear hl
    clear hb
    clear HQ
    have c0 := HA.out.cell (.head _) 0
    have c1 := HA.out.cell (.head _) 1
    have c2 := HA.out.cell (.head _) 2
    go_wp2_with fail
    refine (HFX.out _ HX0.out).mono ?_
    rintro _ y7 ⟨z, rfl, hq, hb⟩
    have HX0' := Lib.hid (HX0.out.trans (hb.mono HX0.out.size))
    clear HX0
    have HX0 := HX0'
    clear HX0'
    have HA' := Lib.hid (HA.out.below hb)
    clear HA
    have HA := HA'
    clear HA'
    have HLS1' := Lib.hid (HLS1.out.below hb)
    clear HLS1
    have HLS1 := HLS1'
    clear HLS1'
    have HLS2' := Lib.hid (HLS2.out.below hb)
    clear HLS2
    have HLS2 := HLS2'
    clear HLS2'
    have HLP1' := Lib.hid (HLP1.out.below hb)
    clear HLP1
    have HLP1 := HLP1'
    clear HLP1'
    have HQ := Lib.hid hq
    clear hq
    clear hb c0 c1 c2
    go_wp2_with fail
    refine (HD2.out z _ HQ.out).mono ?_
    rintro _ y8 ⟨a4, c4, rfl, hl, hb⟩
    have HX0' := Lib.hid (HX0.out.trans (hb.mono HX0.out.size))
    clear HX0
    have HX0 := HX0'
    clear HX0'
    have HA' := Lib.hid (HA.out.below hb)
    clear HA
    have HA := HA'
    clear HA'
    have HLS1' := Lib.hid (HLS1.out.below hb)
    clear HLS1
    have HLS1 := HLS1'
    clear HLS1'
    have HLS2' := Lib.hid (HLS2.out.below hb)
    clear HLS2
    have HLS2 := HLS2'
    clear HLS2'
    have HLP1' := Lib.hid (HLP1.out.below hb)
    clear HLP1
    have HLP1 := HLP1'
    clear HLP1'
    have HLP2 := Lib.hid hl
    clear hl
    clear hb
    clear HQ
    clear HC1 HC2 HD1 HD2 HFI HFX HTH
    rename World => wb
    have hbs := HB1.out
    have hbp := HB2.out
    have hl1 := HL1.out
    have hl2 := HL2.out
    have kl1 : (((dL s nw no).length : Int) != ((dL s' nw no).length : Int)) = false := by rw [hl1]; simp
    have kl2 : (((dL p nw no).length : Int) != ((dL p' nw no).length : Int)) = false := by rw [hl2]; simp
    have HFC : Hid (∀ X, Below wb.heap.size wb X → X.cell? ⟨w.heap.size, 0, none⟩ = some (.slice (some ⟨ob, oo, none⟩) no oc) ∧ X.cell? ⟨w.heap.size, 1, none⟩ = some (.slice (some ⟨nb, nn, none⟩) nw nc)) := fun X hX => ⟨(HA.out.below hX).cell (.tail _ (.head _)) 0, (HA.out.below hX).cell (.tail _ (.head _)) 1⟩
    have HBB := Lib.hid HA.out.fr
    have HH1 := Lib.hid (fun o n X (hX : Below wb.heap.size wb X) => has_list (dL s nw no) a1 c1 o n X (HLS1.out.below hX) (by omega))
    have HH2 := Lib.hid (fun o n X (hX : Below wb.heap.size wb X) => has_list (dL p nw no) a3 c3 o n X (HLP1.out.below hX) (by omega))
    have HT2 := Lib.hid (fun X (hX : Below wb.heap.size wb X) => HLS2.out.below hX)
    have HT4 := Lib.hid (fun X (hX : Below wb.heap.size wb X) => HLP2.out.below hX)
    have hl3 : (dL s' nw no).length ≤ 64 := by omega
    have hl4 : (dL p' nw no).length ≤ 64 := by omega
    clear HLS1 HLS2 HLP1 HLP2 HA HX0 hl1 hl2
    go_wp2_with fail
    go_loopw [18] (fun v wr => ∃ j : Nat, v = .int .i64 (j : Int) ∧ j ≤ (dL s' nw no).length ∧ Below wb.heap.size wb wr) (fun v _ => (dL s' nw no).length - (intOf v).toNat)
    case atStart => exact ⟨0, rfl, Nat.zero_le _, Below.refl _ _⟩
    case round =>
      obtain ⟨j, rfl, hj, hbl⟩ := hrel
      rename World => wu
      have HAB : Hid (BF wb wu []) := (BF.base wb).below hbl
      clear hbl
      by_cases hjl : j < (dL s' nw no).length
      · obtain ⟨x, y, hik, hx, hy, hqq⟩ := dL_at hjl
        obtain ⟨lb, lo, rfl, hlb, hx0, hx1⟩ := (HT2.out _ (Below.refl _ _)).at hjl
        rw [hik] at hx0 hx1
        have hmm := HM1.out x y (dL_mem.2 ⟨x, y, rfl, hx, hy, hqq⟩)
        have HHAS := Lib.hid (fun X (hX : Below wb.heap.size wb X) => HH1.out (((x + i) % no : Nat) : Int) (((y + k) % nw : Nat) : Int) X hX)
        rw [decide_eq_true hmm] at HHAS
        have HLC : Hid (∀ X, Below wb.heap.size wb X → X.cell? ⟨lb, lo + j * 2, none⟩ = some (.int .i64 (x : Int)) ∧ X.cell? ⟨lb, lo + j * 2 + 1, none⟩ = some (.int .i64 (y : Int))) := fun X hX => ⟨kept hX hlb hx0, kept hX hlb hx1⟩
        have HKR : Hid (((x : Int) + (i : Int)).tmod (no : Int) = (((x + i) % no : Nat) : Int) ∧ ((y : Int) + (k : Int)).tmod (nw : Int) = (((y + k) % nw : Nat) : Int)) := ⟨by rw [Int.tmod_eq_emod_of_nonneg (by omega)]; rfl, by rw [Int.tmod_eq_emod_of_nonneg (by omega)]; rfl⟩
        generalize (x + i) % no = x2 at *
        generalize (y + k) % nw = y2 at *
        have kx : IntKind.i64.wrap ((x : Int) + (i : Int)) = (x : Int) + (i : Int) := IntWalk.i64_in _ (by have := HBD.out; omega)
        have ky : IntKind.i64.wrap ((y : Int) + (k : Int)) = (y : Int) + (k : Int) := IntWalk.i64_in _ (by have := HBD.out; omega)
        clear hik hx0 hx1 hqq hmm
        have ki : (0 : Int) ≤ (j : Int) := by omega
        have kj : (j : Int) < ((dL s' nw no).length : Int) := by omega
        go_upto_region 14 with fail
        have HAX : Hid (BF wb wu.drew []) := HAB.out.below (Below.refl _ _).drew
        clear HAB
        refine wp_region_Z (S := fun X => X.cell? ⟨w.heap.size, 0, none⟩ = some (.slice (some ⟨ob, oo, none⟩) no oc) ∧ X.cell? ⟨w.heap.size, 1, none⟩ = some (.slice (some ⟨nb, nn, none⟩) nw nc) ∧ X.cell? ⟨lb, lo + j * 2, none⟩ = some (.int .i64 (x : Int)) ∧ X.cell? ⟨lb, lo + j * 2 + 1, none⟩ = some (.int .i64 (y : Int))) (by kernel_rfl) (⟨(HFC.out _ HAX.out.fr).1, (HFC.out _ HAX.out.fr).2, (HLC.out _ HAX.out.fr).1, (HLC.out _ HAX.out.fr).2⟩) (fun hS => ?_)
        generalize wu.drew = X at *
        refine wpAnyZ_take (i := 0) (oi := ⟨some 131, _, _, _, _, _⟩) (v := ?_) rfl (by kernel_rfl) (by kernel_rfl) (by kernel_rfl) (fun _ _ _ h => h) (Or.inl ⟨by rfl, ?_⟩) hS ?_
        rotate_left
        · rintro W' ⟨z0, z1, z2, z3⟩; go_simp; try with_reducible rfl
        try simp only [Act.put, putA, putZ, putS]
        refine wpAnyZ_take (i := 1) (oi := ⟨some 132, _, _, _, _, _⟩) (v := ?_) rfl (by kernel_rfl) (by kernel_rfl) (by kernel_rfl) (fun _ _ _ h => h) (Or.inl ⟨by rfl, ?_⟩) hS ?_
        rotate_left
        · rintro W' ⟨z0, z1, z2, z3⟩; go_simp; try with_reducible rfl
        try simp only [Act.put, putA, putZ, putS]
        refine wpAnyZ_take (i := 2) (oi := ⟨some 133, _, _, _, _, _⟩) (v := ?_) rfl (by kernel_rfl) (by kernel_rfl) (by kernel_rfl) (fun _ _ _ h => h) (Or.inl ⟨by rfl, ?_⟩) hS ?_
        rotate_left
        · rintro W' ⟨z0, z1, z2, z3⟩; go_simp; try with_reducible rfl
        try simp only [Act.put, putA, putZ, putS]
        refine wpAnyZ_take (i := 3) (oi := ⟨some 134, _, _, _, _, _⟩) (v := ?_) rfl (by kernel_rfl) (by kernel_rfl) (by kernel_rfl) (fun _ _ _ h => h) (Or.inl ⟨by rfl, ?_⟩) hS ?_
        rotate_left
        · rintro W' ⟨z0, z1, z2, z3⟩; go_simp; try with_reducible rfl
        try simp only [Act.put, putA, putZ, putS]
        refine wpAnyZ_take (i := 4) (oi := ⟨some 135, _, _, _, _, _⟩) (v := ?_) rfl (by kernel_rfl) (by kernel_rfl) (by kernel_rfl) (fun _ _ _ h => h) (Or.inl ⟨by rfl, ?_⟩) hS ?_
        rotate_left
        · rintro W' ⟨z0, z1, z2, z3⟩; go_simp; try with_reducible rfl
        try simp only [Act.put, putA, putZ, putS]
        refine wpAnyZ_take (i := 5) (oi := ⟨some 136, _, _, _, _, _⟩) (v := ?_) rfl (by kernel_rfl) (by kernel_rfl) (by kernel_rfl) (fun _ _ _ h => h) (Or.inl ⟨by rfl, ?_⟩) hS ?_
        rotate_left
        · rintro W' ⟨z0, z1, z2, z3⟩; go_simp; try with_reducible rfl
        try simp only [Act.put, putA, putZ, putS]
        refine wpAnyZ_take (i := 6) (oi := ⟨some 137, _, _, _, _, _⟩) (v := ?_) rfl (by kernel_rfl) (by kernel_rfl) (by kernel_rfl) (fun _ _ _ h => h) (Or.inl ⟨by rfl, ?_⟩) hS ?_
        rotate_left
        · rintro W' ⟨z0, z1, z2, z3⟩; go_simp; try with_reducible rfl
        try simp only [Act.put, putA, putZ, putS]
        refine wpAnyZ_take (i := 7) (oi := ⟨some 138, _, _, _, _, _⟩) (v := .int .i64 ((x : Int) + (i : Int))) rfl (by kernel_rfl) (by kernel_rfl) (by kernel_rfl) (fun _ _ _ h => h) (Or.inl ⟨by rfl, by rintro W' ⟨z0, z1, z2, z3⟩; go_simp; try rw [kx]⟩) hS ?_
        try simp only [Act.put, putA, putZ, putS]
        refine wpAnyZ_take (i := 8) (oi := ⟨some 139, _, _, _, _, _⟩) (v := ?_) rfl (by kernel_rfl) (by kernel_rfl) (by kernel_rfl) (fun _ _ _ h => h) (Or.inl ⟨by rfl, ?_⟩) hS ?_
        rotate_left
        · rintro W' ⟨z0, z1, z2, z3⟩; go_simp; try with_reducible rfl
        try simp only [Act.put, putA, putZ, putS]
        refine wpAnyZ_take (i := 9) (oi := ⟨some 140, _, _, _, _, _⟩) (v := ?_) rfl (by kernel_rfl) (by kernel_rfl) (by kernel_rfl) (fun _ _ _ h => h) (Or.inl ⟨by rfl, ?_⟩) hS ?_
        rotate_left
        · rintro W' ⟨z0, z1, z2, z3⟩; go_simp; try with_reducible rfl
        try simp only [Act.put, putA, putZ, putS]
        refine wpAnyZ_take (i := 10) (oi := ⟨some 141, _, _, _, _, _⟩) (v := ?_) rfl (by kernel_rfl) (by kernel_rfl) (by kernel_rfl) (fun _ _ _ h => h) (Or.inl ⟨by rfl, ?_⟩) hS ?_
        rotate_left
        · rintro W' ⟨z0, z1, z2, z3⟩; go_simp; try with_reducible rfl
        try simp only [Act.put, putA, putZ, putS]
        refine wpAnyZ_take (i := 11) (oi := ⟨some 142, _, _, _, _, _⟩) (v := .int .i64 (x2 : Int)) rfl (by kernel_rfl) (by kernel_rfl) (by kernel_rfl) (fun _ _ _ h => h) (Or.inl ⟨by rfl, by rintro W' ⟨z0, z1, z2, z3⟩; go_simp; (try rw [if_neg kno3]); (try rw [HKR.out.1])⟩) hS ?_
        try simp only [Act.put, putA, putZ, putS]
        refine wpAnyZ_take (i := 12) (oi := ⟨some 143, _, _, _, _, _⟩) (v := ?_) rfl (by kernel_rfl) (by kernel_rfl) (by kernel_rfl) (fun _ _ _ h => h) (Or.inl ⟨by rfl, ?_⟩) hS ?_
        rotate_left
        · rintro W' ⟨z0, z1, z2, z3⟩; go_simp; try with_reducible rfl
        try simp only [Act.put, putA, putZ, putS]
        refine wpAnyZ_take (i := 13) (oi := ⟨some 144, _, _, _, _, _⟩) (v := ?_) rfl (by kernel_rfl) (by kernel_rfl) (by kernel_rfl) (fun _ _ _ h => h) (Or.inl ⟨by rfl, ?_⟩) hS ?_
        rotate_left
        · rintro W' ⟨z0, z1, z2, z3⟩; go_simp; try with_reducible rfl
        try simp only [Act.put, putA, putZ, putS]
        refine wpAnyZ_take (i := 14) (oi := ⟨some 145, _, _, _, _, _⟩) (v := ?_) rfl (by kernel_rfl) (by kernel_rfl) (by kernel_rfl) (fun _ _ _ h => h) (Or.inl ⟨by rfl, ?_⟩) hS ?_
        rotate_left
        · rintro W' ⟨z0, z1, z2, z3⟩; go_simp; try with_reducible rfl
        try simp only [Act.put, putA, putZ, putS]
        refine wpAnyZ_take (i := 15) (oi := ⟨some 146, _, _, _, _, _⟩) (v := ?_) rfl (by kernel_rfl) (by kernel_rfl) (by kernel_rfl) (fun _ _ _ h => h) (Or.inl ⟨by rfl, ?_⟩) hS ?_
        rotate_left
        · rintro W' ⟨z0, z1, z2, z3⟩; go_simp; try with_reducible rfl
        try simp only [Act.put, putA, putZ, putS]
        refine wpAnyZ_take (i := 16) (oi := ⟨some 147, _, _, _, _, _⟩) (v := ?_) rfl (by kernel_rfl) (by kernel_rfl) (by kernel_rfl) (fun _ _ _ h => h) (Or.inl ⟨by rfl, ?_⟩) hS ?_
        rotate_left
        · rintro W' ⟨z0, z1, z2, z3⟩; go_simp; try with_reducible rfl
        try simp only [Act.put, putA, putZ, putS]
        refine wpAnyZ_take (i := 17) (oi := ⟨some 148, _, _, _, _, _⟩) (v := ?_) rfl (by kernel_rfl) (by kernel_rfl) (by kernel_rfl) (fun _ _ _ h => h) (Or.inl ⟨by rfl, ?_⟩) hS ?_
        rotate_left
        · rintro W' ⟨z0, z1, z2, z3⟩; go_simp; try with_reducible rfl
        try simp only [Act.put, putA, putZ, putS]
        refine wpAnyZ_take (i := 18) (oi := ⟨some 149, _, _, _, _, _⟩) (v := .int .i64 ((y : Int) + (k : Int))) rfl (by kernel_rfl) (by kernel_rfl) (by kernel_rfl) (fun _ _ _ h => h) (Or.inl ⟨by rfl, by rintro W' ⟨z0, z1, z2, z3⟩; go_simp; try rw [ky]⟩) hS ?_
        try simp only [Act.put, putA, putZ, putS]
        refine wpAnyZ_take (i := 19) (oi := ⟨some 150, _, _, _, _, _⟩) (v := ?_) rfl (by kernel_rfl) (by kernel_rfl) (by kernel_rfl) (fun _ _ _ h => h) (Or.inl ⟨by rfl, ?_⟩) hS ?_
        rotate_left
        · rintro W' ⟨z0, z1, z2, z3⟩; go_simp; try with_reducible rfl
        try simp only [Act.put, putA, putZ, putS]
        refine wpAnyZ_take (i := 20) (oi := ⟨some 151, _, _, _, _, _⟩) (v := ?_) rfl (by kernel_rfl) (by kernel_rfl) (by kernel_rfl) (fun _ _ _ h => h) (Or.inl ⟨by rfl, ?_⟩) hS ?_
        rotate_left
        · rintro W' ⟨z0, z1, z2, z3⟩; go_simp; try with_reducible rfl
        try simp only [Act.put, putA, putZ, putS]
        refine wpAnyZ_take (i := 21) (oi := ⟨some 152, _, _, _, _, _⟩) (v := ?_) rfl (by kernel_rfl) (by kernel_rfl) (by kernel_rfl) (fun _ _ _ h => h) (Or.inl ⟨by rfl, ?_⟩) hS ?_
        rotate_left
        · rintro W' ⟨z0, z1, z2, z3⟩; go_simp; try with_reducible rfl
        try simp only [Act.put, putA, putZ, putS]
        refine wpAnyZ_take (i := 22) (oi := ⟨some 153, _, _, _, _, _⟩) (v := .int .i64 (y2 : Int)) rfl (by kernel_rfl) (by kernel_rfl) (by kernel_rfl) (fun _ _ _ h => h) (Or.inl ⟨by rfl, by rintro W' ⟨z0, z1, z2, z3⟩; go_simp; (try rw [if_neg knw3]); (try rw [HKR.out.2])⟩) hS ?_
        try simp only [Act.put, putA, putZ, putS]
        refine wpAnyZ_next (rs := [23]) (by kernel_rfl) (by simp) ?_
        refine NextZ.cons (o := ⟨some 154, _, _, _, _, _⟩) rfl (fun K hK => ?_) ?_
        ·
         go_simp
         refine (HHAS.out _ HAX.out.fr).mono ?_
         rintro _ X0 ⟨rfl, hb0⟩
         (try go_wp2_with fail)
         have HA0 := Lib.hid (HAX.out.below hb0)
         refine hK.out _ _ (⟨(HFC.out _ HA0.out.fr).1, (HFC.out _ HA0.out.fr).2, (HLC.out _ HA0.out.fr).1, (HLC.out _ HA0.out.fr).2⟩) (fun hS => ?_)
         clear hK K
         try simp only [Act.put, putA, putZ, putS]
         clear hb0
         refine wpAnyZ_take (i := 24) (oi := ⟨some 155, _, _, _, _, _⟩) (v := ?_) rfl (by kernel_rfl) (by kernel_rfl) (by kernel_rfl) (fun _ _ _ h => h) (Or.inl ⟨by rfl, ?_⟩) hS ?_
         rotate_left
         · rintro W' ⟨z0, z1, z2, z3⟩; go_simp; try with_reducible rfl
         try simp only [Act.put, putA, putZ, putS]
         refine wpAnyZ_done (by kernel_rfl) ?_ _
         have HX2 := Lib.hid (HA0.out)
         go_wp2_with fail
         go_roundw
         case rel => exact ⟨j + 1, by go_num, by omega, HX2.out.fr⟩
         case measure => simp [intOf]; omega
        exact NextZ.nil
      ·
        go_wp2_with fail
        go_loopw [19] (fun v wr => ∃ j : Nat, v = .int .i64 (j : Int) ∧ j ≤ (dL p' nw no).length ∧ Below wb.heap.size wb wr) (fun v _ => (dL p' nw no).length - (intOf v).toNat)
        case atStart => exact ⟨0, rfl, Nat.zero_le _, HAB.out.fr⟩
        case round =>
          obtain ⟨j, rfl, hj, hbl⟩ := hrel
          clear HAB
          rename World => wu
          have HAB : Hid (BF wb wu []) := (BF.base wb).below hbl
          clear hbl
          by_cases hjl : j < (dL p' nw no).length
          · obtain ⟨x, y, hik, hx, hy, hqq⟩ := dL_at hjl
            obtain ⟨lb, lo, rfl, hlb, hx0, hx1⟩ := (HT4.out _ (Below.refl _ _)).at hjl
            rw [hik] at hx0 hx1
            have hmm := HM2.out x y (dL_mem.2 ⟨x, y, rfl, hx, hy, hqq⟩)
            have HHAS := Lib.hid (fun X (hX : Below wb.heap.size wb X) => HH2.out (((x + i) % no : Nat) : Int) (((y + k) % nw : Nat) : Int) X hX)
            rw [decide_eq_true hmm] at HHAS
            have HLC : Hid (∀ X, Below wb.heap.size wb X → X.cell? ⟨lb, lo + j * 2, none⟩ = some (.int .i64 (x : Int)) ∧ X.cell? ⟨lb, lo + j * 2 + 1, none⟩ = some (.int .i64 (y : Int))) := fun X hX => ⟨kept hX hlb hx0, kept hX hlb hx1⟩
            have HKR : Hid (((x : Int) + (i : Int)).tmod (no : Int) = (((x + i) % no : Nat) : Int) ∧ ((y : Int) + (k : Int)).tmod (nw : Int) = (((y + k) % nw : Nat) : Int)) := ⟨by rw [Int.tmod_eq_emod_of_nonneg (by omega)]; rfl, by rw [Int.tmod_eq_emod_of_nonneg (by omega)]; rfl⟩
            generalize (x + i) % no = x2 at *
            generalize (y + k) % nw = y2 at *
            have kx : IntKind.i64.wrap ((x : Int) + (i : Int)) = (x : Int) + (i : Int) := IntWalk.i64_in _ (by have := HBD.out; omega)
            have ky : IntKind.i64.wrap ((y : Int) + (k : Int)) = (y : Int) + (k : Int) := IntWalk.i64_in _ (by have := HBD.out; omega)
            clear hik hx0 hx1 hqq hmm
            have ki : (0 : Int) ≤ (j : Int) := by omega
            have kj : (j : Int) < ((dL p' nw no).length : Int) := by omega
            go_upto_region 19 with fail
            have HAX : Hid (BF wb wu.drew []) := HAB.out.below (Below.refl _ _).drew
            clear HAB
            refine wp_region_Z (S := fun X => X.cell? ⟨w.heap.size, 0, none⟩ = some (.slice (some ⟨ob, oo, none⟩) no oc) ∧ X.cell? ⟨w.heap.size, 1, none⟩ = some (.slice (some ⟨nb, nn, none⟩) nw nc) ∧ X.cell? ⟨lb, lo + j * 2, none⟩ = some (.int .i64 (x : Int)) ∧ X.cell? ⟨lb, lo + j * 2 + 1, none⟩ = some (.int .i64 (y : Int))) (by kernel_rfl) (⟨(HFC.out _ HAX.out.fr).1, (HFC.out _ HAX.out.fr).2, (HLC.out _ HAX.out.fr).1, (HLC.out _ HAX.out.fr).2⟩) (fun hS => ?_)
            generalize wu.drew = X at *
            refine wpAnyZ_take (i := 0) (oi := ⟨some 162, _, _, _, _, _⟩) (v := ?_) rfl (by kernel_rfl) (by kernel_rfl) (by kernel_rfl) (fun _ _ _ h => h) (Or.inl ⟨by rfl, ?_⟩) hS ?_
            rotate_left
            · rintro W' ⟨z0, z1, z2, z3⟩; go_simp; try with_reducible rfl
            try simp only [Act.put, putA, putZ, putS]
            refine wpAnyZ_take (i := 1) (oi := ⟨some 163, _, _, _, _, _⟩) (v := ?_) rfl (by kernel_rfl) (by kernel_rfl) (by kernel_rfl) (fun _ _ _ h => h) (Or.inl ⟨by rfl, ?_⟩) hS ?_
            rotate_left
            · rintro W' ⟨z0, z1, z2, z3⟩; go_simp; try with_reducible rfl
            try simp only [Act.put, putA, putZ, putS]
            refine wpAnyZ_take (i := 2) (oi := ⟨some 164, _, _, _, _, _⟩) (v := ?_) rfl (by kernel_rfl) (by kernel_rfl) (by kernel_rfl) (fun _ _ _ h => h) (Or.inl ⟨by rfl, ?_⟩) hS ?_
            rotate_left
            · rintro W' ⟨z0, z1, z2, z3⟩; go_simp; try with_reducible rfl
            try simp only [Act.put, putA, putZ, putS]
            refine wpAnyZ_take (i := 3) (oi := ⟨some 165, _, _, _, _, _⟩) (v := ?_) rfl (by kernel_rfl) (by kernel_rfl) (by kernel_rfl) (fun _ _ _ h => h) (Or.inl ⟨by rfl, ?_⟩) hS ?_
            rotate_left
            · rintro W' ⟨z0, z1, z2, z3⟩; go_simp; try with_reducible rfl
            try simp only [Act.put, putA, putZ, putS]
            refine wpAnyZ_take (i := 4) (oi := ⟨some 166, _, _, _, _, _⟩) (v := ?_) rfl (by kernel_rfl) (by kernel_rfl) (by kernel_rfl) (fun _ _ _ h => h) (Or.inl ⟨by rfl, ?_⟩) hS ?_
            rotate_left
            · rintro W' ⟨z0, z1, z2, z3⟩; go_simp; try with_reducible rfl
            try simp only [Act.put, putA, putZ, putS]
            refine wpAnyZ_take (i := 5) (oi := ⟨some 167, _, _, _, _, _⟩) (v := ?_) rfl (by kernel_rfl) (by kernel_rfl) (by kernel_rfl) (fun _ _ _ h => h) (Or.inl ⟨by rfl, ?_⟩) hS ?_
            rotate_left
            · rintro W' ⟨z0, z1, z2, z3⟩; go_simp; try with_reducible rfl
            try simp only [Act.put, putA, putZ, putS]
            refine wpAnyZ_take (i := 6) (oi := ⟨some 168, _, _, _, _, _⟩) (v := ?_) rfl (by kernel_rfl) (by kernel_rfl) (by kernel_rfl) (fun _ _ _ h => h) (Or.inl ⟨by rfl, ?_⟩) hS ?_
            rotate_left
            · rintro W' ⟨z0, z1, z2, z3⟩; go_simp; try with_reducible rfl
            try simp only [Act.put, putA, putZ, putS]
            refine wpAnyZ_take (i := 7) (oi := ⟨some 169, _, _, _, _, _⟩) (v := .int .i64 ((x : Int) + (i : Int))) rfl (by kernel_rfl) (by kernel_rfl) (by kernel_rfl) (fun _ _ _ h => h) (Or.inl ⟨by rfl, by rintro W' ⟨z0, z1, z2, z3⟩; go_simp; try rw [kx]⟩) hS ?_
            try simp only [Act.put, putA, putZ, putS]
            refine wpAnyZ_take (i := 8) (oi := ⟨some 170, _, _, _, _, _⟩) (v := ?_) rfl (by kernel_rfl) (by kernel_rfl) (by kernel_rfl) (fun _ _ _ h => h) (Or.inl ⟨by rfl, ?_⟩) hS ?_
            rotate_left
            · rintro W' ⟨z0, z1, z2, z3⟩; go_simp; try with_reducible rfl
            try simp only [Act.put, putA, putZ, putS]
            refine wpAnyZ_take (i := 9) (oi := ⟨some 171, _, _, _, _, _⟩) (v := ?_) rfl (by kernel_rfl) (by kernel_rfl) (by kernel_rfl) (fun _ _ _ h => h) (Or.inl ⟨by rfl, ?_⟩) hS ?_
            rotate_left
            · rintro W' ⟨z0, z1, z2, z3⟩; go_simp; try with_reducible rfl
            try simp only [Act.put, putA, putZ, putS]
            refine wpAnyZ_take (i := 10) (oi := ⟨some 172, _, _, _, _, _⟩) (v := ?_) rfl (by kernel_rfl) (by kernel_rfl) (by kernel_rfl) (fun _ _ _ h => h) (Or.inl ⟨by rfl, ?_⟩) hS ?_
            rotate_left
            · rintro W' ⟨z0, z1, z2, z3⟩; go_simp; try with_reducible rfl
            try simp only [Act.put, putA, putZ, putS]
            refine wpAnyZ_take (i := 11) (oi := ⟨some 173, _, _, _, _, _⟩) (v := .int .i64 (x2 : Int)) rfl (by kernel_rfl) (by kernel_rfl) (by kernel_rfl) (fun _ _ _ h => h) (Or.inl ⟨by rfl, by rintro W' ⟨z0, z1, z2, z3⟩; go_simp; (try rw [if_neg kno3]); (try rw [HKR.out.1])⟩) hS ?_
            try simp only [Act.put, putA, putZ, putS]
            refine wpAnyZ_take (i := 12) (oi := ⟨some 174, _, _, _, _, _⟩) (v := ?_) rfl (by kernel_rfl) (by kernel_rfl) (by kernel_rfl) (fun _ _ _ h => h) (Or.inl ⟨by rfl, ?_⟩) hS ?_
            rotate_left
            · rintro W' ⟨z0, z1, z2, z3⟩; go_simp; try with_reducible rfl
            try simp only [Act.put, putA, putZ, putS]
            refine wpAnyZ_take (i := 13) (oi := ⟨some 175, _, _, _, _, _⟩) (v := ?_) rfl (by kernel_rfl) (by kernel_rfl) (by kernel_rfl) (fun _ _ _ h => h) (Or.inl ⟨by rfl, ?_⟩) hS ?_
            rotate_left
            · rintro W' ⟨z0, z1, z2, z3⟩; go_simp; try with_reducible rfl
            try simp only [Act.put, putA, putZ, putS]
            refine wpAnyZ_take (i := 14) (oi := ⟨some 176, _, _, _, _, _⟩) (v := ?_) rfl (by kernel_rfl) (by kernel_rfl) (by kernel_rfl) (fun _ _ _ h => h) (Or.inl ⟨by rfl, ?_⟩) hS ?_
            rotate_left
            · rintro W' ⟨z0, z1, z2, z3⟩; go_simp; try with_reducible rfl
            try simp only [Act.put, putA, putZ, putS]
            refine wpAnyZ_take (i := 15) (oi := ⟨some 177, _, _, _, _, _⟩) (v := ?_) rfl (by kernel_rfl) (by kernel_rfl) (by kernel_rfl) (fun _ _ _ h => h) (Or.inl ⟨by rfl, ?_⟩) hS ?_
            rotate_left
            · rintro W' ⟨z0, z1, z2, z3⟩; go_simp; try with_reducible rfl
            try simp only [Act.put, putA, putZ, putS]
            refine wpAnyZ_take (i := 16) (oi := ⟨some 178, _, _, _, _, _⟩) (v := ?_) rfl (by kernel_rfl) (by kernel_rfl) (by kernel_rfl) (fun _ _ _ h => h) (Or.inl ⟨by rfl, ?_⟩) hS ?_
            rotate_left
            · rintro W' ⟨z0, z1, z2, z3⟩; go_simp; try with_reducible rfl
            try simp only [Act.put, putA, putZ, putS]
            refine wpAnyZ_take (i := 17) (oi := ⟨some 179, _, _, _, _, _⟩) (v := ?_) rfl (by kernel_rfl) (by kernel_rfl) (by kernel_rfl) (fun _ _ _ h => h) (Or.inl ⟨by rfl, ?_⟩) hS ?_
            rotate_left
            · rintro W' ⟨z0, z1, z2, z3⟩; go_simp; try with_reducible rfl
            try simp only [Act.put, putA, putZ, putS]
            refine wpAnyZ_take (i := 18) (oi := ⟨some 180, _, _, _, _, _⟩) (v := .int .i64 ((y : Int) + (k : Int))) rfl (by kernel_rfl) (by kernel_rfl) (by kernel_rfl) (fun _ _ _ h => h) (Or.inl ⟨by rfl, by rintro W' ⟨z0, z1, z2, z3⟩; go_simp; try rw [ky]⟩) hS ?_
            try simp only [Act.put, putA, putZ, putS]
            refine wpAnyZ_take (i := 19) (oi := ⟨some 181, _, _, _, _, _⟩) (v := ?_) rfl (by kernel_rfl) (by kernel_rfl) (by kernel_rfl) (fun _ _ _ h => h) (Or.inl ⟨by rfl, ?_⟩) hS ?_
            rotate_left
            · rintro W' ⟨z0, z1, z2, z3⟩; go_simp; try with_reducible rfl
            try simp only [Act.put, putA, putZ, putS]
            refine wpAnyZ_take (i := 20) (oi := ⟨some 182, _, _, _, _, _⟩) (v := ?_) rfl (by kernel_rfl) (by kernel_rfl) (by kernel_rfl) (fun _ _ _ h => h) (Or.inl ⟨by rfl, ?_⟩) hS ?_
            rotate_left
            · rintro W' ⟨z0, z1, z2, z3⟩; go_simp; try with_reducible rfl
            try simp only [Act.put, putA, putZ, putS]
            refine wpAnyZ_take (i := 21) (oi := ⟨some 183, _, _, _, _, _⟩) (v := ?_) rfl (by kernel_rfl) (by kernel_rfl) (by kernel_rfl) (fun _ _ _ h => h) (Or.inl ⟨by rfl, ?_⟩) hS ?_
            rotate_left
            · rintro W' ⟨z0, z1, z2, z3⟩; go_simp; try with_reducible rfl
            try simp only [Act.put, putA, putZ, putS]
            refine wpAnyZ_take (i := 22) (oi := ⟨some 184, _, _, _, _, _⟩) (v := .int .i64 (y2 : Int)) rfl (by kernel_rfl) (by kernel_rfl) (by kernel_rfl) (fun _ _ _ h => h) (Or.inl ⟨by rfl, by rintro W' ⟨z0, z1, z2, z3⟩; go_simp; (try rw [if_neg knw3]); (try rw [HKR.out.2])⟩) hS ?_
            try simp only [Act.put, putA, putZ, putS]
            refine wpAnyZ_next (rs := [23]) (by kernel_rfl) (by simp) ?_
            refine NextZ.cons (o := ⟨some 185, _, _, _, _, _⟩) rfl (fun K hK => ?_) ?_
            ·
             go_simp
             refine (HHAS.out _ HAX.out.fr).mono ?_
             rintro _ X0 ⟨rfl, hb0⟩
             (try go_wp2_with fail)
             have HA0 := Lib.hid (HAX.out.below hb0)
             refine hK.out _ _ (⟨(HFC.out _ HA0.out.fr).1, (HFC.out _ HA0.out.fr).2, (HLC.out _ HA0.out.fr).1, (HLC.out _ HA0.out.fr).2⟩) (fun hS => ?_)
             clear hK K
             try simp only [Act.put, putA, putZ, putS]
             clear hb0
             refine wpAnyZ_take (i := 24) (oi := ⟨some 186, _, _, _, _, _⟩) (v := ?_) rfl (by kernel_rfl) (by kernel_rfl) (by kernel_rfl) (fun _ _ _ h => h) (Or.inl ⟨by rfl, ?_⟩) hS ?_
             rotate_left
             · rintro W' ⟨z0, z1, z2, z3⟩; go_simp; try with_reducible rfl
             try simp only [Act.put, putA, putZ, putS]
             refine wpAnyZ_done (by kernel_rfl) ?_ _
             have HX2 := Lib.hid (HA0.out)
             go_wp2_with fail
             go_roundw
             case rel => exact ⟨j + 1, by go_num, by omega, HX2.out.fr⟩
             case measure => simp [intOf]; omega
            exact NextZ.nil
          ·
            go_wp2_with fail
            refine (awake5_any _).mono ?_
            rintro _ wz ⟨rfl, hb⟩
            have HA9 := Lib.hid (HAB.out.below hb)
            clear hb
            go_wp2_with fail
            go_ret
            exact ⟨rfl, HBB.out.trans (HA9.out.fr.mono HBB.out.size)⟩
theorem linkOrder_walk (x : FV) (f : Fl) (na1 nb1 : Nat) (h256 : na1 < 256) (h257 : nb1 < 256) (w : World) (h : FlLaw w x f) : Calls Tryz.prog 9 #[.agg #[.slice x.oa f.no x.oc, .slice x.na f.nw x.nc, .slice x.ma f.nm x.mc], .int .u8 (na1 : Int), .int .u8 (nb1 : Int)] w fun e w' => e = .returned (.bool true) ∧ Below w.heap.size w w' := by
  cases hr : f.rdy
  · exact linkOrder_thick x f na1 nb1 w h.l hr
  · by_cases h0 : f.no = 0
    · exact linkOrder_noneo x f na1 nb1 w h.l hr h0
    · by_cases h1 : f.nw = 0
      · exact linkOrder_nonen x f na1 nb1 w h.l hr (by omega) h1
      · exact linkOrder_ok x f na1 nb1 _ _ w h.l hr h.co h.cn rfl rfl h256 h257 (Nat.mod_lt _ (by omega)) (Nat.mod_lt _ (by omega))
end Go.Proofs.YtgbdbikjckfgmaaGreat
