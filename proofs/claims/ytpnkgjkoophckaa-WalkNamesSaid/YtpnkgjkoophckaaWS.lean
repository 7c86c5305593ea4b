/- Walk: rest. Printed by gen_ws.py. -/
import Derived.Test.YtpnkgjkoophckaaWR
import Derived.Test.YtpnkgjkoophckaaWQ
namespace Go.Proofs.Ytpnkgjkoophckaa
open Go.RowKit Go.Shelf Go.Maps

theorem plc_zero : ∀ s : Fin 256, (plc s).length = 0 → (s : Nat) = 0 := by decide +kernel
theorem plc_off : ∀ s : Fin 256, ∀ n : Fin 8, (s : Nat).testBit n = true → (plc ((s : Nat) - 2 ^ (n : Nat))).length + 1 = (plc s).length := by decide +kernel
theorem plc_nil : (plc 0).length = 0 := by decide +kernel
/-- How many entries a call may make in the map. -/
def cR : Nat → Nat
  | 0 => 0
  | p + 1 => 1 + (p + 1) * cR p
theorem cR_le : ∀ p : Fin 9, cR p ≤ 200000 := by decide +kernel
def GivesS (W : World) (A bm n : Nat) (x : MV) (m : Mp) (r : R2) (e : Ending) (W' : World) : Prop := e = .returned (.agg #[.int .i64 r.1, .int .i64 r.2]) ∧ At W' A bm n x m ∧ Fr (fun q => q = bm) W W'
theorem field_leg (a b : Int) (W : World) : (Instr.field 161 (.agg #[.int .i64 a, .int .i64 b]) 0).run Try.prog W = .ok (.int .i64 a) W := by kernel_rfl
theorem field_leg2 (a b : Int) (W : World) : (Instr.field 161 (.agg #[.int .i64 a, .int .i64 b]) 1).run Try.prog W = .ok (.int .i64 b) W := by kernel_rfl
set_option maxRecDepth 100000 in
set_option maxHeartbeats 8000000 in
theorem rest0_any (x : MV) (m : Mp) (ok : OkM m) (A bm n a : Nat) (ha : a < m.nw) (w : World) (hst : At w A bm n x m) :
    Calls Try.prog 98 #[.pointer (some ⟨A, 0, none⟩), .agg #[.int .i64 (a : Int), .int .i64 0]] w (GivesS w A bm n x m (tmA m a 0, 0)) := by
  have hnw := ok.nw
  have HT : Hid (∀ X, Below w.heap.size w X → X.cell? ⟨A, 2 + a * 8, none⟩ = some (.int .i64 (tmA m a 0))) := fun X hX => (hst.below hX).tm (b := 0) ha (by omega) hnw.2
  have HST := Lib.hid hst
  clear hst ok
  generalize tmA m a 0 = ta at *
  unfold GivesS
  have ai : (0 : Int) ≤ (a : Int) := by omega
  have a8 : (a : Int) < 8 := by omega
  have HA0 : Hid (BF w ((w.alloc (.cells #[.int .i64 (a : Int), .int .i64 0] 164)).alloc (.cells #[.int .i64 0, .int .i64 0] 161)) [(w.heap.size, #[.int .i64 (a : Int), .int .i64 0], 164), (w.heap.size + 1, #[.int .i64 0, .int .i64 0], 161)]) := BF.made2 _ _ _ _ _
  have HC2 : Hid (∀ X, BF w X [(w.heap.size, #[.int .i64 (a : Int), .int .i64 0], 164), (w.heap.size + 1, #[.int .i64 0, .int .i64 0], 161)] → X.cell? ⟨w.heap.size, 0, none⟩ = some (.int .i64 (a : Int)) ∧ X.cell? ⟨A, 2 + a * 8, none⟩ = some (.int .i64 ta)) := fun X hX => ⟨hX.cell (.head _) 0, HT.out X hX.fr⟩
  go_enter Try.func98, Try.ntmps98
  go_upto_region 2 with fail
  generalize ((w.alloc (.cells #[.int .i64 (a : Int), .int .i64 0] 164)).alloc (.cells #[.int .i64 0, .int .i64 0] 161)) = w0 at *
  have HAX : Hid (BF w w0.drew [(w.heap.size, #[.int .i64 (a : Int), .int .i64 0], 164), (w.heap.size + 1, #[.int .i64 0, .int .i64 0], 161)]) := HA0.out.below (Below.refl _ _).drew
  refine wp_region_Z (S := fun X => X.cell? ⟨w.heap.size, 0, none⟩ = some (.int .i64 (a : Int)) ∧ X.cell? ⟨A, 2 + a * 8, none⟩ = some (.int .i64 ta)) (by kernel_rfl) (HC2.out _ HAX.out) (fun hS => ?_)
  generalize w0.drew = X at *
  refine tk [0, 1, 2, 3, 4, 5, 6, 7, 8] ?_
  repeat (refine tkZ (oi := ⟨_, _, _, _, _, _⟩) (v := ?_) rfl (by kernel_rfl) (by rfl) (fun _ _ _ h => h) hS ?_ ?_; rotate_left; (· rintro W' ⟨z0, z1⟩; go_simp; try with_reducible rfl); try simp only [Act.put, putA, putZ, putS])
  refine tk0 ?_
  refine wpAnyZ_next (rs := [9]) (by kernel_rfl) (by simp) ?_
  refine NextZ.last (o := ⟨none, _, _, _, _, _⟩) rfl (by kernel_rfl) (fun K hK => ?_)
  have e0 := HAX.out.cell (.tail _ (.head _)) 0
  have e1 := HAX.out.cell (.tail _ (.head _)) 1
  have f0 := HAX.out.thaw (.tail _ (.head _)) 0
  have f1 := HAX.out.thaw (.tail _ (.head _)) 1
  have HA0 := Lib.hid (BF.set2 HAX.out (.tail _ (.head _)) (.int .i64 ta) (.int .i64 0) (L' := [(w.heap.size, #[.int .i64 (a : Int), .int .i64 0], 164)]) (List.forall_mem_cons.2 ⟨⟨show w.heap.size ≠ w.heap.size + 1 by omega, (.head _)⟩, List.forall_mem_nil _⟩))
  go_simp
  refine hK.out _ _ ?_
  clear hK K
  (try simp only [Act.put])
  clear e0 e1 f0 f1
  refine wpAnyZ_done (by kernel_rfl) ?_ _
  go_wp2_with fail
  have e0 := HA0.out.cell (.head _) 0
  have e1 := HA0.out.cell (.head _) 1
  exact bodyPost_ret (v := .agg #[.int .i64 ta, .int .i64 0]) (by simp [results, Try.results98, go_sem, e0, e1]) rfl ⟨rfl, HST.out.below HA0.out.fr, Fr.below HA0.out.fr _⟩
set_option maxRecDepth 100000 in
set_option maxHeartbeats 16000000 in
theorem rest_step (x : MV) (m : Mp) (ok : OkM m) (A bm p M : Nat) (hM : M ≤ 2000000000000000000)
    (ih : ∀ s', (plc s').length = p → s' < 2 ^ m.nw → ∀ a', a' < m.nw → ∀ n', n' ≤ M + 2000000 → ∀ W, At W A bm n' x m → Calls Try.prog 98 #[.pointer (some ⟨A, 0, none⟩), .agg #[.int .i64 (a' : Int), .int .i64 (s' : Int)]] W (GivesS W A bm (n' + cR p) x m (rest (tmA m) a' s')))
    (s : Nat) (hp : (plc s).length = p + 1) (hs : s < 2 ^ m.nw) (a : Nat) (ha : a < m.nw) (n : Nat) (hn : n ≤ M) (w : World) (hst : At w A bm n x m) :
    Calls Try.prog 98 #[.pointer (some ⟨A, 0, none⟩), .agg #[.int .i64 (a : Int), .int .i64 (s : Int)]] w (GivesS w A bm (n + cR (p + 1)) x m (rest (tmA m) a s)) := by
  have hnw := ok.nw
  have hs8 : s < 256 := Nat.lt_of_lt_of_le hs (Nat.pow_le_pow_right (by decide) hnw.2)
  have hs0 : s ≠ 0 := fun e => by rw [e, plc_nil] at hp; omega
  have hp8 : p ≤ 7 := by have := plcN_len 8 s; unfold plc at hp; omega
  have hcR := cR_le ⟨p, by omega⟩
  simp only at hcR
  have HCS : Hid (cR (p + 1) = 1 + (p + 1) * cR p) := rfl
  have htb : TmBd m.nw (tmA m) := fun a b ha hb => tmA_bd ok ha hb
  have HRB : Hid (∀ a' s', a' < m.nw → s' < 2 ^ m.nw → 0 ≤ (rest (tmA m) a' s').1 ∧ (rest (tmA m) a' s').1 ≤ 1048576) := fun a' s' h1 h2 => rest_bd htb (by omega) s' s' a' (Nat.le_refl _) h2 h1
  have HTB := Lib.hid htb
  have hA : A < w.heap.size := hst.ab.lt
  have hbm : bm < w.heap.size := hst.cm.lt
  have HSW := Lib.hid hst
  have HIH := Lib.hid ih
  have HRE := Lib.hid (rest_eq (tmA m) a hs0)
  obtain ⟨D, hD, hown⟩ := hst.cm
  obtain ⟨h, hlk⟩ := look_cm hD (c := a) (g := s) (by omega) (by omega)
  have HF : Hid (rsM m (a : Int) (s : Int) = rest (tmA m) a s) := by unfold Hid rsM; rw [Int.toNat_natCast, Int.toNat_natCast]
  rw [HF.out] at hlk
  obtain ⟨rr, HRR⟩ : ∃ rr, Hid (rest (tmA m) a s = rr) := ⟨_, rfl⟩
  rw [HRR.out] at hlk HF HRE ⊢
  obtain ⟨v, HV⟩ : ∃ v : Nat → Int, Hid ((fun n => tmA m a n + (rest (tmA m) n (s - 2 ^ n)).1) = v) := ⟨_, rfl⟩
  rw [HV.out] at HRE
  have HVN : Hid (∀ k, v k = tmA m a k + (rest (tmA m) k (s - 2 ^ k)).1) := fun k => (congrFun HV.out k).symm
  clear HRR HV htb ih hst
  obtain ⟨p1, hp1⟩ : ∃ q, q = if h then rr.1 else 0 := ⟨_, rfl⟩
  obtain ⟨q1, hq1⟩ : ∃ q, q = if h then rr.2 else 0 := ⟨_, rfl⟩
  have HLK : Hid (∀ W, W.ownsMap Try.prog 164 rgR bm n D → (Instr.lookup 133 (.map (some bm)) (.agg #[.int .i64 (a : Int), .int .i64 (s : Int)]) true).run Try.prog W = .ok (.tuple #[.agg #[.int .i64 p1, .int .i64 q1], .bool h]) W) := fun W hW => by
    have := hlk W bm n hW
    rw [hp1, hq1]; exact this
  have HPQ := Lib.hid (And.intro hp1 hq1)
  clear hp1 hq1 hlk
  unfold GivesS
  have HA0 : Hid (BF w ((w.alloc (.cells #[.int .i64 (a : Int), .int .i64 (s : Int)] 164)).alloc (.cells #[.int .i64 0, .int .i64 0] 161)) [(w.heap.size, #[.int .i64 (a : Int), .int .i64 (s : Int)], 164), (w.heap.size + 1, #[.int .i64 0, .int .i64 0], 161)]) := BF.made2 _ _ _ _ _
  have HC3 : Hid (∀ X, BF w X [(w.heap.size, #[.int .i64 (a : Int), .int .i64 (s : Int)], 164), (w.heap.size + 1, #[.int .i64 0, .int .i64 0], 161)] → X.cell? ⟨w.heap.size, 0, none⟩ = some (.int .i64 (a : Int)) ∧ X.cell? ⟨w.heap.size, 1, none⟩ = some (.int .i64 (s : Int)) ∧ X.cell? ⟨A, 130, none⟩ = some (.map (some bm)) ∧ X.ownsMap Try.prog 164 rgR bm n D) := fun X hX => ⟨hX.cell (.head _) 0, hX.cell (.head _) 1, (HSW.out.below hX.fr).mapc, hown.kept (row := none) ⟨hX.fr.1, hX.fr.2, hX.fr.3, hX.fr.size, fun k hk _ => hX.fr.block k hk⟩ (by simp)⟩
  have s0 : ((s : Int) == 0) = false := by simp; omega
  go_enter Try.func98, Try.ntmps98
  go_upto_region 3 with fail
  generalize ((w.alloc (.cells #[.int .i64 (a : Int), .int .i64 (s : Int)] 164)).alloc (.cells #[.int .i64 0, .int .i64 0] 161)) = w0 at *
  go_cut [5, 6] (fun s5 s6 wx => ∃ BN : Nat, s5 = .pointer (some ⟨BN, 0, none⟩) ∧ s6 = .bool h ∧ BF w wx ((BN, #[.int .i64 p1, .int .i64 q1], 161) :: [(w.heap.size, #[.int .i64 (a : Int), .int .i64 (s : Int)], 164), (w.heap.size + 1, #[.int .i64 0, .int .i64 0], 161)]))
  case first =>
    have HAX : Hid (BF w w0.drew [(w.heap.size, #[.int .i64 (a : Int), .int .i64 (s : Int)], 164), (w.heap.size + 1, #[.int .i64 0, .int .i64 0], 161)]) := HA0.out.below (Below.refl _ _).drew
    refine wp_region_held_drew (S := fun X => X.cell? ⟨w.heap.size, 0, none⟩ = some (.int .i64 (a : Int)) ∧ X.cell? ⟨w.heap.size, 1, none⟩ = some (.int .i64 (s : Int)) ∧ X.cell? ⟨A, 130, none⟩ = some (.map (some bm)) ∧ X.ownsMap Try.prog 164 rgR bm n D) (by kernel_rfl) (HC3.out _ HAX.out) (fun hS => ?_)
    generalize w0.drew = X at *
    clear HA0
    refine tk [0, 1, 2, 3, 4] ?_
    repeat (refine tkH (oi := ⟨_, _, _, _, _, _⟩) (v := ?_) rfl (by kernel_rfl) (by rfl) (fun _ _ _ h => h) hS ?_ ?_; rotate_left; (· rintro W' ⟨z0, z1, z2, z3⟩; go_simp; try with_reducible rfl); try simp only [Act.put, putA, putZ, putS])
    refine tk0 ?_
    refine tH 5 (oi := ⟨_, _, _, _, _, _⟩) (v := .tuple #[.agg #[.int .i64 p1, .int .i64 q1], .bool h]) rfl (by kernel_rfl) (by rfl) (fun _ _ _ h => h) hS ?_ ?_
    · rintro W' ⟨z0, z1, z2, z3⟩; have hl := HLK.out W' z3; go_simp
    try simp only [Act.put, putA, putZ, putS]
    refine tk [6, 7, 8] ?_
    repeat (refine tkH (oi := ⟨_, _, _, _, _, _⟩) (v := ?_) rfl (by kernel_rfl) (by rfl) (fun _ _ _ h => h) hS ?_ ?_; rotate_left; (· rintro W' ⟨z0, z1, z2, z3⟩; go_simp; try with_reducible rfl); try simp only [Act.put, putA, putZ, putS])
    refine tk0 ?_
    refine wpAnyH_ready (rs := [9]) (by kernel_rfl) (by simp) ?_
    refine AllReadyH.cons (o := ⟨some 5, _, _, _, _, _⟩) rfl (fun K hK => ?_) AllReadyH.nil
    go_simp
    have HA0 := Lib.hid (HAX.out.alloc #[.int .i64 0, .int .i64 0] 161)
    have hn0K := (HAX.out.lt (.head _)).2
    have hn0R := (HAX.out.lt (.tail _ (.head _))).2
    have hn0_ := HAX.out.fr.size
    refine hK.out _ _ (HC3.out _ (HA0.out.sub (List.forall_mem_cons.2 ⟨(.tail _ (.head _)), List.forall_mem_cons.2 ⟨(.tail _ (.tail _ (.head _))), List.forall_mem_nil _⟩⟩))) (fun hS => ?_)
    clear hK K
    try simp only [Act.put, putA, putZ, putS]
    generalize X.heap.size = V0 at *
    generalize (X.alloc (.cells #[.int .i64 0, .int .i64 0] 161)) = X0 at *
    refine wpAnyH_ready (rs := [10]) (by kernel_rfl) (by simp) ?_
    refine AllReadyH.cons (o := ⟨none, _, _, _, _, _⟩) rfl (fun K hK => ?_) AllReadyH.nil
    have e0 := HA0.out.cell (.head _) 0
    have e1 := HA0.out.cell (.head _) 1
    have f0 := HA0.out.thaw (.head _) 0
    have f1 := HA0.out.thaw (.head _) 1
    have HA1 := Lib.hid (BF.set2 HA0.out (.head _) (.int .i64 p1) (.int .i64 q1) (L' := [(w.heap.size, #[.int .i64 (a : Int), .int .i64 (s : Int)], 164), (w.heap.size + 1, #[.int .i64 0, .int .i64 0], 161)]) (List.forall_mem_cons.2 ⟨⟨show w.heap.size ≠ V0 by omega, (.tail _ (.head _))⟩, List.forall_mem_cons.2 ⟨⟨show w.heap.size + 1 ≠ V0 by omega, (.tail _ (.tail _ (.head _)))⟩, List.forall_mem_nil _⟩⟩))
    go_simp
    refine hK.out _ _ (HC3.out _ (HA1.out.sub (List.forall_mem_cons.2 ⟨(.tail _ (.head _)), List.forall_mem_cons.2 ⟨(.tail _ (.tail _ (.head _))), List.forall_mem_nil _⟩⟩))) (fun hS => ?_)
    clear hK K
    (try simp only [Act.put])
    clear e0 e1 f0 f1
    refine tH 11 (oi := ⟨_, _, _, _, _, _⟩) (v := ?_) rfl (by kernel_rfl) (by rfl) (fun _ _ _ h => h) hS ?_ ?_
    rotate_left
    · rintro W' ⟨z0, z1, z2, z3⟩; go_simp; try with_reducible rfl
    try simp only [Act.put, putA, putZ, putS]
    refine wpAnyH_done (by kernel_rfl) ?_ _
    go_wp2_with fail
    go_meet
    exact ⟨V0, rfl, rfl, HA1.out.sub (List.forall_mem_cons.2 ⟨(.head _), List.forall_mem_cons.2 ⟨(.tail _ (.head _)), List.forall_mem_cons.2 ⟨(.tail _ (.tail _ (.head _))), List.forall_mem_nil _⟩⟩⟩)⟩
  case rest =>
    obtain ⟨BN, rfl, rfl, hbf⟩ := hcut
    have HBF := Lib.hid hbf
    clear hbf HA0 HC3 HLK hown hD D
    cases h
    · have HAF : Hid (AF w wc A bm n x m ((BN, #[.int .i64 p1, .int .i64 q1], 161) :: [(w.heap.size, #[.int .i64 (a : Int), .int .i64 (s : Int)], 164), (w.heap.size + 1, #[.int .i64 0, .int .i64 0], 161)])) := ⟨HSW.out.below HBF.out.fr, Fr.below HBF.out.fr _, HBF.out.bk⟩
      have b0 := HAF.out.cell (.tail _ (.head _)) 0
      have b1 := HAF.out.cell (.tail _ (.head _)) 1
      have hb0 := (HAF.out.lt (.tail _ (.head _))).2
      have hb0' := (HAF.out.lt (.tail _ (.tail _ (.head _)))).2
      have hbw := HAF.out.fr.size
      have HAF1 : Hid (AF w (wc.alloc (.cells #[.int .i64 1048576, .int .i64 (-1)] 161)) A bm n x m ((wc.heap.size, #[.int .i64 1048576, .int .i64 (-1)], 161) :: [(w.heap.size, #[.int .i64 (a : Int), .int .i64 (s : Int)], 164), (w.heap.size + 1, #[.int .i64 0, .int .i64 0], 161)])) := (HAF.out.alloc hbm #[.int .i64 1048576, .int .i64 (-1)] 161).sub (List.forall_mem_cons.2 ⟨.head _, List.forall_mem_cons.2 ⟨.tail _ (.tail _ (.head _)), List.forall_mem_cons.2 ⟨.tail _ (.tail _ (.tail _ (.head _))), List.forall_mem_nil _⟩⟩⟩)
      clear HBF HAF HPQ
      go_wp2_with (go_at_call 99; refine (list_any s hs8 _).mono ?_; rintro _ w1 ⟨la, lc, rfl, how, hb1⟩; have HAF2 := Lib.hid (HAF1.out.below hbm hb1); have HOW := Lib.hid how; clear how hb1)
      generalize hB3 : wc.heap.size = B3 at *
      generalize wc.alloc (.cells #[.int .i64 1048576, .int .i64 (-1)] 161) = w6 at *
      clear b0 b1 HAF1
      obtain ⟨g, rfl⟩ : ∃ g, la = some ⟨g, 0, none⟩ := by obtain ⟨g, h⟩ := own_somep HOW.out (by omega); exact ⟨g, h⟩
      obtain ⟨L, HL⟩ : ∃ L, Hid (plc s = L) := ⟨_, rfl⟩
      have HLM : Hid (∀ j, j < p + 1 → ∃ nn : Nat, L.getD j 0 = nn ∧ nn < 8 ∧ s.testBit nn = true ∧ nn < m.nw ∧ (plc (s - 2 ^ nn)).length = p ∧ bits BinOp.andNot IntKind.i64 (s : Int) (IntKind.i64.wrap (2 ^ nn)) = ((s - 2 ^ nn : Nat) : Int)) := fun j hj => by
        have h1 : L.getD j 0 ∈ plc s := by rw [HL.out, List.getD_eq_getElem?_getD, List.getElem?_eq_getElem (by rw [← HL.out]; omega)]; exact List.getElem_mem _
        obtain ⟨h2, h3⟩ := plc_mem.1 h1
        have h4 := plc_off ⟨s, hs8⟩ ⟨L.getD j 0, h2⟩ h3
        exact ⟨_, rfl, h2, h3, sub_sub hs h3, by simp only at h4; omega, bit_off ⟨s, hs8⟩ ⟨L.getD j 0, h2⟩ h3⟩
      rw [HL.out] at HRE HOW hp
      rw [hp] at HOW
      have HLX := Lib.hid (fun j (hj : j < L.length) => nL_get hj)
      rw [hp] at HLX
      clear HL hs0
      go_wp2_with fail
      go_loopw [39] (fun i wr => ∃ j : Nat, i = .int .i64 j ∧ j ≤ p + 1 ∧ AF w wr A bm (n + j * cR p) x m ((B3, #[.int .i64 (bestL v (L.take j)).1, .int .i64 (bestL v (L.take j)).2], 161) :: [(w.heap.size, #[.int .i64 (a : Int), .int .i64 (s : Int)], 164), (w.heap.size + 1, #[.int .i64 0, .int .i64 0], 161)]) ∧ wr.ownsRow w6.heap.size 3 1 (.slice (some ⟨g, 0, none⟩) (p + 1) lc) (p + 1) (nL L)) (fun i _ => p + 1 - (intOf i).toNat)
      case atStart => exact ⟨0, rfl, Nat.zero_le _, by rw [Nat.zero_mul, Nat.add_zero]; exact HAF2.out, HOW.out⟩
      case round =>
        clear HAF2 HOW
        obtain ⟨j, rfl, hj, haf, how⟩ := hrel
        rename World => wx
        have HAF3 := Lib.hid haf; have HOW3 := Lib.hid how
        clear haf how
        by_cases hlt : j < p + 1
        · obtain ⟨nn, hnn, hn8, hbit, hnw2, hpl, hoff⟩ := HLM.out j hlt
          have hc0 := (HOW3.out.cellAt j (by omega)).trans (HLX.out j hlt)
          rw [hnn] at hc0
          have HTK : Hid (L.take (j + 1) = L.take j ++ [nn]) := by
            unfold Hid
            rw [List.take_add_one, ← hnn, List.getD_eq_getElem?_getD, List.getElem?_eq_getElem (by omega)]; rfl
          have HBS := Lib.hid (bestL_snoc v (L.take j) nn)
          rw [← HTK.out] at HBS
          have h2 := testBit_le hbit
          have hs2 : s - 2 ^ nn < 2 ^ m.nw := Nat.lt_of_le_of_lt (Nat.sub_le _ _) hs
          have HI1 := Lib.hid (HIH.out (s - 2 ^ nn) hpl hs2 nn hnw2)
          have hvn := HVN.out nn
          have hb1 := HTB.out a nn ha hnw2
          have hb2 := HRB.out nn (s - 2 ^ nn) hnw2 hs2
          have HT10 : Hid (∀ X, At X A bm (n + j * cR p) x m → X.cell? ⟨A, 2 + a * 8 + nn, none⟩ = some (.int .i64 (tmA m a nn))) := fun X hX => hX.tm ha hnw2 hnw.2
          have HT11 : Hid (∀ n' X, At X A bm n' x m → X.cell? ⟨A, 2 + a * 8 + nn, none⟩ = some (.int .i64 (tmA m a nn))) := fun n' X hX => hX.tm ha hnw2 hnw.2
          generalize hrs : rest (tmA m) nn (s - 2 ^ nn) = rs at *
          clear hrs
          obtain ⟨e1, e2⟩ := rs
          simp only at hvn hb2
          generalize tmA m a nn = ta at *
          have hw1 : IntKind.i64.wrap (ta + e1) = ta + e1 := IntWalk.i64_in _ (by omega)
          generalize hbb : bestL v (L.take j) = bb at *
          obtain ⟨bb1, bb2⟩ := bb
          simp only at HBS HAF3
          have ai : (0 : Int) ≤ (a : Int) := by omega
          have a8 : (a : Int) < 8 := by omega
          have ni : (0 : Int) ≤ (nn : Int) := by omega
          have n8 : (nn : Int) < 8 := by omega
          have ji : (0 : Int) ≤ (j : Int) := by omega
          have jj : (j : Int) < (p : Int) + 1 := by omega
          have hjc : j * cR p ≤ 8 * 200000 := Nat.mul_le_mul (by omega) hcR
          have hjn : n + j * cR p ≤ M + 2000000 := by omega
          have HOF := Lib.hid hoff
          unfold GivesS at HI1
          clear hbb hoff hpl h2 hs2
          go_upto_region 10 with fail
          have HAX : Hid (AF w wx.drew A bm (n + j * cR p) x m ((B3, #[.int .i64 bb1, .int .i64 bb2], 161) :: [(w.heap.size, #[.int .i64 (a : Int), .int .i64 (s : Int)], 164), (w.heap.size + 1, #[.int .i64 0, .int .i64 0], 161)])) := HAF3.out.below hbm (Below.refl _ _).drew
          have HOX : Hid (wx.drew.ownsRow w6.heap.size 3 1 (.slice (some ⟨g, 0, none⟩) (p + 1) lc) (p + 1) (nL L)) := own_below HOW3.out (Below.refl _ _).drew
          refine wp_region_held_drew (S := fun X => X.cell? ⟨w.heap.size, 0, none⟩ = some (.int .i64 (a : Int)) ∧ X.cell? ⟨w.heap.size, 1, none⟩ = some (.int .i64 (s : Int)) ∧ X.cell? ⟨A, 2 + a * 8 + nn, none⟩ = some (.int .i64 ta)) (by kernel_rfl) ⟨HAX.out.cell (.tail _ (.head _)) 0, HAX.out.cell (.tail _ (.head _)) 1, HT10.out _ HAX.out.st⟩ (fun hS => ?_)
          generalize wx.drew = X at *
          clear HAF3 HOW3 hc0
          refine tk [0, 1, 2, 3, 4, 5, 6, 7, 8, 9, 10, 11, 12, 13, 14] ?_
          repeat (refine tkH (oi := ⟨_, _, _, _, _, _⟩) (v := ?_) rfl (by kernel_rfl) (by rfl) (fun _ _ _ h => h) hS ?_ ?_; rotate_left; (· rintro W' ⟨z0, z1, z2⟩; go_simp; try with_reducible rfl); try simp only [Act.put, putA, putZ, putS])
          refine tk0 ?_
          refine tH 15 (oi := ⟨_, _, _, _, _, _⟩) (v := .int .i64 ((s - 2 ^ nn : Nat) : Int)) rfl (by kernel_rfl) (by rfl) (fun _ _ _ h => h) hS ?_ ?_
          · rintro W' ⟨z0, z1, z2⟩; go_simp; exact HOF.out
          try simp only [Act.put, putA, putZ, putS]
          refine tH 16 (oi := ⟨_, _, _, _, _, _⟩) (v := ?_) rfl (by kernel_rfl) (by rfl) (fun _ _ _ h => h) hS ?_ ?_
          rotate_left
          · rintro W' ⟨z0, z1, z2⟩; go_simp; try with_reducible rfl
          try simp only [Act.put, putA, putZ, putS]
          refine wpAnyH_ready (rs := [17]) (by kernel_rfl) (by simp) ?_
          refine AllReadyH.cons (o := ⟨some 60, _, _, _, _, _⟩) rfl (fun K hK => ?_) AllReadyH.nil
          go_simp
          refine (HI1.out (n + j * cR p) hjn X HAX.out.st).mono ?_
          rintro _ X0 ⟨rfl, hs0, hf0⟩
          (try go_wp2_with fail)
          have HA0 := Lib.hid (HAX.out.go hbm hf0 hs0)
          have HOY : Hid (X0.ownsRow w6.heap.size 3 1 (.slice (some ⟨g, 0, none⟩) (p + 1) lc) (p + 1) (nL L)) := own_fr HOX.out hf0 (fun g' cur _ _ hc e => by subst e; obtain ⟨es, kk, hm⟩ := HAX.out.st.cm.mp; rw [hm] at hc; cases hc)
          refine hK.out _ _ ⟨HA0.out.cell (.tail _ (.head _)) 0, HA0.out.cell (.tail _ (.head _)) 1, HT11.out _ _ HA0.out.st⟩ (fun hS => ?_)
          clear hK K
          try simp only [Act.put, putA, putZ, putS]
          clear hf0 hs0
          refine tH 18 (oi := ⟨_, _, _, _, _, _⟩) (v := .int .i64 e1) rfl (by kernel_rfl) (by rfl) (fun _ _ _ h => h) hS ?_ ?_
          · rintro W' ⟨z0, z1, z2⟩; have hq := field_leg e1 e2 W'; go_simp
          try simp only [Act.put, putA, putZ, putS]
          refine tk [19, 20] ?_
          repeat (refine tkH (oi := ⟨_, _, _, _, _, _⟩) (v := ?_) rfl (by kernel_rfl) (by rfl) (fun _ _ _ h => h) hS ?_ ?_; rotate_left; (· rintro W' ⟨z0, z1, z2⟩; go_simp; try with_reducible rfl); try simp only [Act.put, putA, putZ, putS])
          refine tk0 ?_
          refine wpAnyH_done (by kernel_rfl) ?_ _
          have b0 := HA0.out.cell (.head _) 0
          have HAN : Hid (AF w X0 A bm (n + (j + 1) * cR p) x m ((B3, #[.int .i64 bb1, .int .i64 bb2], 161) :: [(w.heap.size, #[.int .i64 (a : Int), .int .i64 (s : Int)], 164), (w.heap.size + 1, #[.int .i64 0, .int .i64 0], 161)])) := HA0.out.mono (by rw [Nat.succ_mul]; omega)
          clear hS
          by_cases hcmp : ta + e1 < bb1
          · have HBN : Hid (bestL v (L.take (j + 1)) = (ta + e1, (nn : Int))) := by unfold Hid; rw [HBS.out, hvn, if_pos hcmp]
            have b1 := HA0.out.cell (.head _) 1
            have f0 := HA0.out.thaw (.head _) 0
            have f1 := HA0.out.thaw (.head _) 1
            have HAS := Lib.hid (AF.set2 HSW.out HAN.out (.head _) (.int .i64 (ta + e1)) (.int .i64 (nn : Int)) (L' := [(w.heap.size, #[.int .i64 (a : Int), .int .i64 (s : Int)], 164), (w.heap.size + 1, #[.int .i64 0, .int .i64 0], 161)]) (List.forall_mem_cons.2 ⟨⟨show w.heap.size ≠ B3 by omega, .tail _ (.head _)⟩, List.forall_mem_cons.2 ⟨⟨show w.heap.size + 1 ≠ B3 by omega, .tail _ (.tail _ (.head _))⟩, List.forall_mem_nil _⟩⟩))
            have HOS := Lib.hid (own_fr HOY.out ((Go.Proofs.Ytpnkgjkoophckaa.set2 (HAN.out.bk _ _ _ (.head _)).2 (.int .i64 (ta + e1)) (.int .i64 (nn : Int))).2) (fun g' cur _ _ hc e => by subst e; rw [(HAN.out.bk _ _ _ (.head _)).2] at hc; cases hc))
            go_wp2_with fail
            go_roundw
            case rel => exact ⟨j + 1, by go_num, by omega, by rw [HBN.out]; exact HAS.out, HOS.out⟩
            case measure => simp [intOf]; omega
          · have HBN : Hid (bestL v (L.take (j + 1)) = (bb1, bb2)) := by unfold Hid; rw [HBS.out, hvn, if_neg hcmp]
            go_wp2_with fail
            go_roundw
            case rel => exact ⟨j + 1, by go_num, by omega, by rw [HBN.out]; exact HAN.out, HOY.out⟩
            case measure => simp [intOf]; omega
        · obtain rfl : j = p + 1 := by omega
          rw [← hp, List.take_length, ← HRE.out] at HAF3
          rw [hp] at HAF3
          obtain ⟨rr1, rr2⟩ := rr
          simp only at HAF3
          have HHF : Hid (rsM m (a : Int) (s : Int) = (rr1, rr2)) := HF.out
          have hcc : (p + 1) * cR p ≤ 8 * 200000 := Nat.mul_le_mul (by omega) hcR
          clear HIH HRE HVN HLM HLX HRB HTB HOW3
          go_upto_region 14 with fail
          have HAX : Hid (AF w wx.drew A bm (n + (p + 1) * cR p) x m ((B3, #[.int .i64 rr1, .int .i64 rr2], 161) :: [(w.heap.size, #[.int .i64 (a : Int), .int .i64 (s : Int)], 164), (w.heap.size + 1, #[.int .i64 0, .int .i64 0], 161)])) := HAF3.out.below hbm (Below.refl _ _).drew
          refine wp_region_Z (S := fun X => X.cell? ⟨A, 130, none⟩ = some (.map (some bm)) ∧ X.cell? ⟨w.heap.size, 0, none⟩ = some (.int .i64 (a : Int)) ∧ X.cell? ⟨w.heap.size, 1, none⟩ = some (.int .i64 (s : Int)) ∧ X.cell? ⟨B3, 0, none⟩ = some (.int .i64 rr1) ∧ X.cell? ⟨B3, 1, none⟩ = some (.int .i64 rr2)) (by kernel_rfl) ⟨HAX.out.st.mapc, HAX.out.cell (.tail _ (.head _)) 0, HAX.out.cell (.tail _ (.head _)) 1, HAX.out.cell (.head _) 0, HAX.out.cell (.head _) 1⟩ (fun hS => ?_)
          generalize wx.drew = X at *
          clear HAF3
          refine tk [0, 1, 2, 3, 4, 5] ?_
          repeat (refine tkZ (oi := ⟨_, _, _, _, _, _⟩) (v := ?_) rfl (by kernel_rfl) (by rfl) (fun _ _ _ h => h) hS ?_ ?_; rotate_left; (· rintro W' ⟨z0, z1, z2, z3, z4⟩; go_simp; try with_reducible rfl); try simp only [Act.put, putA, putZ, putS])
          refine tk0 ?_
          refine wpAnyZ_next (rs := [6]) (by kernel_rfl) (by simp) ?_
          refine NextZ.last (o := ⟨none, _, _, _, _, _⟩) rfl (by kernel_rfl) (fun K hK => ?_)
          refine step_update_cm (by rfl) (.tmp 74) (.tmp 75) (.tmp 76) (by rfl) (a : Int) (s : Int) (by omega) (by omega) (rsM m) bm (n + (p + 1) * cR p) (by unfold maxLen; omega) (by rfl) HAX.out.st.cm (by rfl) (by rw [HHF.out]; rfl) ?_
          intro Y hcm hgr
          have hfr : Fr (fun q => q = bm) X Y := (Fr.grown hgr).mono (fun k _ e => (Option.some.inj e).symm)
          have HAY : Hid (AF w Y A bm (n + (p + 1) * cR p + 1) x m ((B3, #[.int .i64 rr1, .int .i64 rr2], 161) :: [(w.heap.size, #[.int .i64 (a : Int), .int .i64 (s : Int)], 164), (w.heap.size + 1, #[.int .i64 0, .int .i64 0], 161)])) := HAX.out.go hbm hfr ⟨HAX.out.st.ab.same (hfr.block _ HAX.out.st.ab.lt HAX.out.st.ne), HAX.out.st.mp.fr hfr HAX.out.st.cm.mp, hcm⟩
          clear hcm hgr hfr
          refine hK.out _ _ ?_
          clear hK K
          (try simp only [Act.put])
          refine wpAnyZ_done (by kernel_rfl) ?_ _
          have c0 := HAY.out.cell (.head _) 0; have c1 := HAY.out.cell (.head _) 1
          have e0 := HAY.out.cell (.tail _ (.tail _ (.head _))) 0; have e1 := HAY.out.cell (.tail _ (.tail _ (.head _))) 1
          have f0 := HAY.out.thaw (.tail _ (.tail _ (.head _))) 0; have f1 := HAY.out.thaw (.tail _ (.tail _ (.head _))) 1
          have HA2 := Lib.hid (AF.set2 HSW.out HAY.out (.tail _ (.tail _ (.head _))) (.int .i64 rr1) (.int .i64 rr2) (L' := []) (List.forall_mem_nil _))
          go_wp2_with fail
          have g0 := HA2.out.cell (.head _) 0
          have g1 := HA2.out.cell (.head _) 1
          exact bodyPost_ret (v := .agg #[.int .i64 rr1, .int .i64 rr2]) (by simp [results, Try.results98, go_sem, g0, g1]) rfl ⟨rfl, HA2.out.st.mono (by rw [HCS.out]; omega), HA2.out.fr⟩
    · obtain ⟨hp1, hq1⟩ := HPQ.out
      simp only [if_true] at hp1 hq1
      subst hp1 hq1
      obtain ⟨rr1, rr2⟩ := rr
      simp only at HBF
      have c0 := HBF.out.cell (.head _) 0; have c1 := HBF.out.cell (.head _) 1
      have e0 := HBF.out.cell (.tail _ (.tail _ (.head _))) 0; have e1 := HBF.out.cell (.tail _ (.tail _ (.head _))) 1
      have f0 := HBF.out.thaw (.tail _ (.tail _ (.head _))) 0; have f1 := HBF.out.thaw (.tail _ (.tail _ (.head _))) 1
      have HA2 := Lib.hid (HBF.out.set2 (.tail _ (.tail _ (.head _))) (.int .i64 rr1) (.int .i64 rr2) (L' := []) (List.forall_mem_nil _))
      clear HPQ HIH HRE HVN HRB HTB
      go_wp2_with fail
      have g0 := HA2.out.cell (.head _) 0
      have g1 := HA2.out.cell (.head _) 1
      exact bodyPost_ret (v := .agg #[.int .i64 rr1, .int .i64 rr2]) (by simp [results, Try.results98, go_sem, g0, g1]) rfl ⟨rfl, (HSW.out.below HA2.out.fr).mono (by omega), Fr.below HA2.out.fr _⟩
theorem rest_ind {m : Mp} (ok : OkM m) (x : MV) (A bm : Nat) : ∀ (p : Nat), p ≤ 8 → ∀ s, (plc s).length = p → s < 2 ^ m.nw → ∀ a, a < m.nw → ∀ n, n ≤ 1000000000000000000 + (8 - p) * 2000000 → ∀ w, At w A bm n x m → Calls Try.prog 98 #[.pointer (some ⟨A, 0, none⟩), .agg #[.int .i64 (a : Int), .int .i64 (s : Int)]] w (GivesS w A bm (n + cR p) x m (rest (tmA m) a s))
  | 0, _, s, hp, hs, a, ha, n, _, w, hw => by
    have h8 : s < 256 := Nat.lt_of_lt_of_le hs (Nat.pow_le_pow_right (by decide) ok.nw.2)
    have h0 := plc_zero ⟨s, h8⟩ hp
    simp only at h0
    subst h0
    exact rest0_any x m ok A bm n a ha w hw
  | p + 1, h8, s, hp, hs, a, ha, n, hn, w, hw =>
    rest_step x m ok A bm p (1000000000000000000 + (8 - (p + 1)) * 2000000) (by omega) (fun s' hp' hs' a' ha' n' hn' W hW => rest_ind ok x A bm p (by omega) s' hp' hs' a' ha' n' (by omega) W hW) s hp hs a ha n hn w hw
theorem rest_any {m : Mp} (ok : OkM m) (x : MV) (A bm s a n : Nat) (hs : s < 2 ^ m.nw) (ha : a < m.nw) (hn : n ≤ 1000000000000000000) (w : World) (hw : At w A bm n x m) :
    Calls Try.prog 98 #[.pointer (some ⟨A, 0, none⟩), .agg #[.int .i64 (a : Int), .int .i64 (s : Int)]] w (GivesS w A bm (n + 200000) x m (rest (tmA m) a s)) := by
  have h8 : (plc s).length ≤ 8 := plcN_len 8 s
  refine (rest_ind ok x A bm _ h8 s rfl hs a ha n (by omega) w hw).mono ?_
  rintro e w' ⟨h1, h2, h3⟩
  have := cR_le ⟨(plc s).length, by omega⟩
  exact ⟨h1, h2.mono (by simp only at this; omega), h3⟩
end Go.Proofs.Ytpnkgjkoophckaa
