/- FlowLeft: the walk. Printed by gen_jm.py. -/
import Derived.Test.YtjaoflfophcibaaJL
import Derived.Test.YtjaoflfophcibaaJO
import Derived.Test.YtjaoflfophcibaaPL
namespace Go.Proofs.Ytjaoflfophcibaa
open Go.RowKit Go.Shelf

/-- Two own rows of one type. -/
structure Two (base : Nat) (X : World) (T : TypeId) (sz : Nat) (v1 : Value) (n1 : Nat) (x1 : List Value) (v2 : Value) (n2 : Nat) (x2 : List Value) : Prop where
  o1 : X.ownsRow base T sz v1 n1 x1
  o2 : X.ownsRow base T sz v2 n2 x2
  dis : ∀ k, v1.ownBlock = some k → v2.ownBlock ≠ some k
section
variable {base : Nat} {X Y : World} {T : TypeId} {sz n1 n2 : Nat} {v1 v2 : Value} {x1 x2 : List Value}
theorem Two.below (h : Two base X T sz v1 n1 x1 v2 n2 x2) (hb : Below X.heap.size X Y) : Two base Y T sz v1 n1 x1 v2 n2 x2 := ⟨own_below h.o1 hb, own_below h.o2 hb, h.dis⟩
theorem Two.app1 {v : Value} {n : Nat} {xs : List Value} (h : Two base X T sz v1 n1 x1 v2 n2 x2) (ho : Y.ownsRow base T sz v n xs) (hg : X.grownBy Y v1.ownBlock) (hl : v.ownBlock = v1.ownBlock ∨ v.ownBlock = some X.heap.size) : Two base Y T sz v n xs v2 n2 x2 :=
  ⟨ho, own_fr h.o2 (Fr.grown hg) (fun k _ e1 _ _ e2 => h.dis k e2 e1), fun k e1 e2 => by
    rcases hl with e | e
    · exact h.dis k (e ▸ e1) e2
    · rw [e] at e1
      have := own_lt h.o2 e2
      have := Option.some.inj e1
      omega⟩
theorem Two.swap (h : Two base X T sz v1 n1 x1 v2 n2 x2) : Two base X T sz v2 n2 x2 v1 n1 x1 := ⟨h.o2, h.o1, fun k e1 e2 => h.dis k e2 e1⟩
end
theorem shift_val {b : Int} {c g : Nat} (h0 : 0 ≤ b) (hc : c < 4) (hg : g < 4) : (b / 2 ^ min (IntKind.u64.wrap (4 * (c : Int) + (g : Int))).toNat 16).tmod 2 = b / 2 ^ (4 * c + g) % 2 := by
  have e1 : IntKind.u64.wrap (4 * (c : Int) + (g : Int)) = 4 * (c : Int) + (g : Int) := IntWalk.u64_in _ (by omega)
  have e2 : (4 * (c : Int) + (g : Int)).toNat = 4 * c + g := by omega
  rw [e1, e2, Nat.min_eq_left (by omega)]
  exact Int.tmod_eq_emod_of_nonneg (Int.ediv_nonneg h0 (Int.le_of_lt (Int.pow_pos (by decide))))
theorem rsIn_congr {W : World} {v : Value} {n : Nat} {R R' : Nat → R2} (h : RsIn W v n R) (he : ∀ j, j < n → R j = R' j) : RsIn W v n R' := by
  rcases h with h | ⟨b, off, cap, rfl, hb, hz⟩
  · exact .inl h
  · exact .inr ⟨b, off, cap, rfl, hb, fun j hj => by rw [← he j hj]; exact hz j hj⟩
def agE (t : Tb) : Int := if t.agree off0 = true then 0 else 9
theorem bounds_two (x : WV) (t : Tb) (hs : t.small) (w : World) (hl : WL w x t) (hf : t.fault = 0) :
    Calls Try.prog 39 #[.agg #[x.cv t, x.bv t, x.rv t, x.nv t]] w fun e w' => ∃ v, e = .returned (.tuple #[v, .int .i64 (agE t)]) ∧ Below w.heap.size w w' := by
  have hng := (Okt.of_fault hf).ng2
  cases ha : t.agree off0
  · refine (Bounds_fail x t hs w hl hf ha).mono ?_
    rintro _ w' ⟨rfl, hb⟩
    exact ⟨_, by unfold agE; rw [ha]; rfl, hb⟩
  · refine (Bounds_ok x t hs w hl hf ha (fun c g hc hg => agree_ne ha (by omega) c g hc hg)).mono ?_
    rintro _ w' ⟨v, rfl, _, hb⟩
    exact ⟨v, by unfold agE; rw [ha]; rfl, hb⟩
theorem leave_left (x : WV) (y : Tb) (s : List Nat) (X : World) (hs : y.small) (hl : WL X x y) (hf : y.fault = 0) (hlv : y.leave = some (natL s)) :
    Calls Try.prog 33 #[.agg #[x.cv y, x.bv y, x.rv y, x.nv y]] X fun e w' => ∃ a c, e = .returned (.tuple #[.slice a s.length c, .int .i64 0]) ∧ RsIn w' (.slice a s.length c) s.length (cR y.ng s) ∧ Below X.heap.size X w' := by
  have hlen : (cellsOf y.ng (natL s)).length = s.length := by unfold cellsOf natL; simp
  refine (Leave_ok x y hs X hl hf).mono ?_
  rintro e w' ⟨⟨lv, rfl, hc⟩, hb⟩
  rw [hlv] at hc ⊢
  have hc2 : CL w' lv (cellsOf y.ng (natL s)) := hc
  have h2 := hc2.rs
  obtain ⟨a, c, rfl⟩ := hc2.slice
  have h3 : RsAt w' (.slice a s.length c) s.length (fun j => (cellsOf y.ng (natL s)).getD j (0, 0)) := by rw [← hlen]; exact h2
  rw [hlen]
  refine ⟨a, c, rfl, rsIn_congr h3.toIn (fun j hj => ?_), hb⟩
  unfold cR cellsOf natL
  simp only [List.getD_eq_getElem?_getD, List.getElem?_map, List.getElem?_eq_getElem hj]
  rfl
structure LeftR (W : World) (y : Tb) (u : WV) (s : List Nat) (bits tried : Int) : Prop where
  wl : WLi W u y
  sm : y.small
  ft : y.fault = 0
  lv : y.leave = some (natL s)
  inc : Inc 0 (y.nc * y.ng) s
  few : s.length ≤ (bitsL y.ng bits (y.nc * y.ng)).length
  agr : y.agree off0 = true ↔ s = []
  min : (setL y (bitsL y.ng tried (y.nc * y.ng))).agree off0 = true → lessN (bitsL y.ng tried (y.nc * y.ng)) s = false
theorem LvR.left {W : World} {t : Tb} {nw : Nat} {z : Nat → Int} {bits : Int} {T1 T2 T3 : Value} (h : LvR W t nw z bits T1 T2 T3) (tried : Int) : ∃ (y : Tb) (u : WV) (s : List Nat), T1 = .agg #[u.cv y, u.bv y, u.rv y, u.nv y] ∧ LeftR W y u s bits tried := by
  obtain ⟨u, y, x, sa, sc, rfl, _, _, hw, _, _, hf, hg, _, _, _, hc⟩ := h.ex
  have ht := Okt.of_fault h.ft
  have hng := cnted_ng ht x nw z bits
  obtain ⟨s, h1, h2, h3, h4, h5⟩ := left_law (nw := nw) (z := z) (tried := tried) ht hg hc hf
  refine ⟨t.cnted x nw z bits, u, s, rfl, hw, cnted_small ht x nw z bits, hf, h1, ?_, ?_, h4, ?_⟩
  · rw [hng]; exact h2
  · rw [hng]; exact h3
  · rw [hng]; exact h5
theorem setL_small : ∀ (s : List Nat) (t : Tb), t.small → (setL t s).small
  | [], _, h => h
  | _ :: s, _, h => setL_small s _ h
theorem setL_same : ∀ (s : List Nat) (t : Tb), (setL t s).nc = t.nc ∧ (setL t s).rl = t.rl ∧ (setL t s).nb = t.nb ∧ (setL t s).nr = t.nr ∧ (setL t s).nn = t.nn
  | [], _ => ⟨rfl, rfl, rfl, rfl, rfl⟩
  | _ :: s, _ => setL_same s _
set_option maxRecDepth 100000 in
set_option maxHeartbeats 8000000 in
theorem flowLeft_walk (u : WV) (t : Tb) (wv : Value) (nw : Nat) (z : Nat → Int) (bits tried : Int) (w : World) (h0 : TbLaw w u t) (hw : WordsIn w wv nw z) (hn : nw ≤ maxLen) (hb0 : 0 ≤ bits) (hb1 : bits ≤ 65535) (hd0 : 0 ≤ tried) :
    Calls Try.prog 8 #[.agg #[u.cv t, u.bv t, u.rv t, u.nv t], wv, .int .u16 bits, .int .u16 tried] w fun e w' => e = .returned (.bool true) ∧ Below w.heap.size w w' := by
  have LV0 := Lib.hid (fun (X : World) (hX : Below w.heap.size w X) => lives_any u t wv nw z bits h0.big h0.z X (h0.l.below hX) h0.cc h0.cb (hw.below hX) hn hb0 hb1)
  have HAW := Lib.hid awake_any
  obtain ⟨wa, wc, rfl⟩ := hw.len
  obtain ⟨i0, hi0, hz0, hz1, hz2⟩ := info_parts Try.infoCellR
  clear h0 hw hn
  simp only [WV.cv, WV.bv, WV.rv, WV.nv] at LV0 ⊢
  have HA0 : Hid (BF w (w.alloc (.cells #[.slice u.ca t.nc u.cc, .slice u.ba t.nb u.bc, .slice u.ra t.nr u.rc, .slice u.na t.nn u.nc] 25)) [(w.heap.size, #[.slice u.ca t.nc u.cc, .slice u.ba t.nb u.bc, .slice u.ra t.nr u.rc, .slice u.na t.nn u.nc], 25)]) := (BF.base w).alloc _ _
  go_enter Try.func8, Try.ntmps8
  go_wp2_with fail
  refine (LV0.out _ HA0.out.fr).mono ?_
  rintro _ w5 ⟨V1, U1, T3, b, rfl, hb5, hlv⟩
  have HB5 := Lib.hid (HA0.out.below hb5).fr
  have HLR := Lib.hid hlv
  clear hb5 hlv HA0 LV0
  cases b
  · go_wp2_with (go_at_call 18; refine (HAW.out _).mono ?_; rintro _ w9 ⟨rfl, hb9⟩; have HB9 := Lib.hid (below_step (HB5.out.trans ((below_step (below_alloc w5 (.cells #[.slice V1.p0 V1.l0 V1.c0, .slice V1.p1 V1.l1 V1.c1, .slice V1.p2 V1.l2 V1.c2, .slice V1.p3 V1.l3 V1.c3] 25)) (below_alloc _ (.cells #[.slice U1.p0 U1.l0 U1.c0, .slice U1.p1 U1.l1 U1.c1, .slice U1.p2 U1.l2 U1.c2, .slice U1.p3 U1.l3 U1.c3] 75))).mono HB5.out.size)) hb9); clear hb9)
    go_ret
    exact ⟨rfl, HB9.out⟩
  obtain ⟨y, v, s, hv, hlr⟩ := (HLR.out rfl).left tried
  obtain ⟨p0, l0, e0, p1, l1, e1, p2, l2, e2, p3, l3, e3⟩ := V1
  simp only [WV.cv, WV.bv, WV.rv, WV.nv, Value.agg.injEq, Value.slice.injEq, Array.mk.injEq, List.cons.injEq, and_true] at hv
  obtain ⟨⟨rfl, rfl, rfl⟩, ⟨rfl, rfl, rfl⟩, ⟨rfl, rfl, rfl⟩, rfl, rfl, rfl⟩ := hv
  have hok := Okt.of_fault hlr.ft
  have yng2 := hok.ng2; have yng4 := hok.ng4; have ync4 := hok.nc4; have ync1 := hok.nc1
  have HLE := Lib.hid hlr; have HOK := Lib.hid hok
  have HA6 : Hid (BF w ((w5.alloc (.cells #[.slice v.ca y.nc v.cc, .slice v.ba y.nb v.bc, .slice v.ra y.nr v.rc, .slice v.na y.nn v.nc] 25)).alloc (.cells #[.slice U1.p0 U1.l0 U1.c0, .slice U1.p1 U1.l1 U1.c1, .slice U1.p2 U1.l2 U1.c2, .slice U1.p3 U1.l3 U1.c3] 75)) [(w5.heap.size, #[.slice v.ca y.nc v.cc, .slice v.ba y.nb v.bc, .slice v.ra y.nr v.rc, .slice v.na y.nn v.nc], 25)]) := ((((BF.base w).below HB5.out).alloc #[.slice v.ca y.nc v.cc, .slice v.ba y.nb v.bc, .slice v.ra y.nr v.rc, .slice v.na y.nn v.nc] 25).below (below_alloc _ _)).sub (List.forall_mem_cons.2 ⟨.head _, List.forall_mem_nil _⟩)
  have HB6 : Hid (Below w5.heap.size w5 ((w5.alloc (.cells #[.slice v.ca y.nc v.cc, .slice v.ba y.nb v.bc, .slice v.ra y.nr v.rc, .slice v.na y.nn v.nc] 25)).alloc (.cells #[.slice U1.p0 U1.l0 U1.c0, .slice U1.p1 U1.l1 U1.c1, .slice U1.p2 U1.l2 U1.c2, .slice U1.p3 U1.l3 U1.c3] 75))) := below_step (below_alloc _ _) (below_alloc _ _)
  have HTB : Hid (∀ X, Below w5.heap.size w5 X → Calls Try.prog 20 #[.agg #[v.cv y, v.bv y, v.rv y, v.nv y]] X fun e w' => ∃ v' : WV, e = .returned (.agg #[v'.cv y, v'.bv y, v'.rv y, v'.nv y]) ∧ WL w' v' y ∧ Below X.heap.size X w') := fun X hX => table_any v y HLE.out.sm X (HLE.out.wl.below hX)
  have HLV : Hid (∀ (X : World) (v' : WV), WL X v' y → Calls Try.prog 33 #[.agg #[v'.cv y, v'.bv y, v'.rv y, v'.nv y]] X fun e w' => ∃ a c, e = .returned (.tuple #[.slice a s.length c, .int .i64 0]) ∧ RsIn w' (.slice a s.length c) s.length (cR y.ng s) ∧ Below X.heap.size X w') := fun X v' h => leave_left v' y s X HLE.out.sm h HLE.out.ft HLE.out.lv
  have HCE : Hid (∀ X, Below w5.heap.size w5 X → Calls Try.prog 34 #[.agg #[v.cv y, v.bv y, v.rv y, v.nv y]] X fun e w' => ∃ a c, e = .returned (.slice a (y.nc * y.ng) c) ∧ RsIn w' (.slice a (y.nc * y.ng) c) (y.nc * y.ng) (cR y.ng (List.range (y.nc * y.ng))) ∧ Below X.heap.size X w') := fun X hX => by
    refine (cells_all v y X (HLE.out.wl.below hX) HLE.out.sm HOK.out).mono ?_
    rintro e w' ⟨r, rfl, ho, hb⟩
    obtain ⟨a, c, rfl⟩ := own_slice' ho
    rw [rC_flatR, List.length_range] at ho
    exact ⟨a, c, rfl, (RsAt.ownT ho).toIn, hb⟩
  have HBD : Hid (∀ (X : World) (v' : WV), WL X v' y → Calls Try.prog 39 #[.agg #[v'.cv y, v'.bv y, v'.rv y, v'.nv y]] X fun e w' => ∃ b, e = .returned (.tuple #[b, .int .i64 (agE y)]) ∧ Below X.heap.size X w') := fun X v' h => bounds_two v' y HLE.out.sm X h HLE.out.ft
  simp only [WV.cv, WV.bv, WV.rv, WV.nv] at HTB HLV HCE HBD
  obtain ⟨N, HN⟩ : ∃ N, Hid (y.nc * y.ng = N) := ⟨_, rfl⟩
  have hN16 : N ≤ 16 := by rw [← HN.out]; exact Nat.mul_le_mul ync4 yng4
  obtain ⟨sl, HSL⟩ : ∃ sl, Hid (s.length = sl) := ⟨_, rfl⟩
  have hsl : sl ≤ 16 := by rw [← HSL.out]; have := Inc.len (Nat.zero_le _) HLE.out.inc; have := HN.out; omega
  rw [HN.out] at HCE
  rw [HSL.out] at HLV
  clear hlr hok HLR
  have k0 := HA6.out.cell (.head _) 0
  have k1 := HA6.out.cell (.head _) 1
  have k2 := HA6.out.cell (.head _) 2
  have k3 := HA6.out.cell (.head _) 3
  go_wp2_with fail
  refine (HTB.out _ HB6.out).mono ?_
  rintro _ w7 ⟨v7, rfl, hl7, hb7⟩
  go_wp2_with fail
  refine (HLV.out _ _ hl7).mono ?_
  rintro _ w8 ⟨la, lc, rfl, hrl, hb8⟩
  have HB8 := Lib.hid (below_step (below_step HB6.out hb7) hb8)
  have HA8 := Lib.hid ((HA6.out.below hb7).below hb8)
  have HRL := Lib.hid hrl
  clear hl7 hb7 hb8 hrl k0 k1 k2 k3 HA6 HB6 HLV
  have k0 := HA8.out.cell (.head _) 0
  have k1 := HA8.out.cell (.head _) 1
  have k2 := HA8.out.cell (.head _) 2
  have k3 := HA8.out.cell (.head _) 3
  go_wp2_with fail
  refine (HCE.out _ HB8.out).mono ?_
  rintro _ w9 ⟨ca, cc, rfl, hrc, hb9⟩
  have HA9 := Lib.hid (HA8.out.below hb9)
  have HRL9 := Lib.hid (HRL.out.below hb9)
  have HRC := Lib.hid hrc
  have HB9 := Lib.hid (below_step HB8.out hb9)
  clear hrc hb9 k0 k1 k2 k3 HA8 HRL HCE HB8
  go_wp2_with fail
  go_loopw [15, 16, 18] (fun v1 v2 i wr => ∃ k n1 n2 : Nat, k ≤ N ∧ i = .int .i64 k ∧ n1 = (bitsL y.ng bits k).length ∧ n2 = (bitsL y.ng tried k).length ∧ BF w wr [(w5.heap.size, #[.slice v.ca y.nc v.cc, .slice v.ba y.nb v.bc, .slice v.ra y.nr v.rc, .slice v.na y.nn v.nc], 25)] ∧ Below w9.heap.size w9 wr ∧ Two w9.heap.size wr 48 2 v1 n1 (rC y.ng (bitsL y.ng bits k)) v2 n2 (rC y.ng (bitsL y.ng tried k))) (fun _ _ i _ => N - (intOf i).toNat)
  case atStart => exact ⟨0, 0, 0, Nat.zero_le _, rfl, rfl, rfl, HA9.out, Below.refl _ _, World.ownsRow_nil _ _ _ _, World.ownsRow_nil _ _ _ _, fun k e => by cases e⟩
  case round =>
    obtain ⟨k, n1, n2, hk, rfl, hn1, hn2, hbf, hbb, htw⟩ := hrel
    rename World => wx
    have HN1 := Lib.hid hn1; have HN2 := Lib.hid hn2; have HA := Lib.hid hbf; have HB := Lib.hid hbb; have HTW := Lib.hid htw
    obtain ⟨va1, vc1, rfl⟩ := own_slice' htw.o1
    obtain ⟨va2, vc2, rfl⟩ := own_slice' htw.o2
    have hn1k : n1 ≤ 16 := by have := bitsL_len y.ng bits k; omega
    have hn2k : n2 ≤ 16 := by have := bitsL_len y.ng tried k; omega
    clear hn1 hn2 hbf hbb htw
    have ki : (0 : Int) ≤ (k : Int) := by omega
    by_cases hlt : k < N
    · have kj : (k : Int) < (N : Int) := by omega
      obtain ⟨cb, co, rfl, hcb, x1, x2⟩ := HRC.out.at (k := k) hlt
      have hgd : (List.range N).getD k 0 = k := by rw [List.getD_eq_getElem?_getD, List.getElem?_range hlt]; rfl
      unfold cR at x1 x2
      rw [hgd] at x1 x2
      simp only at x1 x2
      have hc4 : k / y.ng < 4 := by have := (Nat.div_lt_iff_lt_mul (show 0 < y.ng by omega)).2 (show k < y.nc * y.ng by rw [HN.out]; exact hlt); omega
      have hg4 : k % y.ng < 4 := by have := Nat.mod_lt k (show 0 < y.ng by omega); omega
      have HSB := Lib.hid (bitsL_succ y.ng bits k); have HST := Lib.hid (bitsL_succ y.ng tried k)
      have HRS : Hid (∀ s, rC y.ng (s ++ [k]) = rC y.ng s ++ [.int .i64 ((k / y.ng : Nat) : Int), .int .i64 ((k % y.ng : Nat) : Int)]) := fun s => rC_snoc y.ng s k
      generalize k / y.ng = c at *
      generalize k % y.ng = g at *
      have HC12 : Hid (∀ X, Below w9.heap.size w9 X → (X.cell? ⟨cb, co + k * 2, none⟩ = some (.int .i64 (c : Int)) ∧ X.cell? ⟨cb, co + k * 2 + 1, none⟩ = some (.int .i64 (g : Int)))) := fun X hX => ⟨kept hX hcb x1, kept hX hcb x2⟩
      clear x1 x2 hcb hgd
      have wm : IntKind.i64.wrap (4 * (c : Int)) = 4 * (c : Int) := IntWalk.i64_in _ (by omega)
      have wa : IntKind.i64.wrap (4 * (c : Int) + (g : Int)) = 4 * (c : Int) + (g : Int) := IntWalk.i64_in _ (by omega)
      obtain ⟨bt, HBT⟩ : ∃ bt, Hid ((bits / 2 ^ (4 * c + g) % 2 == 1) = bt) := ⟨_, rfl⟩
      have HBV : Hid (((bits / 2 ^ min (IntKind.u64.wrap (4 * (c : Int) + (g : Int))).toNat 16).tmod 2 == 1) = bt) := by rw [Hid, shift_val (by omega) (by omega) (by omega)]; exact HBT.out
      have HBB : Hid (bitB bits (4 * c + g) = bt) := by rw [Hid, ← HBT.out]; unfold bitB; rw [Bool.eq_iff_iff]; simp
      rw [HBB.out] at HSB
      go_wp2_with fail
      go_cut [71] (fun s71 wy => s71 = .bool bt ∧ Below wx.heap.size wx wy)
      case first =>
        have HAX : Hid (Below wx.heap.size wx wx.drew) := (Below.refl _ _).drew
        have hcell := HC12.out _ (below_step HB.out HAX.out)
        refine wp_region_held_drew (S := fun X => X.cell? ⟨cb, co + k * 2, none⟩ = some (.int .i64 (c : Int)) ∧ X.cell? ⟨cb, co + k * 2 + 1, none⟩ = some (.int .i64 (g : Int))) (by kernel_rfl) hcell (fun hS => ?_)
        clear hcell
        generalize wx.drew = X at *
        refine tk [0, 1, 2, 3, 4, 5, 6, 7, 8, 9, 10, 11, 12, 13, 14, 15] ?_
        repeat (refine tkH (oi := ⟨_, _, _, _, _, _⟩) (v := ?_) rfl (by kernel_rfl) (by rfl) (fun _ _ _ h => h) hS ?_ ?_; rotate_left; (· rintro W' ⟨z0, z1⟩; go_simp; try with_reducible rfl); try simp only [Act.put, putA, putZ, putS])
        refine tk0 ?_
        refine tH 16 (oi := ⟨_, _, _, _, _, _⟩) (v := .bool bt) rfl (by kernel_rfl) (by rfl) (fun _ _ _ h => h) hS ?_ ?_
        · rintro W' ⟨z0, z1⟩; go_simp; (try rw [HBV.out])
        try simp only [Act.put, putA, putZ, putS]
        refine wpAnyH_done (by kernel_rfl) ?_ _
        go_wp2_with fail
        go_meet
        exact ⟨rfl, HAX.out⟩
      rename World => wy
      obtain ⟨rfl, hby⟩ := hcut
      have HAY := Lib.hid (HA.out.below hby); have HBY := Lib.hid (below_step HB.out hby); have HTY := Lib.hid (HTW.out.below hby)
      clear hby HA HB HTW HBT HBB HBV
      go_upto_if 71 with (fail)
      go_cut [15] (fun s15 wz => ∃ va n vc, s15 = .slice va n vc ∧ n = (bitsL y.ng bits (k + 1)).length ∧ BF w wz [(w5.heap.size, #[.slice v.ca y.nc v.cc, .slice v.ba y.nb v.bc, .slice v.ra y.nr v.rc, .slice v.na y.nn v.nc], 25)] ∧ Below w9.heap.size w9 wz ∧ Two w9.heap.size wz 48 2 (.slice va n vc) n (rC y.ng (bitsL y.ng bits (k + 1))) (.slice va2 n2 vc2) n2 (rC y.ng (bitsL y.ng tried k)))
      case first => as_aux_lemma =>
        cases bt
        · rw [if_neg (by decide)] at HSB
          go_wp2_with fail
          go_meet
          exact ⟨_, _, _, rfl, by rw [HSB.out]; exact HN1.out, HAY.out, HBY.out, by rw [HSB.out]; exact HTY.out⟩
        · rw [if_pos rfl] at HSB
          obtain ⟨x1, x2⟩ := HC12.out _ HBY.out
          go_wp2_with (at_builtin; refine wpList_append_src _ rfl (.tmp 72) (.tmp 77) 49 rfl w9.heap.size 48 i0 (.agg #[.int .i64 0, .int .i64 0]) 2 16 Try.underlying49 hi0 hz0 hz1 hz2 rfl (by decide) (.slice va1 n1 vc1) n1 (rC y.ng (bitsL y.ng bits k)) rfl (HTY.out.o1.alloc (.cells #[.int .i64 (c : Int), .int .i64 (g : Int)] 48)) (some ⟨wy.heap.size, 0, none⟩) 1 1 [.int .i64 (c : Int), .int .i64 (g : Int)] rfl ⟨rfl, fun j u hu => ⟨_, rfl, World.news_of_block (heap_alloc_new wy _) j u hu⟩⟩ (by simp [Value.oneCell']) ?a1 ?a2 ?a3 ?_)
          case a1 => unfold maxLen; omega
          case a2 => omega
          case a3 => have := HBY.out.size; simp; omega
          intro v1 w10 hown hgr hlt1
          obtain ⟨xa, xc, rfl⟩ := own_slice' hown
          have htz := HTY.out.below (below_alloc wy (.cells #[.int .i64 (c : Int), .int .i64 (g : Int)] 48))
          have hay := HAY.out.below (below_alloc wy (.cells #[.int .i64 (c : Int), .int .i64 (g : Int)] 48))
          have HAZ := Lib.hid (hay.grow1 htz.o1 (List.forall_mem_cons.2 ⟨(show 25 ≠ 48 by decide), List.forall_mem_nil _⟩) HA9.out.fr.size hgr)
          have HBZ : Hid (Below w9.heap.size w9 w10) := (below_step HBY.out (below_alloc wy (.cells #[.int .i64 (c : Int), .int .i64 (g : Int)] 48))).trans ((Fr.grown hgr).low (by have := HBY.out.size; simp; omega) (fun q hq e => by have := own_low htz.o1 e; omega))
          have HTZ := Lib.hid (htz.app1 hown hgr (by rw [World.size_alloc]; exact hlt1))
          clear hown hgr hlt1 htz hay x1 x2
          go_wp2_with fail
          go_meet
          exact ⟨_, _, _, rfl, by rw [HSB.out, List.length_append, HN1.out]; rfl, HAZ.out, HBZ.out, by rw [HSB.out, HRS.out]; exact HTZ.out⟩
      rename World => wz
      obtain ⟨va, n, vc, rfl, hn, hbf, hbz, htz⟩ := hcut
      have HN1z := Lib.hid hn; have HAZ := Lib.hid hbf; have HBZ := Lib.hid hbz; have HTZ := Lib.hid htz.swap
      clear hn hbf hbz htz HAY HBY HTY HSB HN1
      obtain ⟨bt, HBT⟩ : ∃ bt, Hid ((tried / 2 ^ (4 * c + g) % 2 == 1) = bt) := ⟨_, rfl⟩
      have HBV : Hid (((tried / 2 ^ min (IntKind.u64.wrap (4 * (c : Int) + (g : Int))).toNat 16).tmod 2 == 1) = bt) := by rw [Hid, shift_val (by omega) (by omega) (by omega)]; exact HBT.out
      have HBB : Hid (bitB tried (4 * c + g) = bt) := by rw [Hid, ← HBT.out]; unfold bitB; rw [Bool.eq_iff_iff]; simp
      rw [HBB.out] at HST
      go_wp2_with fail
      go_cut [95] (fun s95 wy => s95 = .bool bt ∧ Below wz.heap.size wz wy)
      case first =>
        have HAX : Hid (Below wz.heap.size wz wz.drew) := (Below.refl _ _).drew
        have hcell := HC12.out _ (below_step HBZ.out HAX.out)
        refine wp_region_held_drew (S := fun X => X.cell? ⟨cb, co + k * 2, none⟩ = some (.int .i64 (c : Int)) ∧ X.cell? ⟨cb, co + k * 2 + 1, none⟩ = some (.int .i64 (g : Int))) (by kernel_rfl) hcell (fun hS => ?_)
        clear hcell
        generalize wz.drew = X at *
        refine tk [0, 1, 2, 3, 4, 5, 6, 7, 8, 9, 10, 11, 12, 13, 14, 15] ?_
        repeat (refine tkH (oi := ⟨_, _, _, _, _, _⟩) (v := ?_) rfl (by kernel_rfl) (by rfl) (fun _ _ _ h => h) hS ?_ ?_; rotate_left; (· rintro W' ⟨z0, z1⟩; go_simp; try with_reducible rfl); try simp only [Act.put, putA, putZ, putS])
        refine tk0 ?_
        refine tH 16 (oi := ⟨_, _, _, _, _, _⟩) (v := .bool bt) rfl (by kernel_rfl) (by rfl) (fun _ _ _ h => h) hS ?_ ?_
        · rintro W' ⟨z0, z1⟩; go_simp; (try rw [HBV.out])
        try simp only [Act.put, putA, putZ, putS]
        refine wpAnyH_done (by kernel_rfl) ?_ _
        go_wp2_with fail
        go_meet
        exact ⟨rfl, HAX.out⟩
      rename World => wy
      obtain ⟨rfl, hby⟩ := hcut
      have HAY := Lib.hid (HAZ.out.below hby); have HBY := Lib.hid (below_step HBZ.out hby); have HTY := Lib.hid (HTZ.out.below hby)
      clear hby HAZ HBZ HTZ HBT HBB HBV
      cases bt
      · rw [if_neg (by decide)] at HST
        go_wp2_with fail
        go_roundw
        case rel => exact ⟨k + 1, n, n2, by omega, by go_num, HN1z.out, by rw [HST.out]; exact HN2.out, HAY.out, HBY.out, by rw [HST.out]; exact HTY.out.swap⟩
        case measure => simp [intOf]; omega
      · rw [if_pos rfl] at HST
        obtain ⟨x1, x2⟩ := HC12.out _ HBY.out
        go_wp2_with (at_builtin; refine wpList_append_src _ rfl (.tmp 96) (.tmp 101) 49 rfl w9.heap.size 48 i0 (.agg #[.int .i64 0, .int .i64 0]) 2 16 Try.underlying49 hi0 hz0 hz1 hz2 rfl (by decide) (.slice va2 n2 vc2) n2 (rC y.ng (bitsL y.ng tried k)) rfl (HTY.out.o1.alloc (.cells #[.int .i64 (c : Int), .int .i64 (g : Int)] 48)) (some ⟨wy.heap.size, 0, none⟩) 1 1 [.int .i64 (c : Int), .int .i64 (g : Int)] rfl ⟨rfl, fun j u hu => ⟨_, rfl, World.news_of_block (heap_alloc_new wy _) j u hu⟩⟩ (by simp [Value.oneCell']) ?b1 ?b2 ?b3 ?_)
        case b1 => unfold maxLen; omega
        case b2 => omega
        case b3 => have := HBY.out.size; simp; omega
        intro v1 w10 hown hgr hlt1
        obtain ⟨xa, xc, rfl⟩ := own_slice' hown
        have htz := HTY.out.below (below_alloc wy (.cells #[.int .i64 (c : Int), .int .i64 (g : Int)] 48))
        have hay := HAY.out.below (below_alloc wy (.cells #[.int .i64 (c : Int), .int .i64 (g : Int)] 48))
        have HAZ := Lib.hid (hay.grow1 htz.o1 (List.forall_mem_cons.2 ⟨(show 25 ≠ 48 by decide), List.forall_mem_nil _⟩) HA9.out.fr.size hgr)
        have HBZ : Hid (Below w9.heap.size w9 w10) := (below_step HBY.out (below_alloc wy (.cells #[.int .i64 (c : Int), .int .i64 (g : Int)] 48))).trans ((Fr.grown hgr).low (by have := HBY.out.size; simp; omega) (fun q hq e => by have := own_low htz.o1 e; omega))
        have HTZ := Lib.hid (htz.app1 hown hgr (by rw [World.size_alloc]; exact hlt1))
        clear hown hgr hlt1 htz hay x1 x2
        go_wp2_with fail
        go_roundw
        case rel => exact ⟨k + 1, n, n2 + 1, by omega, by go_num, HN1z.out, by rw [HST.out, List.length_append, HN2.out]; rfl, HAZ.out, HBZ.out, by rw [HST.out, HRS.out]; exact HTZ.out.swap⟩
        case measure => simp [intOf]; omega
    · obtain rfl : k = N := by omega
      have hfew : sl ≤ n1 := by have h := HLE.out.few; rw [HN.out, HSL.out] at h; rw [HN1.out]; exact h
      obtain ⟨O, HO⟩ : ∃ O, Hid (bitsL y.ng tried k = O) := ⟨_, rfl⟩
      have HOL : Hid (O.length = n2) := by rw [Hid, HN2.out, HO.out]
      have hro := HTW.out.o2
      rw [HO.out, rC_flatR, HOL.out] at hro
      have HRO := Lib.hid (RsAt.ownT hro).toIn
      have HOM : Hid (∀ j, j < n2 → O.getD j 0 / y.ng < y.nc ∧ O.getD j 0 % y.ng < y.ng) := fun j hj => by
        have h1 : O.getD j 0 = O[j]'(by rw [HOL.out]; exact hj) := by rw [List.getD_eq_getElem?_getD, List.getElem?_eq_getElem (by rw [HOL.out]; exact hj)]; rfl
        have h2 : O[j]'(by rw [HOL.out]; exact hj) ∈ bitsL y.ng tried k := by rw [HO.out]; exact List.getElem_mem _
        have h3 := (mem_bitsL.1 h2).1
        rw [h1]
        rw [← HN.out] at h3
        exact ⟨(Nat.div_lt_iff_lt_mul (by omega)).2 h3, Nat.mod_lt _ (by omega)⟩
      have HRLx := Lib.hid (HRL9.out.below HB.out)
      have HBx := Lib.hid (below_step HB9.out HB.out)
      clear hro HRL9 HTW HRC HA9 HB9 hlt
      have k0 := HA.out.cell (.head _) 0
      have k1 := HA.out.cell (.head _) 1
      have k2 := HA.out.cell (.head _) 2
      have k3 := HA.out.cell (.head _) 3
      go_wp2_with fail
      refine (HTB.out _ HBx.out).mono ?_
      rintro _ w10 ⟨v10, rfl, hl10, hb10⟩
      go_wp2_with fail
      refine (HBD.out _ _ hl10).mono ?_
      rintro _ w11 ⟨bv, rfl, hb11⟩
      have hb := below_step hb10 hb11
      have HA11 := Lib.hid (HA.out.below hb); have HRO11 := Lib.hid (HRO.out.below hb); have HRL11 := Lib.hid (HRLx.out.below hb); have HB11 := Lib.hid (below_step HBx.out hb)
      clear hl10 hb10 hb11 hb k0 k1 k2 k3 HA HRO HRLx HBx HTB HBD HB
      go_upto_region 17 with (fail)
      go_cut [121] (fun s121 wy => s121 = .bool false ∧ Below w11.heap.size w11 wy)
      case first => as_aux_lemma =>
        by_cases hA : y.agree off0 = true
        · have q1 : (agE y == 0) = true := by unfold agE; rw [if_pos hA]; rfl
          have q2 : ((sl : Int) == 0) = true := by rw [← HSL.out, HLE.out.agr.1 hA]; rfl
          clear hA
          go_wp2_with fail
          go_meet
          exact ⟨by rw [decide_eq_false (by omega)], Below.refl _ _⟩
        · have q1 : (agE y == 0) = false := by unfold agE; rw [if_neg hA]; rfl
          have e2 : 1 ≤ sl := by
            rw [← HSL.out]
            have h := mt HLE.out.agr.2 hA
            cases s with
            | nil => exact absurd rfl h
            | cons _ _ => simp
          have q2 : ((sl : Int) == 0) = false := by simp; omega
          clear hA
          go_wp2_with fail
          go_meet
          exact ⟨by rw [decide_eq_false (by omega)], Below.refl _ _⟩
      rename World => w12
      obtain ⟨rfl, hb12⟩ := hcut
      have HA12 := Lib.hid (HA11.out.below hb12); have HRO12 := Lib.hid (HRO11.out.below hb12); have HRL12 := Lib.hid (HRL11.out.below hb12); have HB12 := Lib.hid (below_step HB11.out hb12)
      clear hb12 HA11 HRO11 HRL11 HB11
      have k0 := HA12.out.cell (.head _) 0
      have k1 := HA12.out.cell (.head _) 1
      have k2 := HA12.out.cell (.head _) 2
      have k3 := HA12.out.cell (.head _) 3
      go_wp2_with fail
      clear k0 k1 k2 k3
      have HX : Hid (BF w12 (w12.alloc (.cells #[.slice v.ca y.nc v.cc, .slice v.ba y.nb v.bc, .slice v.ra y.nr v.rc, .slice v.na y.nn v.nc] 25)) [(w12.heap.size, #[.slice v.ca y.nc v.cc, .slice v.ba y.nb v.bc, .slice v.ra y.nr v.rc, .slice v.na y.nn v.nc], 25)]) := (BF.base w12).alloc _ _
      have HAP : Hid (Apt w12.heap.size (w12.alloc (.cells #[.slice v.ca y.nc v.cc, .slice v.ba y.nb v.bc, .slice v.ra y.nr v.rc, .slice v.na y.nn v.nc] 25)) ⟨v.ca, v.cc, v.ba, v.bc, v.ra, v.rc, v.na, v.nc⟩ (setL y (O.take 0))) := fun Z hz => by
        have h1 : Below w5.heap.size w5 (w12.alloc (.cells #[.slice v.ca y.nc v.cc, .slice v.ba y.nb v.bc, .slice v.ra y.nr v.rc, .slice v.na y.nn v.nc] 25)) := below_step HB12.out (below_alloc _ _)
        exact HLE.out.wl.below (h1.trans (hz.low h1.size (fun q hq e => by have := HB12.out.size; omega)))
      have hJ : w12.heap.size < (w12.alloc (.cells #[.slice v.ca y.nc v.cc, .slice v.ba y.nb v.bc, .slice v.ra y.nr v.rc, .slice v.na y.nn v.nc] 25)).heap.size := by simp
      have hJ0 : w12.heap.size ≤ w12.heap.size := Nat.le_refl _
      generalize (w12.alloc (.cells #[.slice v.ca y.nc v.cc, .slice v.ba y.nb v.bc, .slice v.ra y.nr v.rc, .slice v.na y.nn v.nc] 25)) = w13 at *
      obtain ⟨J, hJe⟩ : ∃ J, J = w12.heap.size := ⟨_, rfl⟩
      have HJE := Lib.hid hJe
      rw [← hJe] at HX HAP hJ ⊢
      clear hJe hJ0
      go_loopw [22] (fun i wr => ∃ (q : Nat) (ca : Option Addr) (cc : Nat), q ≤ n2 ∧ i = .int .i64 q ∧ BF w12 wr [(J, #[.slice ca y.nc cc, .slice v.ba y.nb v.bc, .slice v.ra y.nr v.rc, .slice v.na y.nn v.nc], 25)] ∧ Apt J wr ⟨ca, cc, v.ba, v.bc, v.ra, v.rc, v.na, v.nc⟩ (setL y (O.take q))) (fun i _ => n2 - (intOf i).toNat)
      case atStart => exact ⟨0, _, _, Nat.zero_le _, rfl, HX.out, HAP.out⟩
      case round =>
        obtain ⟨q, ca, cc, hq, rfl, hbf, hap⟩ := hrel
        rename World => wa
        clear HX HAP
        have HX := Lib.hid hbf; have HAP := Lib.hid hap
        clear hbf hap
        have qi : (0 : Int) ≤ (q : Int) := by omega
        by_cases hlq : q < n2
        · as_aux_lemma =>
          have qj : (q : Int) < (n2 : Int) := by omega
          obtain ⟨ob, oo, rfl, hob, x1, x2⟩ := HRO12.out.at (k := q) hlq
          obtain ⟨hc, hg⟩ := HOM.out q hlq
          have HTK : Hid (O.take (q + 1) = O.take q ++ [O.getD q 0]) := by
            rw [Hid, List.take_succ_eq_append_getElem (by rw [HOL.out]; exact hlq), List.getD_eq_getElem?_getD, List.getElem?_eq_getElem (by rw [HOL.out]; exact hlq)]; rfl
          unfold cR at x1 x2
          simp only at x1 x2
          have HST : Hid (setL y (O.take (q + 1)) = (setL y (O.take q)).setC (O.getD q 0 / y.ng) (O.getD q 0 % y.ng) (0, 500)) := by
            rw [Hid, HTK.out, setL_snoc, setL_ng]
          generalize O.getD q 0 / y.ng = c at *
          generalize O.getD q 0 % y.ng = g at *
          have HWI : Hid (∀ X, J < X.heap.size → Apt J X ⟨ca, cc, v.ba, v.bc, v.ra, v.rc, v.na, v.nc⟩ (setL y (O.take q)) → Calls Try.prog 40 #[.agg #[.slice ca y.nc cc, .slice v.ba y.nb v.bc, .slice v.ra y.nr v.rc, .slice v.na y.nn v.nc], .int .i64 c, .int .i64 g, .agg #[.int .i64 0, .int .i64 500]] X fun e w' => ∃ ca2 cc2, e = .returned (.agg #[.slice ca2 y.nc cc2, .slice v.ba y.nb v.bc, .slice v.ra y.nr v.rc, .slice v.na y.nn v.nc]) ∧ Apt J w' ⟨ca2, cc2, v.ba, v.bc, v.ra, v.rc, v.na, v.nc⟩ (setL y (O.take (q + 1))) ∧ Below X.heap.size X w') := fun X hX h => by
            obtain ⟨m1, m2, m3, m4, m5⟩ := setL_same (O.take q) y
            have h2 := with_apt J _ _ c g 0 500 X h hX (by rw [m1]; exact hc) (by rw [m2, HOK.out.rl c hc]; exact hg) (by rw [m1]; omega) (by rw [m2, HOK.out.rl c hc]; omega)
            rw [HST.out]
            simp only [WV.cv, WV.bv, WV.rv, WV.nv, m1, m3, m4, m5] at h2
            exact h2
          have HC23 : Hid (∀ X, BF w12 X [(J, #[.slice ca y.nc cc, .slice v.ba y.nb v.bc, .slice v.ra y.nr v.rc, .slice v.na y.nn v.nc], 25)] → (X.cell? ⟨J, 0, none⟩ = some (.slice ca y.nc cc) ∧ X.cell? ⟨J, 1, none⟩ = some (.slice v.ba y.nb v.bc) ∧ X.cell? ⟨J, 2, none⟩ = some (.slice v.ra y.nr v.rc) ∧ X.cell? ⟨J, 3, none⟩ = some (.slice v.na y.nn v.nc) ∧ X.cell? ⟨ob, oo + q * 2, none⟩ = some (.int .i64 (c : Int)) ∧ X.cell? ⟨ob, oo + q * 2 + 1, none⟩ = some (.int .i64 (g : Int)))) := fun X h => ⟨h.cell (.head _) 0, h.cell (.head _) 1, h.cell (.head _) 2, h.cell (.head _) 3, kept h.fr hob x1, kept h.fr hob x2⟩
          have hJa := (HX.out.lt (.head _)).2
          clear x1 x2 hob hc hg HTK HST
          go_wp2_with fail
          have HAX := Lib.hid (HX.out.below (Below.refl _ wa).drew)
          have HAPX := Lib.hid (HAP.out.fr (Fr.below (Below.refl _ wa).drew _))
          have hJx : J < wa.drew.heap.size := hJa
          refine wp_region_Z (S := fun X => X.cell? ⟨J, 0, none⟩ = some (.slice ca y.nc cc) ∧ X.cell? ⟨J, 1, none⟩ = some (.slice v.ba y.nb v.bc) ∧ X.cell? ⟨J, 2, none⟩ = some (.slice v.ra y.nr v.rc) ∧ X.cell? ⟨J, 3, none⟩ = some (.slice v.na y.nn v.nc) ∧ X.cell? ⟨ob, oo + q * 2, none⟩ = some (.int .i64 (c : Int)) ∧ X.cell? ⟨ob, oo + q * 2 + 1, none⟩ = some (.int .i64 (g : Int))) (by kernel_rfl) (HC23.out _ HAX.out) (fun hS => ?_)
          generalize wa.drew = X at *
          refine tk [0, 1, 2, 3, 4, 5, 6, 7, 8, 9, 10, 11] ?_
          repeat (refine tkZ (oi := ⟨_, _, _, _, _, _⟩) (v := ?_) rfl (by kernel_rfl) (by rfl) (fun _ _ _ h => h) hS ?_ ?_; rotate_left; (· rintro W' ⟨z0, z1, z2, z3, z4, z5⟩; go_simp; try with_reducible rfl); try simp only [Act.put, putA, putZ, putS])
          refine tk0 ?_
          refine wpAnyZ_next (rs := [12]) (by kernel_rfl) (by simp) ?_
          refine NextZ.cons (o := ⟨some 141, _, _, _, _, _⟩) rfl (fun K hK => ?_) NextZ.nil
          go_simp
          refine (HWI.out _ hJx HAPX.out).mono ?_
          rintro _ X0 ⟨ca2, cc2, rfl, hw0, hb0⟩
          (try go_wp2_with fail)
          have HA0 := Lib.hid (HAX.out.below hb0)
          have HAPN := Lib.hid hw0
          refine hK.out _ _ (HC23.out X0 HA0.out) (fun hS => ?_)
          clear hK K
          try simp only [Act.put, putA, putZ, putS]
          clear hb0 hw0
          refine wpAnyZ_next (rs := [13]) (by kernel_rfl) (by simp) ?_
          refine NextZ.last (o := ⟨none, _, _, _, _, _⟩) rfl (by kernel_rfl) (fun K hK => ?_)
          have e0 := HA0.out.cell (.head _) 0
          have f0 := HA0.out.thaw (.head _) 0
          have e1 := HA0.out.cell (.head _) 1
          have f1 := HA0.out.thaw (.head _) 1
          have e2 := HA0.out.cell (.head _) 2
          have f2 := HA0.out.thaw (.head _) 2
          have e3 := HA0.out.cell (.head _) 3
          have f3 := HA0.out.thaw (.head _) 3
          have HA1 := Lib.hid (BF.set4 HA0.out (.head _) (.slice ca2 y.nc cc2) (.slice v.ba y.nb v.bc) (.slice v.ra y.nr v.rc) (.slice v.na y.nn v.nc) (L' := []) (List.forall_mem_nil _))
          have HAPM := Lib.hid (HAPN.out.fr (fr4 X0 J (.slice ca2 y.nc cc2) (.slice v.ba y.nb v.bc) (.slice v.ra y.nr v.rc) (.slice v.na y.nn v.nc)))
          go_simp
          refine hK.out _ _ ?_
          clear hK K
          (try simp only [Act.put])
          clear e0 e1 e2 e3 f0 f1 f2 f3
          refine wpAnyZ_done (by kernel_rfl) ?_ _
          go_wp2_with fail
          go_roundw
          case rel => exact ⟨q + 1, ca2, cc2, by omega, by go_num, HA1.out, HAPM.out⟩
          case measure => simp [intOf]; omega
        · obtain rfl : q = n2 := by omega
          have hOt : O.take q = O := List.take_of_length_le (Nat.le_of_eq HOL.out)
          rw [hOt] at HAP
          have HMIN := HLE.out.min
          rw [HN.out, HO.out] at HMIN
          have HMI := Lib.hid HMIN
          obtain ⟨m1, m2, m3, m4, m5⟩ := setL_same O y
          have HXF := Lib.hid (setL_fault O y HLE.out.ft); have HXS := Lib.hid (setL_small O y HLE.out.sm)
          have HTX : Hid (∀ X, Below wa.heap.size wa X → Calls Try.prog 20 #[.agg #[.slice ca y.nc cc, .slice v.ba y.nb v.bc, .slice v.ra y.nr v.rc, .slice v.na y.nn v.nc]] X fun e w' => ∃ v' : WV, e = .returned (.agg #[v'.cv (setL y O), v'.bv (setL y O), v'.rv (setL y O), v'.nv (setL y O)]) ∧ WL w' v' (setL y O) ∧ Below X.heap.size X w') := fun X hX => by
            have h2 := table_any ⟨ca, cc, v.ba, v.bc, v.ra, v.rc, v.na, v.nc⟩ (setL y O) HXS.out X (HAP.out.wl.below hX)
            simp only [WV.cv, WV.bv, WV.rv, WV.nv, m1, m3, m4, m5] at h2 ⊢
            exact h2
          have HBX : Hid (∀ (X : World) (v' : WV), WL X v' (setL y O) → Calls Try.prog 39 #[.agg #[v'.cv (setL y O), v'.bv (setL y O), v'.rv (setL y O), v'.nv (setL y O)]] X fun e w' => ∃ b, e = .returned (.tuple #[b, .int .i64 (agE (setL y O))]) ∧ Below X.heap.size X w') := fun X v' h => bounds_two v' (setL y O) HXS.out X h HXF.out
          simp only [WV.cv, WV.bv, WV.rv, WV.nv] at HTX HBX
          clear m1 m2 m3 m4 m5 hOt HMIN
          have k0 := HX.out.cell (.head _) 0
          have k1 := HX.out.cell (.head _) 1
          have k2 := HX.out.cell (.head _) 2
          have k3 := HX.out.cell (.head _) 3
          go_wp2_with fail
          refine (HTX.out _ (Below.refl _ _)).mono ?_
          rintro _ w14 ⟨v14, rfl, hl14, hb14⟩
          go_wp2_with fail
          refine (HBX.out _ _ hl14).mono ?_
          rintro _ w15 ⟨bv2, rfl, hb15⟩
          have hb := below_step HX.out.fr (below_step hb14 hb15)
          have HRO15 := Lib.hid (HRO12.out.below hb); have HRL15 := Lib.hid (HRL12.out.below hb); have HB15 := Lib.hid (below_step HB12.out hb)
          clear hl14 hb14 hb15 hb k0 k1 k2 k3 HX HAP HTX HBX HRO12 HRL12 HB12
          go_wp2_with fail
          go_loopw [25, 26] (fun mv i wr => ∃ p : Nat, p ≤ sl ∧ i = .int .i64 p ∧ Below w15.heap.size w15 wr ∧ wr.ownsRow w15.heap.size 48 2 mv p (rC y.ng (s.take p))) (fun _ i _ => sl - (intOf i).toNat)
          case atStart => exact ⟨0, Nat.zero_le _, rfl, Below.refl _ _, World.ownsRow_nil _ _ _ _⟩
          case round =>
            obtain ⟨p, hp, rfl, hbb, how⟩ := hrel
            rename World => wb
            have HB := Lib.hid hbb; have HOW := Lib.hid how
            obtain ⟨ma, mc, rfl⟩ := own_slice' how
            clear hbb how
            have pi : (0 : Int) ≤ (p : Int) := by omega
            by_cases hlp : p < sl
            · as_aux_lemma =>
              have pj : (p : Int) < (sl : Int) := by omega
              obtain ⟨lb, lo, rfl, hlb, x1, x2⟩ := HRL15.out.at (k := p) hlp
              have HRS : Hid (rC y.ng (s.take (p + 1)) = rC y.ng (s.take p) ++ [.int .i64 ((s.getD p 0 / y.ng : Nat) : Int), .int .i64 ((s.getD p 0 % y.ng : Nat) : Int)]) := by
                rw [Hid, ← rC_snoc, List.take_succ_eq_append_getElem (by rw [HSL.out]; exact hlp), List.getD_eq_getElem?_getD, List.getElem?_eq_getElem (by rw [HSL.out]; exact hlp)]; rfl
              unfold cR at x1 x2
              simp only at x1 x2
              generalize s.getD p 0 / y.ng = c at *
              generalize s.getD p 0 % y.ng = g at *
              have HC29 : Hid (∀ X, Below w15.heap.size w15 X → (X.cell? ⟨lb, lo + p * 2, none⟩ = some (.int .i64 (c : Int)) ∧ X.cell? ⟨lb, lo + p * 2 + 1, none⟩ = some (.int .i64 (g : Int)))) := fun X hX => ⟨kept hX hlb x1, kept hX hlb x2⟩
              clear x1 x2 hlb
              go_wp2_with fail
              have HAX : Hid (BF w15 wb.drew []) := (BF.base w15).below (HB.out.drew)
              have HOX := Lib.hid (own_below HOW.out (Below.refl _ wb).drew)
              refine wp_region_Z (S := fun X => X.cell? ⟨lb, lo + p * 2, none⟩ = some (.int .i64 (c : Int)) ∧ X.cell? ⟨lb, lo + p * 2 + 1, none⟩ = some (.int .i64 (g : Int))) (by kernel_rfl) (HC29.out _ HAX.out.fr) (fun hS => ?_)
              generalize wb.drew = X at *
              refine tk [0, 1, 2, 3, 4, 5, 6, 7, 8, 9, 10, 11] ?_
              repeat (refine tkZ (oi := ⟨_, _, _, _, _, _⟩) (v := ?_) rfl (by kernel_rfl) (by rfl) (fun _ _ _ h => h) hS ?_ ?_; rotate_left; (· rintro W' ⟨z0, z1⟩; go_simp; try with_reducible rfl); try simp only [Act.put, putA, putZ, putS])
              refine tk0 ?_
              refine wpAnyZ_next (rs := [12]) (by kernel_rfl) (by simp) ?_
              refine NextZ.cons (o := ⟨some 166, _, _, _, _, _⟩) rfl (fun K hK => ?_) NextZ.nil
              go_simp
              have HA0 := Lib.hid (HAX.out.alloc #[.int .i64 (c : Int), .int .i64 (g : Int)] 48)
              have HO0 := Lib.hid (own_below HOX.out (below_alloc X (.cells #[.int .i64 (c : Int), .int .i64 (g : Int)] 48)))
              refine hK.out _ _ (HC29.out (X.alloc (.cells #[.int .i64 (c : Int), .int .i64 (g : Int)] 48)) HA0.out.fr) (fun hS => ?_)
              clear hK K
              try simp only [Act.put, putA, putZ, putS]
              generalize X.heap.size = K29 at *
              generalize (X.alloc (.cells #[.int .i64 (c : Int), .int .i64 (g : Int)] 48)) = X0 at *
              refine wpAnyZ_next (rs := [13]) (by kernel_rfl) (by simp) ?_
              refine NextZ.cons (o := ⟨some 167, _, _, _, _, _⟩) rfl (fun K hK => ?_) NextZ.nil
              refine step_append_src X0 (by rfl) (.tmp 154) (.tmp 166) 49 (by rfl) w15.heap.size 48 i0 (.agg #[.int .i64 0, .int .i64 0]) 2 16 Try.underlying49 hi0 hz0 hz1 hz2 rfl (by decide) (.slice ma p mc) p (rC y.ng (s.take p)) (by rfl) HO0.out (some ⟨K29, 0, none⟩) 1 1 [.int .i64 (c : Int), .int .i64 (g : Int)] (by rfl) ⟨rfl, fun j u hu => ⟨_, rfl, World.news_of_block (HA0.out.bk _ _ _ (.head _)).2 j u hu⟩⟩ (by simp [Value.oneCell']) (by unfold maxLen; omega) (by omega) HA0.out.fr.size ?_
              intro v1 X1 hown hgr hl
              obtain ⟨ma2, mc2, rfl⟩ := own_slice' hown
              have HA1 : Hid (BF w15 X1 []) := (BF.base w15).below (HA0.out.fr.trans ((Fr.grown hgr).low HA0.out.fr.size (fun q hq e => by have := own_low HO0.out e; omega)))
              have HO1 := Lib.hid hown
              clear hown hgr hl
              refine hK.out _ _ (HC29.out X1 HA1.out.fr) (fun hS => ?_)
              clear hK K
              try simp only [Act.put, putA, putZ, putS]
              refine tZ 14 (oi := ⟨_, _, _, _, _, _⟩) (v := ?_) rfl (by kernel_rfl) (by rfl) (fun _ _ _ h => h) hS ?_ ?_
              rotate_left
              · rintro W' ⟨z0, z1⟩; go_simp; try with_reducible rfl
              try simp only [Act.put, putA, putZ, putS]
              refine wpAnyZ_done (by kernel_rfl) ?_ _
              go_wp2_with fail
              go_roundw
              case rel => exact ⟨p + 1, by omega, by go_num, HA1.out.fr, by rw [HRS.out]; exact HO1.out⟩
              case measure => simp [intOf]; omega
            · obtain rfl : p = sl := by omega
              have hst : s.take p = s := List.take_of_length_le (Nat.le_of_eq HSL.out)
              have how := HOW.out
              rw [hst, rC_flatR] at how
              have hmi := (RsAt.ownT (n := p) (by rw [HSL.out] at how; exact how)).toIn
              have HMR : Hid (RsIn wb (.slice ma p mc) s.length (cR y.ng s)) := by rw [HSL.out]; exact hmi
              have HOR : Hid (RsIn wb (.slice va2 q vc2) O.length (cR y.ng O)) := by rw [HOL.out]; exact HRO15.out.below HB.out
              have HW : Hid (Below w.heap.size w wb) := HB5.out.trans ((below_step HB15.out HB.out).mono HB5.out.size)
              clear hst how hmi
              by_cases hA : (setL y O).agree off0 = true
              · have e1 : agE (setL y O) = 0 := by unfold agE; rw [if_pos hA]
                have hmin := HMI.out hA
                have HLS : Hid (Calls Try.prog 36 #[.slice va2 q vc2, .slice ma p mc] wb fun e w' => e = .returned (.bool false) ∧ Below wb.heap.size wb w') := by
                  have h2 := less_any (.slice va2 q vc2) (.slice ma p mc) O s y.ng wb (by omega) HOR.out HMR.out (by rw [HOL.out]; omega) (by rw [HSL.out]; omega)
                  rw [hmin] at h2
                  exact h2
                rw [e1]
                clear e1 hA hmin
                go_wp2_with (first | (go_at_call 36; refine HLS.out.mono ?_; rintro _ w16 ⟨rfl, hb16⟩; have HB16 := Lib.hid (below_step HW.out hb16); clear hb16) | (go_at_call 18; refine (HAW.out _).mono ?_; rintro _ w17 ⟨rfl, hb17⟩; have HB17 := Lib.hid (below_step HB16.out hb17); clear hb17))
                go_ret
                exact ⟨rfl, HB17.out⟩
              · have e1 : agE (setL y O) = 9 := by unfold agE; rw [if_neg hA]
                rw [e1]
                clear e1 hA
                go_wp2_with (go_at_call 18; refine (HAW.out _).mono ?_; rintro _ w17 ⟨rfl, hb17⟩; have HB17 := Lib.hid (below_step HW.out hb17); clear hb17)
                go_ret
                exact ⟨rfl, HB17.out⟩
end Go.Proofs.Ytjaoflfophcibaa
