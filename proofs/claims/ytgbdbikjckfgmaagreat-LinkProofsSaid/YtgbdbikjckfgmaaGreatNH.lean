/- Link: the reference's Graphed. Printed by gen_nh.py. -/
import Derived.Test.YtgbdbikjckfgmaaGreatNG
namespace Go.Proofs.YtgbdbikjckfgmaaGreat
open Go.RowKit Go.Shelf

theorem Tryz.infoRgs : (Tryz.prog.info? 119).map (fun i => (i.zero, i.size, i.bytes)) = some (some (.slice none 0 0), 1, 24) := by kernel_rfl
theorem Tryz.sizeREntry : (Tryz.prog.info? 77).map (·.size) = some 7 := by kernel_rfl
theorem Tryz.sizeGraph : (Tryz.prog.info? 40).map (·.size) = some 8 := by kernel_rfl
theorem step_store_row {ops : Array Oper} {o : Oper} {a : Act} {w : World} {K : Act → World → Prop} {Q : Exit → Act → World → Prop} {E : Prop} (hgd : o.guard = none) (ty : TypeId) (x y : Operand) (ho : o.op = .store ty x y)
    (g : Nat) (cells : Array Value) (hx : a.eval x = .pointer (some ⟨g, 0, none⟩)) (hy : a.eval y = .agg cells) (t : TypeId) (old : Array Value) (hg : w.heap[g]? = some (.cells old t (0, 0))) (hi : (Tryz.prog.info? ty).map (·.size) = some cells.size)
    (hold : old.size = cells.size) (h1 : cells.all (·.oneCell') = true) (h : K (a.put o.dst undef) (w.setRow g cells)) :
    if Region.wanted o (yielded ops a.tmps) = true then Oper.wp Tryz.prog o a w K Q else E := by
  have hw : Region.wanted o (yielded ops a.tmps) = true := by simp [Region.wanted, hgd]
  rw [if_pos hw]
  exact wp_store_row ty x y ho g cells hx hy t old hg hi hold h1 h
theorem below_setRow {W X : World} {g : Nat} {cs : Array Value} (h : Below W.heap.size W X) (hg : W.heap.size ≤ g) : Below W.heap.size W (X.setRow g cs) := h.trans ⟨rfl, rfl, rfl, by simp, fun q hq => setRow_other _ _ _ _ (by omega)⟩
/-- Rows of ranges. -/
structure BRows (W : World) (base : Nat) (v : Value) (k : Nat) (us : Nat → Value) (E : Nat → RL) : Prop where
  own : W.ownsRow base 119 1 v k ((List.range k).map us)
  row : ∀ j, j < k → QS W base (us j) (E j)
theorem BRows.below {W W' : World} {base : Nat} {v : Value} {k : Nat} {us : Nat → Value} {E : Nat → RL} (h : BRows W base v k us E) (hb : Below W.heap.size W W') : BRows W' base v k us E :=
  ⟨own_below h.own hb, fun j hj => own_below (h.row j hj) hb⟩
theorem BRows.fr {W W' : World} {base : Nat} {v : Value} {k : Nat} {us : Nat → Value} {E : Nat → RL} {ex : Nat → Prop} (h : BRows W base v k us E) (hf : Fr ex W W') (hx : ∀ g, base ≤ g → ¬ ex g) : BRows W' base v k us E :=
  ⟨own_fr h.own hf (fun g _ _ hb _ => hx g hb), fun j hj => own_fr (h.row j hj) hf (fun g _ _ hb _ => hx g hb)⟩
theorem BRows.app {W X Y : World} {base : Nat} {v v' u : Value} {k : Nat} {us : Nat → Value} {E : Nat → RL} (h : BRows W base v k us E) (hX : Below W.heap.size W X) (hu : QS X base u (E k)) (ho : Y.ownsRow base 119 1 v' (k + 1) ((List.range k).map us ++ [u])) (hg : X.grownBy Y v.ownBlock) : BRows Y base v' (k + 1) (putL us k u) E := by
  have hx := h.below hX
  have hne : ∀ g cur, X.heap[g]? = some (.cells cur 71 (0, 0)) → base ≤ g → ¬ v.ownBlock = some g := fun g cur hc _ e => by
    rcases hx.own.2 with ⟨e1, _⟩ | ⟨g', cap, cur', e1, _, hb, _⟩
    · rw [e1] at e; cases e
    · rw [e1] at e; cases e; rw [hb] at hc; cases hc
  have hm : (List.range (k + 1)).map (putL us k u) = (List.range k).map us ++ [u] := by
    rw [List.range_succ, List.map_append]
    congr 1
    · exact List.map_congr_left fun j hj => putL_ne (by have := List.mem_range.1 hj; omega)
    · simp [putL_same]
  refine ⟨by rw [hm]; exact ho, fun j hj => ?_⟩
  rcases Nat.lt_succ_iff_lt_or_eq.1 hj with hj | rfl
  · rw [putL_ne (by omega)]
    exact own_fr (hx.row j hj) (Fr.grown hg) (fun g cur _ hb hc => hne g cur hc hb)
  · rw [putL_same]
    exact own_fr hu (Fr.grown hg) (fun g cur _ hb hc => hne g cur hc hb)
theorem BRows.at {W : World} {base : Nat} {v : Value} {k : Nat} {us : Nat → Value} {E : Nat → RL} (h : BRows W base v k us E) (hk : 0 < k) : ∃ g c, v = .slice (some ⟨g, 0, none⟩) k c ∧ ∀ j, j < k → W.cell? ⟨g, j, none⟩ = some (us j) := by
  obtain ⟨a, c, rfl⟩ := own_slice' h.own
  obtain ⟨g, rfl⟩ := own_somep h.own hk
  refine ⟨g, c, rfl, fun j hj => ?_⟩
  have := h.own.cells (g := g) rfl j (us j) (by simp [hj])
  rwa [addr_add, Nat.zero_add] at this
/-- The pairs that come before a place. -/
def gpf (f : Fl) (i k : Nat) (a b : Nat) : Bool := f.g a b && (decide (a < i) || (decide (a = i) && decide (b < k)))
theorem gI_ext {G H : Nat → Nat → Bool} (h : ∀ a b, G a b = H a b) : gI G = gI H := by
  have : G = H := by funext a b; exact h a b
  rw [this]
theorem rowN_or {p q : Nat → Bool} {k n : Nat} (hk : k < n) (h : ∀ b, q b = (p b || decide (b = k))) : rowN q n = rowN p n ||| 2 ^ k := by
  apply Nat.eq_of_testBit_eq
  intro b
  rw [Nat.testBit_or, rowN_test, rowN_test, Nat.testBit_two_pow, h]
  by_cases e : b = k
  · subst e; simp [hk]
  · have e2 : ¬ k = b := fun e' => e e'.symm
    simp [e, e2]
theorem gpf_zero (f : Fl) : gI (gpf f 0 0) = fun _ => 0 := by
  funext a
  unfold gI
  rw [rowN_none fun k _ => by unfold gpf; simp]; rfl
theorem gpf_yes {f : Fl} {i k : Nat} (hk : k < 8) (h : f.g i k = true) : gI (gpf f i (k + 1)) = putL (gI (gpf f i k)) i ((rowN (gpf f i k i) 8 ||| 2 ^ k : Nat) : Int) := by
  funext a
  unfold putL
  by_cases e : a = i
  · rw [if_pos e, e]
    unfold gI
    rw [rowN_or (p := gpf f i k i) hk fun b => by
      unfold gpf
      by_cases e2 : b = k
      · subst e2; simp [h]
      · have : decide (b < k + 1) = decide (b < k) := by rw [decide_eq_decide]; omega
        rw [this]; simp [e2]]
  · rw [if_neg e]
    unfold gI
    rw [rowN_congr (q := gpf f i k a) fun b _ => by unfold gpf; simp [e]]
theorem gpf_no {f : Fl} {i k : Nat} (h : f.g i k = false) : gI (gpf f i (k + 1)) = gI (gpf f i k) := by
  refine gI_ext fun a b => ?_
  unfold gpf
  by_cases e : a = i
  · subst e
    by_cases e2 : b = k
    · subst e2; simp [h]
    · have : decide (b < k + 1) = decide (b < k) := by rw [decide_eq_decide]; omega
      rw [this]
  · simp [e]
theorem gpf_next (f : Fl) (i : Nat) : gI (gpf f (i + 1) 0) = gI (gpf f i f.nw) := by
  refine gI_ext fun a b => ?_
  unfold gpf
  cases hg : f.g a b
  · simp
  · have hb := (Fl.g_in hg).2
    by_cases e : a = i
    · subst e; simp [hb]
    · have : decide (a < i + 1) = decide (a < i) := by rw [decide_eq_decide]; omega
      rw [this]; simp [e]
theorem gpf_end (f : Fl) : gI (gpf f f.no 0) = gI f.g := by
  refine gI_ext fun a b => ?_
  unfold gpf
  cases hg : f.g a b
  · simp
  · have ha := (Fl.g_in hg).1
    simp [ha]
theorem wrap64_nat {P : Nat} (h : P < 256) : wrap64 (P : Int) = P := by unfold wrap64; omega
theorem a8_zero : (a8 (fun _ => 0)) = #[.int .i64 0, .int .i64 0, .int .i64 0, .int .i64 0, .int .i64 0, .int .i64 0, .int .i64 0, .int .i64 0] := rfl
set_option maxRecDepth 100000 in
set_option maxHeartbeats 16000000 in
theorem graphed_any (x : FV) (f : Fl) (w : World) (h : FlQ QR w x f) (hf : f.fault = 0) :
    Calls Tryz.prog 24 #[.agg #[.slice x.oa f.no x.oc, .slice x.na f.nw x.nc, .slice x.ma f.nm x.mc]] w fun e w' => e = .returned (.agg (a8 (gI f.g))) ∧ Below w.heap.size w w' := by
  have OK := Lib.hid (Fl.ok hf)
  obtain ⟨i0, hi0, hz0, hz1, hz2⟩ := info_parts Tryz.infoRgs
  obtain ⟨oa, oc, na, nc, ma, mc⟩ := x
  have hno := OK.out.no
  have hnw := OK.out.nw
  have hnm := OK.out.nm
  have HEN := Lib.hid (fun W (hW : Below w.heap.size w W) => refAll_any ⟨oa, oc, na, nc, ma, mc⟩ f W (h.below QR.k hW) (by omega) (by omega))
  have HQO : Hid (∀ W, Below w.heap.size w W → EsQ QR W (.slice oa f.no oc) f.no f.O) := fun W hW => h.o.below QR.k hW
  have HQN : Hid (∀ W, Below w.heap.size w W → EsQ QR W (.slice na f.nw nc) f.nw f.N) := fun W hW => h.n.below QR.k hW
  have HMV := Lib.hid (fun p q W (hW : Below w.heap.size w W) => moved_any ⟨oa, oc, na, nc, ma, mc⟩ f p q W (h.m.below hW) (by omega))
  have HPF : Hid (∀ j, j < f.no + f.nw → (f.E j).p.fault = 0) := fun j hj => (OK.out.e j hj).2.1
  have HEO : Hid (∀ i, i < f.no → f.E i = f.O i) := fun i hi => if_pos hi
  have HEW : Hid (∀ k, f.E (f.no + k) = f.N k) := fun k => by rw [show f.E (f.no + k) = if f.no + k < f.no then f.O (f.no + k) else f.N (f.no + k - f.no) from rfl, if_neg (by omega), show f.no + k - f.no = k by omega]
  have HGE0 : Hid (∀ i k, i < f.no → k < f.nw → f.g i k = (sexB (f.O i) (f.N k) && nameB (f.O i) (f.N k) && f.plB (f.O i) (f.N k) && ageB (f.O i) (f.N k))) := fun i k hi hk => by
    show (decide (i < f.no) && decide (k < f.nw) && f.pairB (f.O i) (f.N k)) = _
    rw [decide_eq_true hi, decide_eq_true hk]; rfl
  have HNO : Hid (∀ j, j < f.no → (f.O j).nn ≤ 4 ∧ (f.O j).p.fault = 0) := fun j hj => ⟨(OK.out.o hj).1, (OK.out.o hj).2.1⟩
  have HNW : Hid (∀ j, j < f.nw → (f.N j).nn ≤ 4 ∧ (f.N j).p.fault = 0) := fun j hj => ⟨(OK.out.n hj).1, (OK.out.n hj).2.1⟩
  have HG0 := Lib.hid (gpf_zero f)
  have HGY := Lib.hid (fun i k (hk : k < 8) hg => gpf_yes (f := f) (i := i) (k := k) hk hg)
  have HGN := Lib.hid (fun i k hg => gpf_no (f := f) (i := i) (k := k) hg)
  have HGX := Lib.hid (gpf_next f)
  have HGZ := Lib.hid (gpf_end f)
  clear h hf OK
  dsimp only at HEN HMV ⊢
  generalize f.no = no at *
  generalize f.nw = nw at *
  generalize f.nm = nm at *
  have HA0 : Hid (BF w (((w.alloc (.cells #[.slice oa no oc, .slice na nw nc, .slice ma nm mc] 25)).alloc (.cells #[.int .i64 0, .int .i64 0, .int .i64 0, .int .i64 0, .int .i64 0, .int .i64 0, .int .i64 0, .int .i64 0] 40)).alloc (.cells #[.int .i64 0, .int .i64 0, .int .i64 0, .int .i64 0, .int .i64 0, .int .i64 0, .int .i64 0, .int .i64 0] 40)) [(w.heap.size + 2, a8 (fun _ => 0), 40), (w.heap.size + 1, a8 (fun _ => 0), 40), (w.heap.size, #[.slice oa no oc, .slice na nw nc, .slice ma nm mc], 25)]) :=
    (BF.made3 w #[.slice oa no oc, .slice na nw nc, .slice ma nm mc] (a8 (fun _ => 0)) (a8 (fun _ => 0)) 25 40 40).sub (fun p hp => by
      simp only [List.mem_cons, List.not_mem_nil, or_false] at hp ⊢
      rcases hp with h | h | h <;> simp [h])
  go_enter Tryz.func24, Tryz.ntmps24
  go_wp2_with fail
  refine (HEN.out _ HA0.out.fr).mono ?_
  rintro _ w1 ⟨a1, d1, rfl, he, hb⟩
  obtain ⟨N, hN⟩ : ∃ N, no + nw = N := ⟨_, rfl⟩
  have HNN := Lib.hid hN
  rw [hN] at he HPF
  have HE1 := Lib.hid he
  have HA1 := Lib.hid (HA0.out.below hb)
  have hl2 := (HA1.out.lt (.head _)).2
  clear he hb HA0 HEN
  rw [hN]
  have hN16 : N ≤ 16 := by omega
  clear hN
  go_wp2_with fail
  obtain ⟨bG, hbG⟩ : ∃ b, w.heap.size + 2 = b := ⟨_, rfl⟩
  obtain ⟨bR, hbR⟩ : ∃ b, w.heap.size + 1 = b := ⟨_, rfl⟩
  rw [hbG, hbR] at HA1
  (try rw [hbG])
  (try rw [hbR])
  have hbG1 : w.heap.size < bG := by omega
  have hbR1 : w.heap.size < bR := by omega
  have hbR2 : bR < bG := by omega
  have hbG2 : bG < w1.heap.size := by omega
  clear hbG hbR hl2
  go_loopw [4, 6] (fun v i wr => ∃ (k : Nat) (us : Nat → Value), i = .int .i64 (k : Int) ∧ k ≤ N ∧ BRows wr w1.heap.size v k us (fun j => (f.E j).p.born) ∧ BF w wr [(bG, a8 (fun _ => 0), 40), (bR, a8 (fun _ => 0), 40), (w.heap.size, #[.slice oa no oc, .slice na nw nc, .slice ma nm mc], 25)] ∧ Below w1.heap.size w1 wr) (fun _ i _ => N - (intOf i).toNat)
  case atStart => exact ⟨0, fun _ => undef, rfl, Nat.zero_le _, ⟨World.ownsRow_nil _ _ _ _, fun j hj => absurd hj (Nat.not_lt_zero _)⟩, HA1.out, Below.refl _ _⟩
  case round =>
    obtain ⟨k, us, rfl, hk, hbr, hbf, hbl⟩ := hrel
    rename World => wx
    obtain ⟨va, vc, rfl⟩ := own_slice' hbr.own
    have HR := Lib.hid hbr
    have HA := Lib.hid hbf
    have HB := Lib.hid hbl
    clear hbr hbf hbl
    by_cases hlt : k < N
    · obtain ⟨b, off, rv, cv, nv, rfl, hb, x7, hq⟩ := (EsQ.below QR.k HE1.out HB.out).at hlt
      obtain ⟨x0, x1, x2, x3, x4, x5, x6⟩ := x7
      obtain ⟨na', nd, rfl⟩ := hq.2.2.1.slice
      obtain ⟨ra, rd, rfl⟩ := hq.1.slice
      obtain ⟨ca, cd, rfl⟩ := hq.2.1.slice
      have ki : (0 : Int) ≤ (k : Int) := by omega
      have kj : (k : Int) < (N : Int) := by omega
      have HCP := Lib.hid (refBirths_own _ (f.E k).p wx hq.pers (HPF.out k hlt))
      have HBO : Hid (∀ X u, QS X w1.heap.size u (f.E k).p.born → QS X w1.heap.size u ((fun j => (f.E j).p.born) k)) := fun _ _ h => h
      clear hq
      generalize (f.E k).p.born = bo at *
      generalize (f.E k).p.lo = lo at *
      generalize (f.E k).p.hi = hi at *
      generalize (f.E k).sex = sx at *
      generalize (f.E k).pl = pl at *
      generalize (f.E k).p.nr = nr at *
      generalize (f.E k).p.nc = nc' at *
      generalize (f.E k).nn = nn at *
      go_wp2_with fail
      refine HCP.out.mono ?_
      rintro _ w5 ⟨u, rfl, hu, hb5⟩
      obtain ⟨ua, uc, rfl⟩ := own_slice' hu
      have hsw := HB.out.size
      have hsw5 := hb5.size
      have HU := Lib.hid (HBO.out _ _ (own_mono (own_below hu (below_alloc w5 (.cells #[.slice ua bo.length uc] 119))) hsw))
      have HX : Hid (Below wx.heap.size wx (w5.alloc (.cells #[.slice ua bo.length uc] 119))) := hb5.trans ((below_alloc w5 _).mono hsw5)
      have HN := Lib.hid (World.news_of_block (heap_alloc_new w5 (.cells #[.slice ua bo.length uc] 119)))
      have HRX := Lib.hid (HR.out.below HX.out)
      clear hu hb5 HCP x0 x1 x2 x3 x4 x5 x6
      go_wp2_with (at_builtin; refine wpList_append_src _ rfl (.tmp 19) (.tmp 26) 117 rfl w1.heap.size 119 i0 (.slice none 0 0) 1 24 Tryz.underlying117 hi0 hz0 hz1 hz2 rfl (by decide) (.slice va k vc) k ((List.range k).map us) rfl HRX.out.own (some ⟨w5.heap.size, 0, none⟩) 1 1 [.slice ua bo.length uc] rfl ⟨rfl, fun q u hu => ⟨_, rfl, HN.out q u hu⟩⟩ ?c0 ?c1 ?c2 ?c3 ?_)
      case c0 => simp [Value.oneCell']
      case c1 => unfold maxLen; omega
      case c2 => omega
      case c3 => simp; omega
      intro v' w6 hown hgr _
      have HR2 := Lib.hid (HR.out.app HX.out HU.out hown hgr)
      have HA2 := Lib.hid ((HA.out.below HX.out).fro (Fr.grown hgr) (fun q hq e => by have := own_low HRX.out.own e; omega) (fun p hp e => by
        have h1 := own_low HRX.out.own e
        have h2 := (HA1.out.lt (b := p.1) (cs := p.2.1) (T := p.2.2) hp).2
        omega))
      have HB2 := Lib.hid ((HB.out.trans (HX.out.mono hsw)).trans ((Fr.grown hgr).low (by have := (HB.out.trans (HX.out.mono hsw)).size; exact this) (fun q hq e => by have := own_low HRX.out.own e; omega)))
      clear hown hgr
      go_wp2_with fail
      go_roundw
      case rel => exact ⟨k + 1, _, by go_num, by omega, HR2.out, HA2.out, HB2.out⟩
      case measure => simp [intOf]; omega
    · have hkN : k = N := by omega
      subst hkN
      clear HE1 HPF HB hlt hk
      have HA2 : Hid (BF w wx [(bG, a8 (gI (gpf f 0 0)), 40), (bR, a8 (fun _ => 0), 40), (w.heap.size, #[.slice oa no oc, .slice na nw nc, .slice ma nm mc], 25)]) := by rw [HG0.out]; exact HA.out
      have k0 := HA.out.cell (.tail _ (.tail _ (.head _))) 0
      generalize w1.heap.size = base at *
      clear HA1 HA
      go_wp2_with fail
      go_loopw [7] (fun i wr => ∃ q : Nat, i = .int .i64 (q : Int) ∧ q ≤ no ∧ BF w wr [(bG, a8 (gI (gpf f q 0)), 40), (bR, a8 (fun _ => 0), 40), (w.heap.size, #[.slice oa no oc, .slice na nw nc, .slice ma nm mc], 25)] ∧ BRows wr base (.slice va k vc) k us (fun j => (f.E j).p.born)) (fun i _ => no - (intOf i).toNat)
      case atStart => exact ⟨0, rfl, Nat.zero_le _, HA2.out, HR.out⟩
      case round =>
        clear HA2 HR
        obtain ⟨i, rfl, hi, hbf, hbr⟩ := hrel
        rename World => wo
        have HA := Lib.hid hbf
        have HR := Lib.hid hbr
        clear hbf hbr
        have k0 := HA.out.cell (.tail _ (.tail _ (.head _))) 0
        have k1 := HA.out.cell (.tail _ (.tail _ (.head _))) 1
        by_cases hlt : i < no
        · have ki : (0 : Int) ≤ (i : Int) := by omega
          have kj : (i : Int) < (no : Int) := by omega
          go_wp2_with fail
          clear k0 k1
          go_loopw [8] (fun i2 wr => ∃ q : Nat, i2 = .int .i64 (q : Int) ∧ q ≤ nw ∧ BF w wr [(bG, a8 (gI (gpf f i q)), 40), (bR, a8 (fun _ => 0), 40), (w.heap.size, #[.slice oa no oc, .slice na nw nc, .slice ma nm mc], 25)] ∧ BRows wr base (.slice va k vc) k us (fun j => (f.E j).p.born)) (fun i2 _ => nw - (intOf i2).toNat)
          case atStart => exact ⟨0, rfl, Nat.zero_le _, HA.out, HR.out⟩
          case round =>
            clear HA HR
            obtain ⟨q, rfl, hq, hbf, hbr⟩ := hrel
            rename World => wy
            have HA := Lib.hid hbf
            have HR := Lib.hid hbr
            clear hbf hbr
            have k1 := HA.out.cell (.tail _ (.tail _ (.head _))) 1
            by_cases hlq : q < nw
            · skip
              have hi8 : i < 8 := by omega
              have hq8 : q < 8 := by omega
              obtain ⟨ab, ao, rv, cv, nv, rfl, hab, x7, hqa⟩ := (HQO.out wy HA.out.fr).at hlt
              obtain ⟨ana, and', rfl⟩ := hqa.2.2.1.slice
              obtain ⟨ara, ard, rfl⟩ := hqa.1.slice
              obtain ⟨aca, acd, rfl⟩ := hqa.2.1.slice
              obtain ⟨nb, no', rv, cv, nv, rfl, hnb, y7, hqb⟩ := (HQN.out wy HA.out.fr).at hlq
              obtain ⟨bna, bnd, rfl⟩ := hqb.2.2.1.slice
              obtain ⟨bra, brd, rfl⟩ := hqb.1.slice
              obtain ⟨bca, bcd, rfl⟩ := hqb.2.1.slice
              have HZA := Lib.hid hqa.2.2.1
              have HZB := Lib.hid hqb.2.2.1
              obtain ⟨a4, af⟩ := HNO.out i hlt
              obtain ⟨b4, bf⟩ := HNW.out q hlq
              have HAN := Lib.hid ((born_has af).1)
              have HBN := Lib.hid ((born_has bf).1)
              have HAL := Lib.hid (born_length (f.O i).p)
              have HBL := Lib.hid (born_length (f.N q).p)
              obtain ⟨u0, u1, u2, u3, u4, u5, u6⟩ := x7
              obtain ⟨v0, v1, v2, v3, v4, v5, v6⟩ := y7
              have hkk : no + nw = k := HNN.out
              obtain ⟨bb, bbc, ebb, hbb⟩ := HR.out.at (by omega)
              cases ebb
              have HUI := Lib.hid (HR.out.row i (by omega))
              have HUK := Lib.hid (HR.out.row (no + q) (by omega))
              have ebi : (f.E i).p.born = (f.O i).p.born := by rw [HEO.out i hlt]
              have ebk : (f.E (no + q)).p.born = (f.N q).p.born := by rw [HEW.out q]
              have HRI := Lib.hid (QS.rg HUI.out)
              have HRK := Lib.hid (QS.rg HUK.out)
              simp only [ebi] at HRI
              simp only [ebk] at HRK
              have ci := hbb i (by omega)
              have ck := hbb (no + q) (by omega)
              clear hkk
              have HGK := Lib.hid (HGE0.out i q hlt hlq)
              have HNA := Lib.hid (fun X (hX : Below wy.heap.size wy X) => named_any ana bna (f.O i).nn (f.N q).nn and' bnd (f.O i).z (f.N q).z X (HZA.out.below hX) (HZB.out.below hX) (by omega) (by omega))
              have HNE : Hid ((!allB (fun i_1 => allB (fun k => !(f.N q).z k == (f.O i).z i_1) (f.N q).nn) (f.O i).nn) = nameB (f.O i) (f.N q)) := rfl
              rw [HNE.out] at HNA
              have HMO := Lib.hid (fun X (hX : Below wy.heap.size wy X) => HMV.out (f.O i).pl (f.N q).pl X (HA.out.fr.trans (hX.mono HA.out.fr.size)))
              have HME := Lib.hid (fun X (hX : Below wy.heap.size wy X) => refMeet_any (us i) (us (no + q)) _ _ X (HRI.out.kept hX) (HRK.out.kept hX) HAL.out HBL.out)
              rw [meetP_eq HAN.out HBN.out] at HME
              have HML : Hid ((meetL (f.O i).p.born (f.N q).p.born).length ≤ 2000) := by unfold Hid; have := meetL_length _ (f.O i).p.born (f.N q).p.born (Nat.le_refl _); have := HAL.out; have := HBL.out; omega
              unfold sexB Fl.plB ageB at HGK
              clear hqa hqb HZA HZB HNE HAN HBN HAL HBL HUI HUK HRI HRK ebi ebk af bf hbb
              generalize meetL (f.O i).p.born (f.N q).p.born = ml at *
              generalize nameB (f.O i) (f.N q) = nm2 at *
              generalize ((f.O i).pl == (f.N q).pl || f.movB (f.O i).pl (f.N q).pl) = mv at *
              generalize (f.O i).p.lo = alo at *
              generalize (f.O i).p.hi = ahi at *
              generalize (f.O i).sex = asx at *
              generalize (f.O i).pl = apl at *
              generalize (f.O i).p.nr = anr at *
              generalize (f.O i).p.nc = anc at *
              generalize (f.O i).nn = ann at *
              generalize (f.N q).p.lo = blo at *
              generalize (f.N q).p.hi = bhi at *
              generalize (f.N q).sex = bsx at *
              generalize (f.N q).pl = bpl at *
              generalize (f.N q).p.nr = bnr at *
              generalize (f.N q).p.nc = bnc at *
              generalize (f.N q).nn = bnn at *
              generalize us i = ui at *
              generalize us (no + q) = uk at *
              have HS14 : Hid (∀ X, Below wy.heap.size wy X → (fun X => X.cell? ⟨w.heap.size, 0, none⟩ = some (.slice (some ⟨ab, ao, none⟩) no oc) ∧ X.cell? ⟨w.heap.size, 1, none⟩ = some (.slice (some ⟨nb, no', none⟩) nw nc) ∧ X.cell? ⟨ab, ao + i * 7, none⟩ = some (.int .i64 alo) ∧ X.cell? ⟨ab, ao + i * 7 + 1, none⟩ = some (.int .i64 ahi) ∧ X.cell? ⟨ab, ao + i * 7 + 2, none⟩ = some (.slice ara anr ard) ∧ X.cell? ⟨ab, ao + i * 7 + 3, none⟩ = some (.slice aca anc acd) ∧ X.cell? ⟨ab, ao + i * 7 + 4, none⟩ = some (.int .i64 asx) ∧ X.cell? ⟨ab, ao + i * 7 + 5, none⟩ = some (.slice ana ann and') ∧ X.cell? ⟨ab, ao + i * 7 + 6, none⟩ = some (.int .i64 apl) ∧ X.cell? ⟨nb, no' + q * 7, none⟩ = some (.int .i64 blo) ∧ X.cell? ⟨nb, no' + q * 7 + 1, none⟩ = some (.int .i64 bhi) ∧ X.cell? ⟨nb, no' + q * 7 + 2, none⟩ = some (.slice bra bnr brd) ∧ X.cell? ⟨nb, no' + q * 7 + 3, none⟩ = some (.slice bca bnc bcd) ∧ X.cell? ⟨nb, no' + q * 7 + 4, none⟩ = some (.int .i64 bsx) ∧ X.cell? ⟨nb, no' + q * 7 + 5, none⟩ = some (.slice bna bnn bnd) ∧ X.cell? ⟨nb, no' + q * 7 + 6, none⟩ = some (.int .i64 bpl)) X) := fun X hX => by
                exact ⟨below_cell hX _ _ (HA.out.cell (.tail _ (.tail _ (.head _))) 0), below_cell hX _ _ k1, below_cell hX _ _ u0, below_cell hX _ _ u1, below_cell hX _ _ u2, below_cell hX _ _ u3, below_cell hX _ _ u4, below_cell hX _ _ u5, below_cell hX _ _ u6, below_cell hX _ _ v0, below_cell hX _ _ v1, below_cell hX _ _ v2, below_cell hX _ _ v3, below_cell hX _ _ v4, below_cell hX _ _ v5, below_cell hX _ _ v6⟩
              clear u0 u1 u2 u3 u4 u5 u6 v0 v1 v2 v3 v4 v5 v6
              have kik : (i : Int) < (k : Int) := by have := HNN.out; omega
              have kqk : (no : Int) + (q : Int) < (k : Int) := by have := HNN.out; omega
              have kq0 : (0 : Int) ≤ (no : Int) + (q : Int) := by omega
              have hw1 : IntKind.i64.wrap ((no : Int) + (q : Int)) = (no : Int) + (q : Int) := IntWalk.i64_in _ (by omega)
              have ht1 : ((no : Int) + (q : Int)).toNat = no + q := by omega
              have kqi : (0 : Int) ≤ (q : Int) := by omega
              have kqj : (q : Int) < (nw : Int) := by omega
              have HBW : Hid (Below wy.heap.size wy wy.drew) := (Below.refl _ _).drew
              have HAX := Lib.hid (HA.out.below HBW.out)
              have HSB := HR.out.own.lt
              go_wp2_with fail
              go_cut [9, 10] (fun s9 s10 wx => ∃ bA bN, s9 = .pointer (some ⟨bA, 0, none⟩) ∧ s10 = .pointer (some ⟨bN, 0, none⟩) ∧ BF w wx [(bA, #[.int .i64 alo, .int .i64 ahi, .slice ara anr ard, .slice aca anc acd, .int .i64 asx, .slice ana ann and', .int .i64 apl], 77), (bN, #[.int .i64 blo, .int .i64 bhi, .slice bra bnr brd, .slice bca bnc bcd, .int .i64 bsx, .slice bna bnn bnd, .int .i64 bpl], 77), (bG, a8 (gI (gpf f i q)), 40), (bR, a8 (fun _ => 0), 40), (w.heap.size, #[.slice (some ⟨ab, ao, none⟩) no oc, .slice (some ⟨nb, no', none⟩) nw nc, .slice ma nm mc], 25)] ∧ Below wy.heap.size wy wx)
              case first =>
                refine wp_region_Z (S := fun X => X.cell? ⟨w.heap.size, 0, none⟩ = some (.slice (some ⟨ab, ao, none⟩) no oc) ∧ X.cell? ⟨w.heap.size, 1, none⟩ = some (.slice (some ⟨nb, no', none⟩) nw nc) ∧ X.cell? ⟨ab, ao + i * 7, none⟩ = some (.int .i64 alo) ∧ X.cell? ⟨ab, ao + i * 7 + 1, none⟩ = some (.int .i64 ahi) ∧ X.cell? ⟨ab, ao + i * 7 + 2, none⟩ = some (.slice ara anr ard) ∧ X.cell? ⟨ab, ao + i * 7 + 3, none⟩ = some (.slice aca anc acd) ∧ X.cell? ⟨ab, ao + i * 7 + 4, none⟩ = some (.int .i64 asx) ∧ X.cell? ⟨ab, ao + i * 7 + 5, none⟩ = some (.slice ana ann and') ∧ X.cell? ⟨ab, ao + i * 7 + 6, none⟩ = some (.int .i64 apl) ∧ X.cell? ⟨nb, no' + q * 7, none⟩ = some (.int .i64 blo) ∧ X.cell? ⟨nb, no' + q * 7 + 1, none⟩ = some (.int .i64 bhi) ∧ X.cell? ⟨nb, no' + q * 7 + 2, none⟩ = some (.slice bra bnr brd) ∧ X.cell? ⟨nb, no' + q * 7 + 3, none⟩ = some (.slice bca bnc bcd) ∧ X.cell? ⟨nb, no' + q * 7 + 4, none⟩ = some (.int .i64 bsx) ∧ X.cell? ⟨nb, no' + q * 7 + 5, none⟩ = some (.slice bna bnn bnd) ∧ X.cell? ⟨nb, no' + q * 7 + 6, none⟩ = some (.int .i64 bpl)) (by kernel_rfl) (HS14.out _ HBW.out) (fun hS => ?_)
                generalize wy.drew = X at *
                refine tk [0, 1, 2, 3, 4, 5, 6, 7, 8, 9] ?_
                repeat (refine tkZ (oi := ⟨_, _, _, _, _, _⟩) (v := ?_) rfl (by kernel_rfl) (by rfl) (fun _ _ _ h => h) hS ?_ ?_; rotate_left; (· rintro W' ⟨z0, z1, z2, z3, z4, z5, z6, z7, z8, z9, z10, z11, z12, z13, z14, z15⟩; go_simp; try with_reducible rfl); try simp only [Act.put, putA, putZ, putS])
                refine tk0 ?_
                refine wpAnyZ_next (rs := [10, 11]) (by kernel_rfl) (by simp) ?_
                refine NextZ.cons (o := ⟨some 9, _, _, _, _, _⟩) rfl (fun K hK => ?_) ?_
                ·
                 go_simp
                 have HPA := Lib.hid (HAX.out.alloc #[.int .i64 0, .int .i64 0, .slice none 0 0, .slice none 0 0, .int .i64 0, .slice none 0 0, .int .i64 0] 77)
                 have HQA := Lib.hid (HBW.out.trans ((below_alloc X (.cells #[.int .i64 0, .int .i64 0, .slice none 0 0, .slice none 0 0, .int .i64 0, .slice none 0 0, .int .i64 0] 77)).mono HBW.out.size))
                 have lAG := (HAX.out.lt (.head _)).2
                 have lAR := (HAX.out.lt (.tail _ (.head _))).2
                 have lAB := (HAX.out.lt (.tail _ (.tail _ (.head _)))).2
                 have lAw := HBW.out.size
                 refine hK.out _ _ (HS14.out _ HQA.out) (fun hS => ?_)
                 clear hK K
                 try simp only [Act.put, putA, putZ, putS]
                 generalize hdA : X.heap.size = bA at *
                 generalize X.alloc (.cells #[.int .i64 0, .int .i64 0, .slice none 0 0, .slice none 0 0, .int .i64 0, .slice none 0 0, .int .i64 0] 77) = XA at *
                 refine wpAnyZ_next (rs := [11]) (by kernel_rfl) (by simp) ?_
                 refine NextZ.cons (o := ⟨some 10, _, _, _, _, _⟩) rfl (fun K hK => ?_) NextZ.nil
                 go_simp
                 have HPN := Lib.hid (HPA.out.alloc #[.int .i64 0, .int .i64 0, .slice none 0 0, .slice none 0 0, .int .i64 0, .slice none 0 0, .int .i64 0] 77)
                 have HQN := Lib.hid (HQA.out.trans ((below_alloc XA (.cells #[.int .i64 0, .int .i64 0, .slice none 0 0, .slice none 0 0, .int .i64 0, .slice none 0 0, .int .i64 0] 77)).mono HQA.out.size))
                 have lNA := (HPA.out.lt (.head _)).2
                 have lNG := (HPA.out.lt (.tail _ (.head _))).2
                 have lNR := (HPA.out.lt (.tail _ (.tail _ (.head _)))).2
                 have lNB := (HPA.out.lt (.tail _ (.tail _ (.tail _ (.head _))))).2
                 have lNw := HQA.out.size
                 refine hK.out _ _ (HS14.out _ HQN.out) (fun hS => ?_)
                 clear hK K
                 try simp only [Act.put, putA, putZ, putS]
                 generalize hdN : XA.heap.size = bN at *
                 generalize XA.alloc (.cells #[.int .i64 0, .int .i64 0, .slice none 0 0, .slice none 0 0, .int .i64 0, .slice none 0 0, .int .i64 0] 77) = XN at *
                 clear hdA hdN
                 refine wpAnyZ_next (rs := [12]) (by kernel_rfl) (by simp) ?_
                 refine NextZ.cons (o := ⟨none, _, _, _, _, _⟩) rfl (fun K hK => ?_) NextZ.nil
                 refine step_store_row (by rfl) 77 (.tmp 9) (.tmp 46) (by rfl) bA #[.int .i64 alo, .int .i64 ahi, .slice ara anr ard, .slice aca anc acd, .int .i64 asx, .slice ana ann and', .int .i64 apl] (by rfl) (by rfl) 77 #[.int .i64 0, .int .i64 0, .slice none 0 0, .slice none 0 0, .int .i64 0, .slice none 0 0, .int .i64 0] (HPN.out.bk _ _ _ (.tail _ (.head _))).2 Tryz.sizeREntry rfl (by simp [Value.oneCell']) ?_
                 have HRA := Lib.hid (HPN.out.setR (.tail _ (.head _)) #[.int .i64 alo, .int .i64 ahi, .slice ara anr ard, .slice aca anc acd, .int .i64 asx, .slice ana ann and', .int .i64 apl] (L' := [(bN, #[.int .i64 0, .int .i64 0, .slice none 0 0, .slice none 0 0, .int .i64 0, .slice none 0 0, .int .i64 0], 77), (bG, a8 (gI (gpf f i q)), 40), (bR, a8 (fun _ => 0), 40), (w.heap.size, #[.slice (some ⟨ab, ao, none⟩) no oc, .slice (some ⟨nb, no', none⟩) nw nc, .slice ma nm mc], 25)]) (List.forall_mem_cons.2 ⟨⟨show bN ≠ bA by omega, (.head _)⟩, List.forall_mem_cons.2 ⟨⟨show bG ≠ bA by omega, (.tail _ (.tail _ (.head _)))⟩, List.forall_mem_cons.2 ⟨⟨show bR ≠ bA by omega, (.tail _ (.tail _ (.tail _ (.head _))))⟩, List.forall_mem_cons.2 ⟨⟨show w.heap.size ≠ bA by omega, (.tail _ (.tail _ (.tail _ (.tail _ (.head _)))))⟩, List.forall_mem_nil _⟩⟩⟩⟩))
                 have HVA := Lib.hid (below_setRow (g := bA) (cs := #[.int .i64 alo, .int .i64 ahi, .slice ara anr ard, .slice aca anc acd, .int .i64 asx, .slice ana ann and', .int .i64 apl]) HQN.out (by omega))
                 refine hK.out _ _ (HS14.out _ HVA.out) (fun hS => ?_)
                 clear hK K
                 try simp only [Act.put]
                 refine wpAnyZ_next (rs := [13]) (by kernel_rfl) (by simp) ?_
                 refine NextZ.last (o := ⟨none, _, _, _, _, _⟩) rfl (by kernel_rfl) (fun K hK => ?_)
                 refine step_store_row (by rfl) 77 (.tmp 10) (.tmp 51) (by rfl) bN #[.int .i64 blo, .int .i64 bhi, .slice bra bnr brd, .slice bca bnc bcd, .int .i64 bsx, .slice bna bnn bnd, .int .i64 bpl] (by rfl) (by rfl) 77 #[.int .i64 0, .int .i64 0, .slice none 0 0, .slice none 0 0, .int .i64 0, .slice none 0 0, .int .i64 0] (HRA.out.bk _ _ _ (.tail _ (.head _))).2 Tryz.sizeREntry rfl (by simp [Value.oneCell']) ?_
                 have HRN := Lib.hid (HRA.out.setR (.tail _ (.head _)) #[.int .i64 blo, .int .i64 bhi, .slice bra bnr brd, .slice bca bnc bcd, .int .i64 bsx, .slice bna bnn bnd, .int .i64 bpl] (L' := [(bA, #[.int .i64 alo, .int .i64 ahi, .slice ara anr ard, .slice aca anc acd, .int .i64 asx, .slice ana ann and', .int .i64 apl], 77), (bG, a8 (gI (gpf f i q)), 40), (bR, a8 (fun _ => 0), 40), (w.heap.size, #[.slice (some ⟨ab, ao, none⟩) no oc, .slice (some ⟨nb, no', none⟩) nw nc, .slice ma nm mc], 25)]) (List.forall_mem_cons.2 ⟨⟨show bA ≠ bN by omega, (.head _)⟩, List.forall_mem_cons.2 ⟨⟨show bG ≠ bN by omega, (.tail _ (.tail _ (.head _)))⟩, List.forall_mem_cons.2 ⟨⟨show bR ≠ bN by omega, (.tail _ (.tail _ (.tail _ (.head _))))⟩, List.forall_mem_cons.2 ⟨⟨show w.heap.size ≠ bN by omega, (.tail _ (.tail _ (.tail _ (.tail _ (.head _)))))⟩, List.forall_mem_nil _⟩⟩⟩⟩))
                 have HVN := Lib.hid (below_setRow (g := bN) (cs := #[.int .i64 blo, .int .i64 bhi, .slice bra bnr brd, .slice bca bnc bcd, .int .i64 bsx, .slice bna bnn bnd, .int .i64 bpl]) HVA.out (by omega))
                 refine hK.out _ _ ?_
                 clear hK K
                 try simp only [Act.put]
                 refine wpAnyZ_done (by kernel_rfl) ?_ _
                 go_wp2_with fail
                 go_meet
                 exact ⟨bA, bN, rfl, rfl, HRN.out.sub (fun p hp => by
                   simp only [List.mem_cons, List.not_mem_nil, or_false] at hp ⊢
                   rcases hp with h | h | h | h | h <;> simp [h]), HVN.out⟩
                refine NextZ.cons (o := ⟨some 10, _, _, _, _, _⟩) rfl (fun K hK => ?_) NextZ.nil
                go_simp
                have HPN := Lib.hid (HAX.out.alloc #[.int .i64 0, .int .i64 0, .slice none 0 0, .slice none 0 0, .int .i64 0, .slice none 0 0, .int .i64 0] 77)
                have HQN := Lib.hid (HBW.out.trans ((below_alloc X (.cells #[.int .i64 0, .int .i64 0, .slice none 0 0, .slice none 0 0, .int .i64 0, .slice none 0 0, .int .i64 0] 77)).mono HBW.out.size))
                have lNG := (HAX.out.lt (.head _)).2
                have lNR := (HAX.out.lt (.tail _ (.head _))).2
                have lNB := (HAX.out.lt (.tail _ (.tail _ (.head _)))).2
                have lNw := HBW.out.size
                refine hK.out _ _ (HS14.out _ HQN.out) (fun hS => ?_)
                clear hK K
                try simp only [Act.put, putA, putZ, putS]
                generalize hdN : X.heap.size = bN at *
                generalize X.alloc (.cells #[.int .i64 0, .int .i64 0, .slice none 0 0, .slice none 0 0, .int .i64 0, .slice none 0 0, .int .i64 0] 77) = XN at *
                refine wpAnyZ_next (rs := [10]) (by kernel_rfl) (by simp) ?_
                refine NextZ.cons (o := ⟨some 9, _, _, _, _, _⟩) rfl (fun K hK => ?_) NextZ.nil
                go_simp
                have HPA := Lib.hid (HPN.out.alloc #[.int .i64 0, .int .i64 0, .slice none 0 0, .slice none 0 0, .int .i64 0, .slice none 0 0, .int .i64 0] 77)
                have HQA := Lib.hid (HQN.out.trans ((below_alloc XN (.cells #[.int .i64 0, .int .i64 0, .slice none 0 0, .slice none 0 0, .int .i64 0, .slice none 0 0, .int .i64 0] 77)).mono HQN.out.size))
                have lAN := (HPN.out.lt (.head _)).2
                have lAG := (HPN.out.lt (.tail _ (.head _))).2
                have lAR := (HPN.out.lt (.tail _ (.tail _ (.head _)))).2
                have lAB := (HPN.out.lt (.tail _ (.tail _ (.tail _ (.head _))))).2
                have lAw := HQN.out.size
                refine hK.out _ _ (HS14.out _ HQA.out) (fun hS => ?_)
                clear hK K
                try simp only [Act.put, putA, putZ, putS]
                generalize hdA : XN.heap.size = bA at *
                generalize XN.alloc (.cells #[.int .i64 0, .int .i64 0, .slice none 0 0, .slice none 0 0, .int .i64 0, .slice none 0 0, .int .i64 0] 77) = XA at *
                clear hdN hdA
                refine wpAnyZ_next (rs := [12]) (by kernel_rfl) (by simp) ?_
                refine NextZ.cons (o := ⟨none, _, _, _, _, _⟩) rfl (fun K hK => ?_) NextZ.nil
                refine step_store_row (by rfl) 77 (.tmp 9) (.tmp 46) (by rfl) bA #[.int .i64 alo, .int .i64 ahi, .slice ara anr ard, .slice aca anc acd, .int .i64 asx, .slice ana ann and', .int .i64 apl] (by rfl) (by rfl) 77 #[.int .i64 0, .int .i64 0, .slice none 0 0, .slice none 0 0, .int .i64 0, .slice none 0 0, .int .i64 0] (HPA.out.bk _ _ _ (.head _)).2 Tryz.sizeREntry rfl (by simp [Value.oneCell']) ?_
                have HRA := Lib.hid (HPA.out.setR (.head _) #[.int .i64 alo, .int .i64 ahi, .slice ara anr ard, .slice aca anc acd, .int .i64 asx, .slice ana ann and', .int .i64 apl] (L' := [(bN, #[.int .i64 0, .int .i64 0, .slice none 0 0, .slice none 0 0, .int .i64 0, .slice none 0 0, .int .i64 0], 77), (bG, a8 (gI (gpf f i q)), 40), (bR, a8 (fun _ => 0), 40), (w.heap.size, #[.slice (some ⟨ab, ao, none⟩) no oc, .slice (some ⟨nb, no', none⟩) nw nc, .slice ma nm mc], 25)]) (List.forall_mem_cons.2 ⟨⟨show bN ≠ bA by omega, (.tail _ (.head _))⟩, List.forall_mem_cons.2 ⟨⟨show bG ≠ bA by omega, (.tail _ (.tail _ (.head _)))⟩, List.forall_mem_cons.2 ⟨⟨show bR ≠ bA by omega, (.tail _ (.tail _ (.tail _ (.head _))))⟩, List.forall_mem_cons.2 ⟨⟨show w.heap.size ≠ bA by omega, (.tail _ (.tail _ (.tail _ (.tail _ (.head _)))))⟩, List.forall_mem_nil _⟩⟩⟩⟩))
                have HVA := Lib.hid (below_setRow (g := bA) (cs := #[.int .i64 alo, .int .i64 ahi, .slice ara anr ard, .slice aca anc acd, .int .i64 asx, .slice ana ann and', .int .i64 apl]) HQA.out (by omega))
                refine hK.out _ _ (HS14.out _ HVA.out) (fun hS => ?_)
                clear hK K
                try simp only [Act.put]
                refine wpAnyZ_next (rs := [13]) (by kernel_rfl) (by simp) ?_
                refine NextZ.last (o := ⟨none, _, _, _, _, _⟩) rfl (by kernel_rfl) (fun K hK => ?_)
                refine step_store_row (by rfl) 77 (.tmp 10) (.tmp 51) (by rfl) bN #[.int .i64 blo, .int .i64 bhi, .slice bra bnr brd, .slice bca bnc bcd, .int .i64 bsx, .slice bna bnn bnd, .int .i64 bpl] (by rfl) (by rfl) 77 #[.int .i64 0, .int .i64 0, .slice none 0 0, .slice none 0 0, .int .i64 0, .slice none 0 0, .int .i64 0] (HRA.out.bk _ _ _ (.tail _ (.head _))).2 Tryz.sizeREntry rfl (by simp [Value.oneCell']) ?_
                have HRN := Lib.hid (HRA.out.setR (.tail _ (.head _)) #[.int .i64 blo, .int .i64 bhi, .slice bra bnr brd, .slice bca bnc bcd, .int .i64 bsx, .slice bna bnn bnd, .int .i64 bpl] (L' := [(bA, #[.int .i64 alo, .int .i64 ahi, .slice ara anr ard, .slice aca anc acd, .int .i64 asx, .slice ana ann and', .int .i64 apl], 77), (bG, a8 (gI (gpf f i q)), 40), (bR, a8 (fun _ => 0), 40), (w.heap.size, #[.slice (some ⟨ab, ao, none⟩) no oc, .slice (some ⟨nb, no', none⟩) nw nc, .slice ma nm mc], 25)]) (List.forall_mem_cons.2 ⟨⟨show bA ≠ bN by omega, (.head _)⟩, List.forall_mem_cons.2 ⟨⟨show bG ≠ bN by omega, (.tail _ (.tail _ (.head _)))⟩, List.forall_mem_cons.2 ⟨⟨show bR ≠ bN by omega, (.tail _ (.tail _ (.tail _ (.head _))))⟩, List.forall_mem_cons.2 ⟨⟨show w.heap.size ≠ bN by omega, (.tail _ (.tail _ (.tail _ (.tail _ (.head _)))))⟩, List.forall_mem_nil _⟩⟩⟩⟩))
                have HVN := Lib.hid (below_setRow (g := bN) (cs := #[.int .i64 blo, .int .i64 bhi, .slice bra bnr brd, .slice bca bnc bcd, .int .i64 bsx, .slice bna bnn bnd, .int .i64 bpl]) HVA.out (by omega))
                refine hK.out _ _ ?_
                clear hK K
                try simp only [Act.put]
                refine wpAnyZ_done (by kernel_rfl) ?_ _
                go_wp2_with fail
                go_meet
                exact ⟨bA, bN, rfl, rfl, HRN.out.sub (fun p hp => by
                  simp only [List.mem_cons, List.not_mem_nil, or_false] at hp ⊢
                  rcases hp with h | h | h | h | h <;> simp [h]), HVN.out⟩
              case rest =>
                rename World => wz
                obtain ⟨bA, bN, rfl, rfl, hbf, hbz⟩ := hcut
                have HAZ := Lib.hid hbf
                have HBZ := Lib.hid hbz
                have HRZ := Lib.hid (HR.out.below hbz)
                clear hbf hbz HAX HBW HS14 HA
                have HS15 : Hid (∀ X, Below wz.heap.size wz X → (fun X => X.cell? ⟨bA, 4, none⟩ = some (.int .i64 asx) ∧ X.cell? ⟨bA, 5, none⟩ = some (.slice ana ann and') ∧ X.cell? ⟨bA, 6, none⟩ = some (.int .i64 apl) ∧ X.cell? ⟨bN, 4, none⟩ = some (.int .i64 bsx) ∧ X.cell? ⟨bN, 5, none⟩ = some (.slice bna bnn bnd) ∧ X.cell? ⟨bN, 6, none⟩ = some (.int .i64 bpl) ∧ X.cell? ⟨w.heap.size, 0, none⟩ = some (.slice (some ⟨ab, ao, none⟩) no oc) ∧ X.cell? ⟨w.heap.size, 1, none⟩ = some (.slice (some ⟨nb, no', none⟩) nw nc) ∧ X.cell? ⟨w.heap.size, 2, none⟩ = some (.slice ma nm mc) ∧ X.cell? ⟨bb, i, none⟩ = some ui ∧ X.cell? ⟨bb, no + q, none⟩ = some uk) X) := fun X hX =>
                  ⟨below_cell hX _ _ (HAZ.out.cell (.head _) 4), below_cell hX _ _ (HAZ.out.cell (.head _) 5), below_cell hX _ _ (HAZ.out.cell (.head _) 6), below_cell hX _ _ (HAZ.out.cell (.tail _ (.head _)) 4), below_cell hX _ _ (HAZ.out.cell (.tail _ (.head _)) 5), below_cell hX _ _ (HAZ.out.cell (.tail _ (.head _)) 6), below_cell hX _ _ (HAZ.out.cell (.tail _ (.tail _ (.tail _ (.tail _ (.head _))))) 0), below_cell hX _ _ (HAZ.out.cell (.tail _ (.tail _ (.tail _ (.tail _ (.head _))))) 1), below_cell hX _ _ (HAZ.out.cell (.tail _ (.tail _ (.tail _ (.tail _ (.head _))))) 2), below_cell hX _ _ (below_cell HBZ.out _ _ ci), below_cell hX _ _ (below_cell HBZ.out _ _ ck)⟩
                have HNAZ := Lib.hid (fun X (hX : Below wz.heap.size wz X) => HNA.out X (HBZ.out.trans (hX.mono HBZ.out.size)))
                have HMOZ := Lib.hid (fun X (hX : Below wz.heap.size wz X) => HMO.out X (HBZ.out.trans (hX.mono HBZ.out.size)))
                have HMEZ := Lib.hid (fun X (hX : Below wz.heap.size wz X) => HME.out X (HBZ.out.trans (hX.mono HBZ.out.size)))
                clear HNA HMO HME
                have HNA := HNAZ
                have HMO := HMOZ
                have HME := HMEZ
                clear HNAZ HMOZ HMEZ
                obtain ⟨gk, hgk⟩ : ∃ b, f.g i q = b := ⟨_, rfl⟩
                rw [hgk] at HGK
                have HGE : Hid (gk = ((asx == bsx || asx == 2 || bsx == 2) && nm2 && mv && decide (0 < ml.length))) := HGK.out
                have HBX0 : Hid (Below wz.heap.size wz wz.drew) := (Below.refl _ _).drew
                have HGKE := Lib.hid hgk
                clear HGK hgk
                have hml := HML.out
                go_wp2_with fail
                go_cut [98] (fun s98 wx => s98 = .bool gk ∧ Below wz.heap.size wz wx)
                case first =>
                  refine wp_region_Z (S := fun X => X.cell? ⟨bA, 4, none⟩ = some (.int .i64 asx) ∧ X.cell? ⟨bA, 5, none⟩ = some (.slice ana ann and') ∧ X.cell? ⟨bA, 6, none⟩ = some (.int .i64 apl) ∧ X.cell? ⟨bN, 4, none⟩ = some (.int .i64 bsx) ∧ X.cell? ⟨bN, 5, none⟩ = some (.slice bna bnn bnd) ∧ X.cell? ⟨bN, 6, none⟩ = some (.int .i64 bpl) ∧ X.cell? ⟨w.heap.size, 0, none⟩ = some (.slice (some ⟨ab, ao, none⟩) no oc) ∧ X.cell? ⟨w.heap.size, 1, none⟩ = some (.slice (some ⟨nb, no', none⟩) nw nc) ∧ X.cell? ⟨w.heap.size, 2, none⟩ = some (.slice ma nm mc) ∧ X.cell? ⟨bb, i, none⟩ = some ui ∧ X.cell? ⟨bb, no + q, none⟩ = some uk) (by kernel_rfl) (HS15.out _ HBX0.out) (fun hS => ?_)
                  generalize wz.drew = X0 at *
                  cases he1 : (asx == bsx)
                  · cases he2 : (asx == 2)
                    · cases he3 : (bsx == 2)
                      · rw [he1, he2, he3] at HGE
                        refine tk [0, 1, 2, 3, 4, 5] ?_
                        repeat (refine tkZ (oi := ⟨_, _, _, _, _, _⟩) (v := ?_) rfl (by kernel_rfl) (by rfl) (fun _ _ _ h => h) hS ?_ ?_; rotate_left; (· rintro W' ⟨z0, z1, z2, z3, z4, z5, z6, z7, z8, z9, z10⟩; go_simp; try with_reducible rfl); try simp only [Act.put, putA, putZ, putS])
                        refine tk0 ?_
                        refine tk [6, 7, 8, 9, 10, 11, 12, 13, 14, 15] ?_
                        repeat (refine tkZ (oi := ⟨_, _, _, _, _, _⟩) (v := ?_) rfl (by kernel_rfl) (by rfl) (fun _ _ _ h => h) hS ?_ ?_; rotate_left; (· rintro W' ⟨z0, z1, z2, z3, z4, z5, z6, z7, z8, z9, z10⟩; go_simp; try with_reducible rfl); try simp only [Act.put, putA, putZ, putS])
                        refine tk0 ?_
                        refine wpAnyZ_take (i := 16) (oi := ⟨_, _, _, _, _, _⟩) (v := undef) rfl (by kernel_rfl) (by kernel_rfl) (by kernel_rfl) (fun _ _ _ h => h) (Or.inr ⟨by rfl, rfl⟩) hS ?_
                        try simp only [Act.put, putA, putZ, putS]
                        refine wpAnyZ_take (i := 17) (oi := ⟨_, _, _, _, _, _⟩) (v := undef) rfl (by kernel_rfl) (by kernel_rfl) (by kernel_rfl) (fun _ _ _ h => h) (Or.inr ⟨by rfl, rfl⟩) hS ?_
                        try simp only [Act.put, putA, putZ, putS]
                        refine wpAnyZ_take (i := 18) (oi := ⟨_, _, _, _, _, _⟩) (v := undef) rfl (by kernel_rfl) (by kernel_rfl) (by kernel_rfl) (fun _ _ _ h => h) (Or.inr ⟨by rfl, rfl⟩) hS ?_
                        try simp only [Act.put, putA, putZ, putS]
                        refine wpAnyZ_take (i := 19) (oi := ⟨_, _, _, _, _, _⟩) (v := undef) rfl (by kernel_rfl) (by kernel_rfl) (by kernel_rfl) (fun _ _ _ h => h) (Or.inr ⟨by rfl, rfl⟩) hS ?_
                        try simp only [Act.put, putA, putZ, putS]
                        refine wpAnyZ_take (i := 20) (oi := ⟨_, _, _, _, _, _⟩) (v := undef) rfl (by kernel_rfl) (by kernel_rfl) (by kernel_rfl) (fun _ _ _ h => h) (Or.inr ⟨by rfl, rfl⟩) hS ?_
                        try simp only [Act.put, putA, putZ, putS]
                        refine tk [21, 22] ?_
                        repeat (refine tkZ (oi := ⟨_, _, _, _, _, _⟩) (v := ?_) rfl (by kernel_rfl) (by rfl) (fun _ _ _ h => h) hS ?_ ?_; rotate_left; (· rintro W' ⟨z0, z1, z2, z3, z4, z5, z6, z7, z8, z9, z10⟩; go_simp; try with_reducible rfl); try simp only [Act.put, putA, putZ, putS])
                        refine tk0 ?_
                        refine wpAnyZ_take (i := 23) (oi := ⟨_, _, _, _, _, _⟩) (v := undef) rfl (by kernel_rfl) (by kernel_rfl) (by kernel_rfl) (fun _ _ _ h => h) (Or.inr ⟨by rfl, rfl⟩) hS ?_
                        try simp only [Act.put, putA, putZ, putS]
                        refine wpAnyZ_take (i := 24) (oi := ⟨_, _, _, _, _, _⟩) (v := undef) rfl (by kernel_rfl) (by kernel_rfl) (by kernel_rfl) (fun _ _ _ h => h) (Or.inr ⟨by rfl, rfl⟩) hS ?_
                        try simp only [Act.put, putA, putZ, putS]
                        refine wpAnyZ_take (i := 25) (oi := ⟨_, _, _, _, _, _⟩) (v := undef) rfl (by kernel_rfl) (by kernel_rfl) (by kernel_rfl) (fun _ _ _ h => h) (Or.inr ⟨by rfl, rfl⟩) hS ?_
                        try simp only [Act.put, putA, putZ, putS]
                        refine wpAnyZ_take (i := 26) (oi := ⟨_, _, _, _, _, _⟩) (v := undef) rfl (by kernel_rfl) (by kernel_rfl) (by kernel_rfl) (fun _ _ _ h => h) (Or.inr ⟨by rfl, rfl⟩) hS ?_
                        try simp only [Act.put, putA, putZ, putS]
                        refine wpAnyZ_take (i := 27) (oi := ⟨_, _, _, _, _, _⟩) (v := undef) rfl (by kernel_rfl) (by kernel_rfl) (by kernel_rfl) (fun _ _ _ h => h) (Or.inr ⟨by rfl, rfl⟩) hS ?_
                        try simp only [Act.put, putA, putZ, putS]
                        refine wpAnyZ_take (i := 28) (oi := ⟨_, _, _, _, _, _⟩) (v := undef) rfl (by kernel_rfl) (by kernel_rfl) (by kernel_rfl) (fun _ _ _ h => h) (Or.inr ⟨by rfl, rfl⟩) hS ?_
                        try simp only [Act.put, putA, putZ, putS]
                        refine tk [29, 30] ?_
                        repeat (refine tkZ (oi := ⟨_, _, _, _, _, _⟩) (v := ?_) rfl (by kernel_rfl) (by rfl) (fun _ _ _ h => h) hS ?_ ?_; rotate_left; (· rintro W' ⟨z0, z1, z2, z3, z4, z5, z6, z7, z8, z9, z10⟩; go_simp; try with_reducible rfl); try simp only [Act.put, putA, putZ, putS])
                        refine tk0 ?_
                        refine wpAnyZ_take (i := 31) (oi := ⟨_, _, _, _, _, _⟩) (v := undef) rfl (by kernel_rfl) (by kernel_rfl) (by kernel_rfl) (fun _ _ _ h => h) (Or.inr ⟨by rfl, rfl⟩) hS ?_
                        try simp only [Act.put, putA, putZ, putS]
                        refine wpAnyZ_take (i := 32) (oi := ⟨_, _, _, _, _, _⟩) (v := undef) rfl (by kernel_rfl) (by kernel_rfl) (by kernel_rfl) (fun _ _ _ h => h) (Or.inr ⟨by rfl, rfl⟩) hS ?_
                        try simp only [Act.put, putA, putZ, putS]
                        refine wpAnyZ_take (i := 33) (oi := ⟨_, _, _, _, _, _⟩) (v := undef) rfl (by kernel_rfl) (by kernel_rfl) (by kernel_rfl) (fun _ _ _ h => h) (Or.inr ⟨by rfl, rfl⟩) hS ?_
                        try simp only [Act.put, putA, putZ, putS]
                        refine wpAnyZ_take (i := 34) (oi := ⟨_, _, _, _, _, _⟩) (v := undef) rfl (by kernel_rfl) (by kernel_rfl) (by kernel_rfl) (fun _ _ _ h => h) (Or.inr ⟨by rfl, rfl⟩) hS ?_
                        try simp only [Act.put, putA, putZ, putS]
                        refine wpAnyZ_take (i := 35) (oi := ⟨_, _, _, _, _, _⟩) (v := undef) rfl (by kernel_rfl) (by kernel_rfl) (by kernel_rfl) (fun _ _ _ h => h) (Or.inr ⟨by rfl, rfl⟩) hS ?_
                        try simp only [Act.put, putA, putZ, putS]
                        refine wpAnyZ_take (i := 36) (oi := ⟨_, _, _, _, _, _⟩) (v := undef) rfl (by kernel_rfl) (by kernel_rfl) (by kernel_rfl) (fun _ _ _ h => h) (Or.inr ⟨by rfl, rfl⟩) hS ?_
                        try simp only [Act.put, putA, putZ, putS]
                        refine wpAnyZ_take (i := 37) (oi := ⟨_, _, _, _, _, _⟩) (v := undef) rfl (by kernel_rfl) (by kernel_rfl) (by kernel_rfl) (fun _ _ _ h => h) (Or.inr ⟨by rfl, rfl⟩) hS ?_
                        try simp only [Act.put, putA, putZ, putS]
                        refine wpAnyZ_take (i := 38) (oi := ⟨_, _, _, _, _, _⟩) (v := undef) rfl (by kernel_rfl) (by kernel_rfl) (by kernel_rfl) (fun _ _ _ h => h) (Or.inr ⟨by rfl, rfl⟩) hS ?_
                        try simp only [Act.put, putA, putZ, putS]
                        refine wpAnyZ_take (i := 39) (oi := ⟨_, _, _, _, _, _⟩) (v := undef) rfl (by kernel_rfl) (by kernel_rfl) (by kernel_rfl) (fun _ _ _ h => h) (Or.inr ⟨by rfl, rfl⟩) hS ?_
                        try simp only [Act.put, putA, putZ, putS]
                        refine wpAnyZ_take (i := 40) (oi := ⟨_, _, _, _, _, _⟩) (v := undef) rfl (by kernel_rfl) (by kernel_rfl) (by kernel_rfl) (fun _ _ _ h => h) (Or.inr ⟨by rfl, rfl⟩) hS ?_
                        try simp only [Act.put, putA, putZ, putS]
                        refine wpAnyZ_take (i := 41) (oi := ⟨_, _, _, _, _, _⟩) (v := undef) rfl (by kernel_rfl) (by kernel_rfl) (by kernel_rfl) (fun _ _ _ h => h) (Or.inr ⟨by rfl, rfl⟩) hS ?_
                        try simp only [Act.put, putA, putZ, putS]
                        refine wpAnyZ_take (i := 42) (oi := ⟨_, _, _, _, _, _⟩) (v := undef) rfl (by kernel_rfl) (by kernel_rfl) (by kernel_rfl) (fun _ _ _ h => h) (Or.inr ⟨by rfl, rfl⟩) hS ?_
                        try simp only [Act.put, putA, putZ, putS]
                        refine wpAnyZ_take (i := 43) (oi := ⟨_, _, _, _, _, _⟩) (v := undef) rfl (by kernel_rfl) (by kernel_rfl) (by kernel_rfl) (fun _ _ _ h => h) (Or.inr ⟨by rfl, rfl⟩) hS ?_
                        try simp only [Act.put, putA, putZ, putS]
                        refine wpAnyZ_take (i := 44) (oi := ⟨_, _, _, _, _, _⟩) (v := undef) rfl (by kernel_rfl) (by kernel_rfl) (by kernel_rfl) (fun _ _ _ h => h) (Or.inr ⟨by rfl, rfl⟩) hS ?_
                        try simp only [Act.put, putA, putZ, putS]
                        refine wpAnyZ_take (i := 45) (oi := ⟨_, _, _, _, _, _⟩) (v := undef) rfl (by kernel_rfl) (by kernel_rfl) (by kernel_rfl) (fun _ _ _ h => h) (Or.inr ⟨by rfl, rfl⟩) hS ?_
                        try simp only [Act.put, putA, putZ, putS]
                        refine tk [46] ?_
                        repeat (refine tkZ (oi := ⟨_, _, _, _, _, _⟩) (v := ?_) rfl (by kernel_rfl) (by rfl) (fun _ _ _ h => h) hS ?_ ?_; rotate_left; (· rintro W' ⟨z0, z1, z2, z3, z4, z5, z6, z7, z8, z9, z10⟩; go_simp; try with_reducible rfl); try simp only [Act.put, putA, putZ, putS])
                        refine tk0 ?_
                        refine wpAnyZ_done (by kernel_rfl) ?_ _
                        go_wp2_with fail
                        go_meet
                        exact ⟨by rw [HGE.out]; rfl, HBX0.out⟩
                      · rw [he1, he2, he3] at HGE
                        refine tk [0, 1, 2, 3, 4, 5] ?_
                        repeat (refine tkZ (oi := ⟨_, _, _, _, _, _⟩) (v := ?_) rfl (by kernel_rfl) (by rfl) (fun _ _ _ h => h) hS ?_ ?_; rotate_left; (· rintro W' ⟨z0, z1, z2, z3, z4, z5, z6, z7, z8, z9, z10⟩; go_simp; try with_reducible rfl); try simp only [Act.put, putA, putZ, putS])
                        refine tk0 ?_
                        refine tk [6, 7, 8, 9, 10, 11, 12, 13, 14, 15] ?_
                        repeat (refine tkZ (oi := ⟨_, _, _, _, _, _⟩) (v := ?_) rfl (by kernel_rfl) (by rfl) (fun _ _ _ h => h) hS ?_ ?_; rotate_left; (· rintro W' ⟨z0, z1, z2, z3, z4, z5, z6, z7, z8, z9, z10⟩; go_simp; try with_reducible rfl); try simp only [Act.put, putA, putZ, putS])
                        refine tk0 ?_
                        refine tk [16, 17, 18, 19] ?_
                        repeat (refine tkZ (oi := ⟨_, _, _, _, _, _⟩) (v := ?_) rfl (by kernel_rfl) (by rfl) (fun _ _ _ h => h) hS ?_ ?_; rotate_left; (· rintro W' ⟨z0, z1, z2, z3, z4, z5, z6, z7, z8, z9, z10⟩; go_simp; try with_reducible rfl); try simp only [Act.put, putA, putZ, putS])
                        refine tk0 ?_
                        cases hnm : nm2
                        · rw [hnm] at HNA HGE
                          refine wpAnyZ_next (rs := [20]) (by kernel_rfl) (by simp) ?_
                          refine NextZ.cons (o := ⟨some 72, _, _, _, _, _⟩) rfl (fun K hK => ?_) NextZ.nil
                          go_simp
                          refine (HNA.out _ HBX0.out).mono ?_
                          rintro _ X1 ⟨rfl, hb1⟩
                          (try go_wp2_with fail)
                          have HBX1 := Lib.hid (HBX0.out.trans (hb1.mono HBX0.out.size))
                          refine hK.out _ _ (HS15.out _ HBX1.out) (fun hS => ?_)
                          clear hK K hb1
                          try simp only [Act.put, putA, putZ, putS]
                          refine tk [21, 22] ?_
                          repeat (refine tkZ (oi := ⟨_, _, _, _, _, _⟩) (v := ?_) rfl (by kernel_rfl) (by rfl) (fun _ _ _ h => h) hS ?_ ?_; rotate_left; (· rintro W' ⟨z0, z1, z2, z3, z4, z5, z6, z7, z8, z9, z10⟩; go_simp; try with_reducible rfl); try simp only [Act.put, putA, putZ, putS])
                          refine tk0 ?_
                          refine wpAnyZ_take (i := 23) (oi := ⟨_, _, _, _, _, _⟩) (v := undef) rfl (by kernel_rfl) (by kernel_rfl) (by kernel_rfl) (fun _ _ _ h => h) (Or.inr ⟨by rfl, rfl⟩) hS ?_
                          try simp only [Act.put, putA, putZ, putS]
                          refine wpAnyZ_take (i := 24) (oi := ⟨_, _, _, _, _, _⟩) (v := undef) rfl (by kernel_rfl) (by kernel_rfl) (by kernel_rfl) (fun _ _ _ h => h) (Or.inr ⟨by rfl, rfl⟩) hS ?_
                          try simp only [Act.put, putA, putZ, putS]
                          refine wpAnyZ_take (i := 25) (oi := ⟨_, _, _, _, _, _⟩) (v := undef) rfl (by kernel_rfl) (by kernel_rfl) (by kernel_rfl) (fun _ _ _ h => h) (Or.inr ⟨by rfl, rfl⟩) hS ?_
                          try simp only [Act.put, putA, putZ, putS]
                          refine wpAnyZ_take (i := 26) (oi := ⟨_, _, _, _, _, _⟩) (v := undef) rfl (by kernel_rfl) (by kernel_rfl) (by kernel_rfl) (fun _ _ _ h => h) (Or.inr ⟨by rfl, rfl⟩) hS ?_
                          try simp only [Act.put, putA, putZ, putS]
                          refine wpAnyZ_take (i := 27) (oi := ⟨_, _, _, _, _, _⟩) (v := undef) rfl (by kernel_rfl) (by kernel_rfl) (by kernel_rfl) (fun _ _ _ h => h) (Or.inr ⟨by rfl, rfl⟩) hS ?_
                          try simp only [Act.put, putA, putZ, putS]
                          refine wpAnyZ_take (i := 28) (oi := ⟨_, _, _, _, _, _⟩) (v := undef) rfl (by kernel_rfl) (by kernel_rfl) (by kernel_rfl) (fun _ _ _ h => h) (Or.inr ⟨by rfl, rfl⟩) hS ?_
                          try simp only [Act.put, putA, putZ, putS]
                          refine tk [29, 30] ?_
                          repeat (refine tkZ (oi := ⟨_, _, _, _, _, _⟩) (v := ?_) rfl (by kernel_rfl) (by rfl) (fun _ _ _ h => h) hS ?_ ?_; rotate_left; (· rintro W' ⟨z0, z1, z2, z3, z4, z5, z6, z7, z8, z9, z10⟩; go_simp; try with_reducible rfl); try simp only [Act.put, putA, putZ, putS])
                          refine tk0 ?_
                          refine wpAnyZ_take (i := 31) (oi := ⟨_, _, _, _, _, _⟩) (v := undef) rfl (by kernel_rfl) (by kernel_rfl) (by kernel_rfl) (fun _ _ _ h => h) (Or.inr ⟨by rfl, rfl⟩) hS ?_
                          try simp only [Act.put, putA, putZ, putS]
                          refine wpAnyZ_take (i := 32) (oi := ⟨_, _, _, _, _, _⟩) (v := undef) rfl (by kernel_rfl) (by kernel_rfl) (by kernel_rfl) (fun _ _ _ h => h) (Or.inr ⟨by rfl, rfl⟩) hS ?_
                          try simp only [Act.put, putA, putZ, putS]
                          refine wpAnyZ_take (i := 33) (oi := ⟨_, _, _, _, _, _⟩) (v := undef) rfl (by kernel_rfl) (by kernel_rfl) (by kernel_rfl) (fun _ _ _ h => h) (Or.inr ⟨by rfl, rfl⟩) hS ?_
                          try simp only [Act.put, putA, putZ, putS]
                          refine wpAnyZ_take (i := 34) (oi := ⟨_, _, _, _, _, _⟩) (v := undef) rfl (by kernel_rfl) (by kernel_rfl) (by kernel_rfl) (fun _ _ _ h => h) (Or.inr ⟨by rfl, rfl⟩) hS ?_
                          try simp only [Act.put, putA, putZ, putS]
                          refine wpAnyZ_take (i := 35) (oi := ⟨_, _, _, _, _, _⟩) (v := undef) rfl (by kernel_rfl) (by kernel_rfl) (by kernel_rfl) (fun _ _ _ h => h) (Or.inr ⟨by rfl, rfl⟩) hS ?_
                          try simp only [Act.put, putA, putZ, putS]
                          refine wpAnyZ_take (i := 36) (oi := ⟨_, _, _, _, _, _⟩) (v := undef) rfl (by kernel_rfl) (by kernel_rfl) (by kernel_rfl) (fun _ _ _ h => h) (Or.inr ⟨by rfl, rfl⟩) hS ?_
                          try simp only [Act.put, putA, putZ, putS]
                          refine wpAnyZ_take (i := 37) (oi := ⟨_, _, _, _, _, _⟩) (v := undef) rfl (by kernel_rfl) (by kernel_rfl) (by kernel_rfl) (fun _ _ _ h => h) (Or.inr ⟨by rfl, rfl⟩) hS ?_
                          try simp only [Act.put, putA, putZ, putS]
                          refine wpAnyZ_take (i := 38) (oi := ⟨_, _, _, _, _, _⟩) (v := undef) rfl (by kernel_rfl) (by kernel_rfl) (by kernel_rfl) (fun _ _ _ h => h) (Or.inr ⟨by rfl, rfl⟩) hS ?_
                          try simp only [Act.put, putA, putZ, putS]
                          refine wpAnyZ_take (i := 39) (oi := ⟨_, _, _, _, _, _⟩) (v := undef) rfl (by kernel_rfl) (by kernel_rfl) (by kernel_rfl) (fun _ _ _ h => h) (Or.inr ⟨by rfl, rfl⟩) hS ?_
                          try simp only [Act.put, putA, putZ, putS]
                          refine wpAnyZ_take (i := 40) (oi := ⟨_, _, _, _, _, _⟩) (v := undef) rfl (by kernel_rfl) (by kernel_rfl) (by kernel_rfl) (fun _ _ _ h => h) (Or.inr ⟨by rfl, rfl⟩) hS ?_
                          try simp only [Act.put, putA, putZ, putS]
                          refine wpAnyZ_take (i := 41) (oi := ⟨_, _, _, _, _, _⟩) (v := undef) rfl (by kernel_rfl) (by kernel_rfl) (by kernel_rfl) (fun _ _ _ h => h) (Or.inr ⟨by rfl, rfl⟩) hS ?_
                          try simp only [Act.put, putA, putZ, putS]
                          refine wpAnyZ_take (i := 42) (oi := ⟨_, _, _, _, _, _⟩) (v := undef) rfl (by kernel_rfl) (by kernel_rfl) (by kernel_rfl) (fun _ _ _ h => h) (Or.inr ⟨by rfl, rfl⟩) hS ?_
                          try simp only [Act.put, putA, putZ, putS]
                          refine wpAnyZ_take (i := 43) (oi := ⟨_, _, _, _, _, _⟩) (v := undef) rfl (by kernel_rfl) (by kernel_rfl) (by kernel_rfl) (fun _ _ _ h => h) (Or.inr ⟨by rfl, rfl⟩) hS ?_
                          try simp only [Act.put, putA, putZ, putS]
                          refine wpAnyZ_take (i := 44) (oi := ⟨_, _, _, _, _, _⟩) (v := undef) rfl (by kernel_rfl) (by kernel_rfl) (by kernel_rfl) (fun _ _ _ h => h) (Or.inr ⟨by rfl, rfl⟩) hS ?_
                          try simp only [Act.put, putA, putZ, putS]
                          refine wpAnyZ_take (i := 45) (oi := ⟨_, _, _, _, _, _⟩) (v := undef) rfl (by kernel_rfl) (by kernel_rfl) (by kernel_rfl) (fun _ _ _ h => h) (Or.inr ⟨by rfl, rfl⟩) hS ?_
                          try simp only [Act.put, putA, putZ, putS]
                          refine tk [46] ?_
                          repeat (refine tkZ (oi := ⟨_, _, _, _, _, _⟩) (v := ?_) rfl (by kernel_rfl) (by rfl) (fun _ _ _ h => h) hS ?_ ?_; rotate_left; (· rintro W' ⟨z0, z1, z2, z3, z4, z5, z6, z7, z8, z9, z10⟩; go_simp; try with_reducible rfl); try simp only [Act.put, putA, putZ, putS])
                          refine tk0 ?_
                          refine wpAnyZ_done (by kernel_rfl) ?_ _
                          go_wp2_with fail
                          go_meet
                          exact ⟨by rw [HGE.out]; rfl, HBX1.out⟩
                        · rw [hnm] at HNA HGE
                          refine wpAnyZ_next (rs := [20]) (by kernel_rfl) (by simp) ?_
                          refine NextZ.cons (o := ⟨some 72, _, _, _, _, _⟩) rfl (fun K hK => ?_) NextZ.nil
                          go_simp
                          refine (HNA.out _ HBX0.out).mono ?_
                          rintro _ X1 ⟨rfl, hb1⟩
                          (try go_wp2_with fail)
                          have HBX1 := Lib.hid (HBX0.out.trans (hb1.mono HBX0.out.size))
                          refine hK.out _ _ (HS15.out _ HBX1.out) (fun hS => ?_)
                          clear hK K hb1
                          try simp only [Act.put, putA, putZ, putS]
                          refine tk [21, 22, 23, 24, 25, 26, 27] ?_
                          repeat (refine tkZ (oi := ⟨_, _, _, _, _, _⟩) (v := ?_) rfl (by kernel_rfl) (by rfl) (fun _ _ _ h => h) hS ?_ ?_; rotate_left; (· rintro W' ⟨z0, z1, z2, z3, z4, z5, z6, z7, z8, z9, z10⟩; go_simp; try with_reducible rfl); try simp only [Act.put, putA, putZ, putS])
                          refine tk0 ?_
                          cases hmv : mv
                          · rw [hmv] at HMO HGE
                            refine wpAnyZ_next (rs := [28]) (by kernel_rfl) (by simp) ?_
                            refine NextZ.cons (o := ⟨some 80, _, _, _, _, _⟩) rfl (fun K hK => ?_) NextZ.nil
                            go_simp
                            refine (HMO.out _ HBX1.out).mono ?_
                            rintro _ X2 ⟨rfl, hb2⟩
                            (try go_wp2_with fail)
                            have HBX2 := Lib.hid (HBX1.out.trans (hb2.mono HBX1.out.size))
                            refine hK.out _ _ (HS15.out _ HBX2.out) (fun hS => ?_)
                            clear hK K hb2
                            try simp only [Act.put, putA, putZ, putS]
                            refine tk [29, 30] ?_
                            repeat (refine tkZ (oi := ⟨_, _, _, _, _, _⟩) (v := ?_) rfl (by kernel_rfl) (by rfl) (fun _ _ _ h => h) hS ?_ ?_; rotate_left; (· rintro W' ⟨z0, z1, z2, z3, z4, z5, z6, z7, z8, z9, z10⟩; go_simp; try with_reducible rfl); try simp only [Act.put, putA, putZ, putS])
                            refine tk0 ?_
                            refine wpAnyZ_take (i := 31) (oi := ⟨_, _, _, _, _, _⟩) (v := undef) rfl (by kernel_rfl) (by kernel_rfl) (by kernel_rfl) (fun _ _ _ h => h) (Or.inr ⟨by rfl, rfl⟩) hS ?_
                            try simp only [Act.put, putA, putZ, putS]
                            refine wpAnyZ_take (i := 32) (oi := ⟨_, _, _, _, _, _⟩) (v := undef) rfl (by kernel_rfl) (by kernel_rfl) (by kernel_rfl) (fun _ _ _ h => h) (Or.inr ⟨by rfl, rfl⟩) hS ?_
                            try simp only [Act.put, putA, putZ, putS]
                            refine wpAnyZ_take (i := 33) (oi := ⟨_, _, _, _, _, _⟩) (v := undef) rfl (by kernel_rfl) (by kernel_rfl) (by kernel_rfl) (fun _ _ _ h => h) (Or.inr ⟨by rfl, rfl⟩) hS ?_
                            try simp only [Act.put, putA, putZ, putS]
                            refine wpAnyZ_take (i := 34) (oi := ⟨_, _, _, _, _, _⟩) (v := undef) rfl (by kernel_rfl) (by kernel_rfl) (by kernel_rfl) (fun _ _ _ h => h) (Or.inr ⟨by rfl, rfl⟩) hS ?_
                            try simp only [Act.put, putA, putZ, putS]
                            refine wpAnyZ_take (i := 35) (oi := ⟨_, _, _, _, _, _⟩) (v := undef) rfl (by kernel_rfl) (by kernel_rfl) (by kernel_rfl) (fun _ _ _ h => h) (Or.inr ⟨by rfl, rfl⟩) hS ?_
                            try simp only [Act.put, putA, putZ, putS]
                            refine wpAnyZ_take (i := 36) (oi := ⟨_, _, _, _, _, _⟩) (v := undef) rfl (by kernel_rfl) (by kernel_rfl) (by kernel_rfl) (fun _ _ _ h => h) (Or.inr ⟨by rfl, rfl⟩) hS ?_
                            try simp only [Act.put, putA, putZ, putS]
                            refine wpAnyZ_take (i := 37) (oi := ⟨_, _, _, _, _, _⟩) (v := undef) rfl (by kernel_rfl) (by kernel_rfl) (by kernel_rfl) (fun _ _ _ h => h) (Or.inr ⟨by rfl, rfl⟩) hS ?_
                            try simp only [Act.put, putA, putZ, putS]
                            refine wpAnyZ_take (i := 38) (oi := ⟨_, _, _, _, _, _⟩) (v := undef) rfl (by kernel_rfl) (by kernel_rfl) (by kernel_rfl) (fun _ _ _ h => h) (Or.inr ⟨by rfl, rfl⟩) hS ?_
                            try simp only [Act.put, putA, putZ, putS]
                            refine wpAnyZ_take (i := 39) (oi := ⟨_, _, _, _, _, _⟩) (v := undef) rfl (by kernel_rfl) (by kernel_rfl) (by kernel_rfl) (fun _ _ _ h => h) (Or.inr ⟨by rfl, rfl⟩) hS ?_
                            try simp only [Act.put, putA, putZ, putS]
                            refine wpAnyZ_take (i := 40) (oi := ⟨_, _, _, _, _, _⟩) (v := undef) rfl (by kernel_rfl) (by kernel_rfl) (by kernel_rfl) (fun _ _ _ h => h) (Or.inr ⟨by rfl, rfl⟩) hS ?_
                            try simp only [Act.put, putA, putZ, putS]
                            refine wpAnyZ_take (i := 41) (oi := ⟨_, _, _, _, _, _⟩) (v := undef) rfl (by kernel_rfl) (by kernel_rfl) (by kernel_rfl) (fun _ _ _ h => h) (Or.inr ⟨by rfl, rfl⟩) hS ?_
                            try simp only [Act.put, putA, putZ, putS]
                            refine wpAnyZ_take (i := 42) (oi := ⟨_, _, _, _, _, _⟩) (v := undef) rfl (by kernel_rfl) (by kernel_rfl) (by kernel_rfl) (fun _ _ _ h => h) (Or.inr ⟨by rfl, rfl⟩) hS ?_
                            try simp only [Act.put, putA, putZ, putS]
                            refine wpAnyZ_take (i := 43) (oi := ⟨_, _, _, _, _, _⟩) (v := undef) rfl (by kernel_rfl) (by kernel_rfl) (by kernel_rfl) (fun _ _ _ h => h) (Or.inr ⟨by rfl, rfl⟩) hS ?_
                            try simp only [Act.put, putA, putZ, putS]
                            refine wpAnyZ_take (i := 44) (oi := ⟨_, _, _, _, _, _⟩) (v := undef) rfl (by kernel_rfl) (by kernel_rfl) (by kernel_rfl) (fun _ _ _ h => h) (Or.inr ⟨by rfl, rfl⟩) hS ?_
                            try simp only [Act.put, putA, putZ, putS]
                            refine wpAnyZ_take (i := 45) (oi := ⟨_, _, _, _, _, _⟩) (v := undef) rfl (by kernel_rfl) (by kernel_rfl) (by kernel_rfl) (fun _ _ _ h => h) (Or.inr ⟨by rfl, rfl⟩) hS ?_
                            try simp only [Act.put, putA, putZ, putS]
                            refine tk [46] ?_
                            repeat (refine tkZ (oi := ⟨_, _, _, _, _, _⟩) (v := ?_) rfl (by kernel_rfl) (by rfl) (fun _ _ _ h => h) hS ?_ ?_; rotate_left; (· rintro W' ⟨z0, z1, z2, z3, z4, z5, z6, z7, z8, z9, z10⟩; go_simp; try with_reducible rfl); try simp only [Act.put, putA, putZ, putS])
                            refine tk0 ?_
                            refine wpAnyZ_done (by kernel_rfl) ?_ _
                            go_wp2_with fail
                            go_meet
                            exact ⟨by rw [HGE.out]; rfl, HBX2.out⟩
                          · rw [hmv] at HMO HGE
                            refine wpAnyZ_next (rs := [28]) (by kernel_rfl) (by simp) ?_
                            refine NextZ.cons (o := ⟨some 80, _, _, _, _, _⟩) rfl (fun K hK => ?_) NextZ.nil
                            go_simp
                            refine (HMO.out _ HBX1.out).mono ?_
                            rintro _ X2 ⟨rfl, hb2⟩
                            (try go_wp2_with fail)
                            have HBX2 := Lib.hid (HBX1.out.trans (hb2.mono HBX1.out.size))
                            refine hK.out _ _ (HS15.out _ HBX2.out) (fun hS => ?_)
                            clear hK K hb2
                            try simp only [Act.put, putA, putZ, putS]
                            refine tk [29, 30, 31, 32, 33, 34, 35, 36, 37, 38, 39, 40, 41, 42] ?_
                            repeat (refine tkZ (oi := ⟨_, _, _, _, _, _⟩) (v := ?_) rfl (by kernel_rfl) (by rfl) (fun _ _ _ h => h) hS ?_ ?_; rotate_left; (· rintro W' ⟨z0, z1, z2, z3, z4, z5, z6, z7, z8, z9, z10⟩; go_simp; try with_reducible rfl); try simp only [Act.put, putA, putZ, putS])
                            refine tk0 ?_
                            refine wpAnyZ_next (rs := [43]) (by kernel_rfl) (by simp) ?_
                            refine NextZ.cons (o := ⟨some 95, _, _, _, _, _⟩) rfl (fun K hK => ?_) NextZ.nil
                            go_simp
                            refine (HME.out _ HBX2.out).mono ?_
                            rintro _ X3 ⟨u, rfl, hu, hb3⟩
                            obtain ⟨ua, uc, rfl⟩ := hu.slice
                            clear hu
                            (try go_wp2_with fail)
                            have HBX3 := Lib.hid (HBX2.out.trans (hb3.mono HBX2.out.size))
                            refine hK.out _ _ (HS15.out _ HBX3.out) (fun hS => ?_)
                            clear hK K hb3
                            try simp only [Act.put, putA, putZ, putS]
                            refine tk [44, 45, 46] ?_
                            repeat (refine tkZ (oi := ⟨_, _, _, _, _, _⟩) (v := ?_) rfl (by kernel_rfl) (by rfl) (fun _ _ _ h => h) hS ?_ ?_; rotate_left; (· rintro W' ⟨z0, z1, z2, z3, z4, z5, z6, z7, z8, z9, z10⟩; go_simp; try with_reducible rfl); try simp only [Act.put, putA, putZ, putS])
                            refine tk0 ?_
                            refine wpAnyZ_done (by kernel_rfl) ?_ _
                            go_wp2_with fail
                            go_meet
                            exact ⟨by rw [HGE.out]; rfl, HBX3.out⟩
                    · rw [he1, he2] at HGE
                      refine tk [0, 1, 2, 3, 4, 5] ?_
                      repeat (refine tkZ (oi := ⟨_, _, _, _, _, _⟩) (v := ?_) rfl (by kernel_rfl) (by rfl) (fun _ _ _ h => h) hS ?_ ?_; rotate_left; (· rintro W' ⟨z0, z1, z2, z3, z4, z5, z6, z7, z8, z9, z10⟩; go_simp; try with_reducible rfl); try simp only [Act.put, putA, putZ, putS])
                      refine tk0 ?_
                      refine tk [6, 7, 8, 9, 10] ?_
                      repeat (refine tkZ (oi := ⟨_, _, _, _, _, _⟩) (v := ?_) rfl (by kernel_rfl) (by rfl) (fun _ _ _ h => h) hS ?_ ?_; rotate_left; (· rintro W' ⟨z0, z1, z2, z3, z4, z5, z6, z7, z8, z9, z10⟩; go_simp; try with_reducible rfl); try simp only [Act.put, putA, putZ, putS])
                      refine tk0 ?_
                      refine wpAnyZ_take (i := 11) (oi := ⟨_, _, _, _, _, _⟩) (v := undef) rfl (by kernel_rfl) (by kernel_rfl) (by kernel_rfl) (fun _ _ _ h => h) (Or.inr ⟨by rfl, rfl⟩) hS ?_
                      try simp only [Act.put, putA, putZ, putS]
                      refine wpAnyZ_take (i := 12) (oi := ⟨_, _, _, _, _, _⟩) (v := undef) rfl (by kernel_rfl) (by kernel_rfl) (by kernel_rfl) (fun _ _ _ h => h) (Or.inr ⟨by rfl, rfl⟩) hS ?_
                      try simp only [Act.put, putA, putZ, putS]
                      refine wpAnyZ_take (i := 13) (oi := ⟨_, _, _, _, _, _⟩) (v := undef) rfl (by kernel_rfl) (by kernel_rfl) (by kernel_rfl) (fun _ _ _ h => h) (Or.inr ⟨by rfl, rfl⟩) hS ?_
                      try simp only [Act.put, putA, putZ, putS]
                      refine tk [14, 15] ?_
                      repeat (refine tkZ (oi := ⟨_, _, _, _, _, _⟩) (v := ?_) rfl (by kernel_rfl) (by rfl) (fun _ _ _ h => h) hS ?_ ?_; rotate_left; (· rintro W' ⟨z0, z1, z2, z3, z4, z5, z6, z7, z8, z9, z10⟩; go_simp; try with_reducible rfl); try simp only [Act.put, putA, putZ, putS])
                      refine tk0 ?_
                      refine tk [16, 17, 18, 19] ?_
                      repeat (refine tkZ (oi := ⟨_, _, _, _, _, _⟩) (v := ?_) rfl (by kernel_rfl) (by rfl) (fun _ _ _ h => h) hS ?_ ?_; rotate_left; (· rintro W' ⟨z0, z1, z2, z3, z4, z5, z6, z7, z8, z9, z10⟩; go_simp; try with_reducible rfl); try simp only [Act.put, putA, putZ, putS])
                      refine tk0 ?_
                      cases hnm : nm2
                      · rw [hnm] at HNA HGE
                        refine wpAnyZ_next (rs := [20]) (by kernel_rfl) (by simp) ?_
                        refine NextZ.cons (o := ⟨some 72, _, _, _, _, _⟩) rfl (fun K hK => ?_) NextZ.nil
                        go_simp
                        refine (HNA.out _ HBX0.out).mono ?_
                        rintro _ X1 ⟨rfl, hb1⟩
                        (try go_wp2_with fail)
                        have HBX1 := Lib.hid (HBX0.out.trans (hb1.mono HBX0.out.size))
                        refine hK.out _ _ (HS15.out _ HBX1.out) (fun hS => ?_)
                        clear hK K hb1
                        try simp only [Act.put, putA, putZ, putS]
                        refine tk [21, 22] ?_
                        repeat (refine tkZ (oi := ⟨_, _, _, _, _, _⟩) (v := ?_) rfl (by kernel_rfl) (by rfl) (fun _ _ _ h => h) hS ?_ ?_; rotate_left; (· rintro W' ⟨z0, z1, z2, z3, z4, z5, z6, z7, z8, z9, z10⟩; go_simp; try with_reducible rfl); try simp only [Act.put, putA, putZ, putS])
                        refine tk0 ?_
                        refine wpAnyZ_take (i := 23) (oi := ⟨_, _, _, _, _, _⟩) (v := undef) rfl (by kernel_rfl) (by kernel_rfl) (by kernel_rfl) (fun _ _ _ h => h) (Or.inr ⟨by rfl, rfl⟩) hS ?_
                        try simp only [Act.put, putA, putZ, putS]
                        refine wpAnyZ_take (i := 24) (oi := ⟨_, _, _, _, _, _⟩) (v := undef) rfl (by kernel_rfl) (by kernel_rfl) (by kernel_rfl) (fun _ _ _ h => h) (Or.inr ⟨by rfl, rfl⟩) hS ?_
                        try simp only [Act.put, putA, putZ, putS]
                        refine wpAnyZ_take (i := 25) (oi := ⟨_, _, _, _, _, _⟩) (v := undef) rfl (by kernel_rfl) (by kernel_rfl) (by kernel_rfl) (fun _ _ _ h => h) (Or.inr ⟨by rfl, rfl⟩) hS ?_
                        try simp only [Act.put, putA, putZ, putS]
                        refine wpAnyZ_take (i := 26) (oi := ⟨_, _, _, _, _, _⟩) (v := undef) rfl (by kernel_rfl) (by kernel_rfl) (by kernel_rfl) (fun _ _ _ h => h) (Or.inr ⟨by rfl, rfl⟩) hS ?_
                        try simp only [Act.put, putA, putZ, putS]
                        refine wpAnyZ_take (i := 27) (oi := ⟨_, _, _, _, _, _⟩) (v := undef) rfl (by kernel_rfl) (by kernel_rfl) (by kernel_rfl) (fun _ _ _ h => h) (Or.inr ⟨by rfl, rfl⟩) hS ?_
                        try simp only [Act.put, putA, putZ, putS]
                        refine wpAnyZ_take (i := 28) (oi := ⟨_, _, _, _, _, _⟩) (v := undef) rfl (by kernel_rfl) (by kernel_rfl) (by kernel_rfl) (fun _ _ _ h => h) (Or.inr ⟨by rfl, rfl⟩) hS ?_
                        try simp only [Act.put, putA, putZ, putS]
                        refine tk [29, 30] ?_
                        repeat (refine tkZ (oi := ⟨_, _, _, _, _, _⟩) (v := ?_) rfl (by kernel_rfl) (by rfl) (fun _ _ _ h => h) hS ?_ ?_; rotate_left; (· rintro W' ⟨z0, z1, z2, z3, z4, z5, z6, z7, z8, z9, z10⟩; go_simp; try with_reducible rfl); try simp only [Act.put, putA, putZ, putS])
                        refine tk0 ?_
                        refine wpAnyZ_take (i := 31) (oi := ⟨_, _, _, _, _, _⟩) (v := undef) rfl (by kernel_rfl) (by kernel_rfl) (by kernel_rfl) (fun _ _ _ h => h) (Or.inr ⟨by rfl, rfl⟩) hS ?_
                        try simp only [Act.put, putA, putZ, putS]
                        refine wpAnyZ_take (i := 32) (oi := ⟨_, _, _, _, _, _⟩) (v := undef) rfl (by kernel_rfl) (by kernel_rfl) (by kernel_rfl) (fun _ _ _ h => h) (Or.inr ⟨by rfl, rfl⟩) hS ?_
                        try simp only [Act.put, putA, putZ, putS]
                        refine wpAnyZ_take (i := 33) (oi := ⟨_, _, _, _, _, _⟩) (v := undef) rfl (by kernel_rfl) (by kernel_rfl) (by kernel_rfl) (fun _ _ _ h => h) (Or.inr ⟨by rfl, rfl⟩) hS ?_
                        try simp only [Act.put, putA, putZ, putS]
                        refine wpAnyZ_take (i := 34) (oi := ⟨_, _, _, _, _, _⟩) (v := undef) rfl (by kernel_rfl) (by kernel_rfl) (by kernel_rfl) (fun _ _ _ h => h) (Or.inr ⟨by rfl, rfl⟩) hS ?_
                        try simp only [Act.put, putA, putZ, putS]
                        refine wpAnyZ_take (i := 35) (oi := ⟨_, _, _, _, _, _⟩) (v := undef) rfl (by kernel_rfl) (by kernel_rfl) (by kernel_rfl) (fun _ _ _ h => h) (Or.inr ⟨by rfl, rfl⟩) hS ?_
                        try simp only [Act.put, putA, putZ, putS]
                        refine wpAnyZ_take (i := 36) (oi := ⟨_, _, _, _, _, _⟩) (v := undef) rfl (by kernel_rfl) (by kernel_rfl) (by kernel_rfl) (fun _ _ _ h => h) (Or.inr ⟨by rfl, rfl⟩) hS ?_
                        try simp only [Act.put, putA, putZ, putS]
                        refine wpAnyZ_take (i := 37) (oi := ⟨_, _, _, _, _, _⟩) (v := undef) rfl (by kernel_rfl) (by kernel_rfl) (by kernel_rfl) (fun _ _ _ h => h) (Or.inr ⟨by rfl, rfl⟩) hS ?_
                        try simp only [Act.put, putA, putZ, putS]
                        refine wpAnyZ_take (i := 38) (oi := ⟨_, _, _, _, _, _⟩) (v := undef) rfl (by kernel_rfl) (by kernel_rfl) (by kernel_rfl) (fun _ _ _ h => h) (Or.inr ⟨by rfl, rfl⟩) hS ?_
                        try simp only [Act.put, putA, putZ, putS]
                        refine wpAnyZ_take (i := 39) (oi := ⟨_, _, _, _, _, _⟩) (v := undef) rfl (by kernel_rfl) (by kernel_rfl) (by kernel_rfl) (fun _ _ _ h => h) (Or.inr ⟨by rfl, rfl⟩) hS ?_
                        try simp only [Act.put, putA, putZ, putS]
                        refine wpAnyZ_take (i := 40) (oi := ⟨_, _, _, _, _, _⟩) (v := undef) rfl (by kernel_rfl) (by kernel_rfl) (by kernel_rfl) (fun _ _ _ h => h) (Or.inr ⟨by rfl, rfl⟩) hS ?_
                        try simp only [Act.put, putA, putZ, putS]
                        refine wpAnyZ_take (i := 41) (oi := ⟨_, _, _, _, _, _⟩) (v := undef) rfl (by kernel_rfl) (by kernel_rfl) (by kernel_rfl) (fun _ _ _ h => h) (Or.inr ⟨by rfl, rfl⟩) hS ?_
                        try simp only [Act.put, putA, putZ, putS]
                        refine wpAnyZ_take (i := 42) (oi := ⟨_, _, _, _, _, _⟩) (v := undef) rfl (by kernel_rfl) (by kernel_rfl) (by kernel_rfl) (fun _ _ _ h => h) (Or.inr ⟨by rfl, rfl⟩) hS ?_
                        try simp only [Act.put, putA, putZ, putS]
                        refine wpAnyZ_take (i := 43) (oi := ⟨_, _, _, _, _, _⟩) (v := undef) rfl (by kernel_rfl) (by kernel_rfl) (by kernel_rfl) (fun _ _ _ h => h) (Or.inr ⟨by rfl, rfl⟩) hS ?_
                        try simp only [Act.put, putA, putZ, putS]
                        refine wpAnyZ_take (i := 44) (oi := ⟨_, _, _, _, _, _⟩) (v := undef) rfl (by kernel_rfl) (by kernel_rfl) (by kernel_rfl) (fun _ _ _ h => h) (Or.inr ⟨by rfl, rfl⟩) hS ?_
                        try simp only [Act.put, putA, putZ, putS]
                        refine wpAnyZ_take (i := 45) (oi := ⟨_, _, _, _, _, _⟩) (v := undef) rfl (by kernel_rfl) (by kernel_rfl) (by kernel_rfl) (fun _ _ _ h => h) (Or.inr ⟨by rfl, rfl⟩) hS ?_
                        try simp only [Act.put, putA, putZ, putS]
                        refine tk [46] ?_
                        repeat (refine tkZ (oi := ⟨_, _, _, _, _, _⟩) (v := ?_) rfl (by kernel_rfl) (by rfl) (fun _ _ _ h => h) hS ?_ ?_; rotate_left; (· rintro W' ⟨z0, z1, z2, z3, z4, z5, z6, z7, z8, z9, z10⟩; go_simp; try with_reducible rfl); try simp only [Act.put, putA, putZ, putS])
                        refine tk0 ?_
                        refine wpAnyZ_done (by kernel_rfl) ?_ _
                        go_wp2_with fail
                        go_meet
                        exact ⟨by rw [HGE.out]; rfl, HBX1.out⟩
                      · rw [hnm] at HNA HGE
                        refine wpAnyZ_next (rs := [20]) (by kernel_rfl) (by simp) ?_
                        refine NextZ.cons (o := ⟨some 72, _, _, _, _, _⟩) rfl (fun K hK => ?_) NextZ.nil
                        go_simp
                        refine (HNA.out _ HBX0.out).mono ?_
                        rintro _ X1 ⟨rfl, hb1⟩
                        (try go_wp2_with fail)
                        have HBX1 := Lib.hid (HBX0.out.trans (hb1.mono HBX0.out.size))
                        refine hK.out _ _ (HS15.out _ HBX1.out) (fun hS => ?_)
                        clear hK K hb1
                        try simp only [Act.put, putA, putZ, putS]
                        refine tk [21, 22, 23, 24, 25, 26, 27] ?_
                        repeat (refine tkZ (oi := ⟨_, _, _, _, _, _⟩) (v := ?_) rfl (by kernel_rfl) (by rfl) (fun _ _ _ h => h) hS ?_ ?_; rotate_left; (· rintro W' ⟨z0, z1, z2, z3, z4, z5, z6, z7, z8, z9, z10⟩; go_simp; try with_reducible rfl); try simp only [Act.put, putA, putZ, putS])
                        refine tk0 ?_
                        cases hmv : mv
                        · rw [hmv] at HMO HGE
                          refine wpAnyZ_next (rs := [28]) (by kernel_rfl) (by simp) ?_
                          refine NextZ.cons (o := ⟨some 80, _, _, _, _, _⟩) rfl (fun K hK => ?_) NextZ.nil
                          go_simp
                          refine (HMO.out _ HBX1.out).mono ?_
                          rintro _ X2 ⟨rfl, hb2⟩
                          (try go_wp2_with fail)
                          have HBX2 := Lib.hid (HBX1.out.trans (hb2.mono HBX1.out.size))
                          refine hK.out _ _ (HS15.out _ HBX2.out) (fun hS => ?_)
                          clear hK K hb2
                          try simp only [Act.put, putA, putZ, putS]
                          refine tk [29, 30] ?_
                          repeat (refine tkZ (oi := ⟨_, _, _, _, _, _⟩) (v := ?_) rfl (by kernel_rfl) (by rfl) (fun _ _ _ h => h) hS ?_ ?_; rotate_left; (· rintro W' ⟨z0, z1, z2, z3, z4, z5, z6, z7, z8, z9, z10⟩; go_simp; try with_reducible rfl); try simp only [Act.put, putA, putZ, putS])
                          refine tk0 ?_
                          refine wpAnyZ_take (i := 31) (oi := ⟨_, _, _, _, _, _⟩) (v := undef) rfl (by kernel_rfl) (by kernel_rfl) (by kernel_rfl) (fun _ _ _ h => h) (Or.inr ⟨by rfl, rfl⟩) hS ?_
                          try simp only [Act.put, putA, putZ, putS]
                          refine wpAnyZ_take (i := 32) (oi := ⟨_, _, _, _, _, _⟩) (v := undef) rfl (by kernel_rfl) (by kernel_rfl) (by kernel_rfl) (fun _ _ _ h => h) (Or.inr ⟨by rfl, rfl⟩) hS ?_
                          try simp only [Act.put, putA, putZ, putS]
                          refine wpAnyZ_take (i := 33) (oi := ⟨_, _, _, _, _, _⟩) (v := undef) rfl (by kernel_rfl) (by kernel_rfl) (by kernel_rfl) (fun _ _ _ h => h) (Or.inr ⟨by rfl, rfl⟩) hS ?_
                          try simp only [Act.put, putA, putZ, putS]
                          refine wpAnyZ_take (i := 34) (oi := ⟨_, _, _, _, _, _⟩) (v := undef) rfl (by kernel_rfl) (by kernel_rfl) (by kernel_rfl) (fun _ _ _ h => h) (Or.inr ⟨by rfl, rfl⟩) hS ?_
                          try simp only [Act.put, putA, putZ, putS]
                          refine wpAnyZ_take (i := 35) (oi := ⟨_, _, _, _, _, _⟩) (v := undef) rfl (by kernel_rfl) (by kernel_rfl) (by kernel_rfl) (fun _ _ _ h => h) (Or.inr ⟨by rfl, rfl⟩) hS ?_
                          try simp only [Act.put, putA, putZ, putS]
                          refine wpAnyZ_take (i := 36) (oi := ⟨_, _, _, _, _, _⟩) (v := undef) rfl (by kernel_rfl) (by kernel_rfl) (by kernel_rfl) (fun _ _ _ h => h) (Or.inr ⟨by rfl, rfl⟩) hS ?_
                          try simp only [Act.put, putA, putZ, putS]
                          refine wpAnyZ_take (i := 37) (oi := ⟨_, _, _, _, _, _⟩) (v := undef) rfl (by kernel_rfl) (by kernel_rfl) (by kernel_rfl) (fun _ _ _ h => h) (Or.inr ⟨by rfl, rfl⟩) hS ?_
                          try simp only [Act.put, putA, putZ, putS]
                          refine wpAnyZ_take (i := 38) (oi := ⟨_, _, _, _, _, _⟩) (v := undef) rfl (by kernel_rfl) (by kernel_rfl) (by kernel_rfl) (fun _ _ _ h => h) (Or.inr ⟨by rfl, rfl⟩) hS ?_
                          try simp only [Act.put, putA, putZ, putS]
                          refine wpAnyZ_take (i := 39) (oi := ⟨_, _, _, _, _, _⟩) (v := undef) rfl (by kernel_rfl) (by kernel_rfl) (by kernel_rfl) (fun _ _ _ h => h) (Or.inr ⟨by rfl, rfl⟩) hS ?_
                          try simp only [Act.put, putA, putZ, putS]
                          refine wpAnyZ_take (i := 40) (oi := ⟨_, _, _, _, _, _⟩) (v := undef) rfl (by kernel_rfl) (by kernel_rfl) (by kernel_rfl) (fun _ _ _ h => h) (Or.inr ⟨by rfl, rfl⟩) hS ?_
                          try simp only [Act.put, putA, putZ, putS]
                          refine wpAnyZ_take (i := 41) (oi := ⟨_, _, _, _, _, _⟩) (v := undef) rfl (by kernel_rfl) (by kernel_rfl) (by kernel_rfl) (fun _ _ _ h => h) (Or.inr ⟨by rfl, rfl⟩) hS ?_
                          try simp only [Act.put, putA, putZ, putS]
                          refine wpAnyZ_take (i := 42) (oi := ⟨_, _, _, _, _, _⟩) (v := undef) rfl (by kernel_rfl) (by kernel_rfl) (by kernel_rfl) (fun _ _ _ h => h) (Or.inr ⟨by rfl, rfl⟩) hS ?_
                          try simp only [Act.put, putA, putZ, putS]
                          refine wpAnyZ_take (i := 43) (oi := ⟨_, _, _, _, _, _⟩) (v := undef) rfl (by kernel_rfl) (by kernel_rfl) (by kernel_rfl) (fun _ _ _ h => h) (Or.inr ⟨by rfl, rfl⟩) hS ?_
                          try simp only [Act.put, putA, putZ, putS]
                          refine wpAnyZ_take (i := 44) (oi := ⟨_, _, _, _, _, _⟩) (v := undef) rfl (by kernel_rfl) (by kernel_rfl) (by kernel_rfl) (fun _ _ _ h => h) (Or.inr ⟨by rfl, rfl⟩) hS ?_
                          try simp only [Act.put, putA, putZ, putS]
                          refine wpAnyZ_take (i := 45) (oi := ⟨_, _, _, _, _, _⟩) (v := undef) rfl (by kernel_rfl) (by kernel_rfl) (by kernel_rfl) (fun _ _ _ h => h) (Or.inr ⟨by rfl, rfl⟩) hS ?_
                          try simp only [Act.put, putA, putZ, putS]
                          refine tk [46] ?_
                          repeat (refine tkZ (oi := ⟨_, _, _, _, _, _⟩) (v := ?_) rfl (by kernel_rfl) (by rfl) (fun _ _ _ h => h) hS ?_ ?_; rotate_left; (· rintro W' ⟨z0, z1, z2, z3, z4, z5, z6, z7, z8, z9, z10⟩; go_simp; try with_reducible rfl); try simp only [Act.put, putA, putZ, putS])
                          refine tk0 ?_
                          refine wpAnyZ_done (by kernel_rfl) ?_ _
                          go_wp2_with fail
                          go_meet
                          exact ⟨by rw [HGE.out]; rfl, HBX2.out⟩
                        · rw [hmv] at HMO HGE
                          refine wpAnyZ_next (rs := [28]) (by kernel_rfl) (by simp) ?_
                          refine NextZ.cons (o := ⟨some 80, _, _, _, _, _⟩) rfl (fun K hK => ?_) NextZ.nil
                          go_simp
                          refine (HMO.out _ HBX1.out).mono ?_
                          rintro _ X2 ⟨rfl, hb2⟩
                          (try go_wp2_with fail)
                          have HBX2 := Lib.hid (HBX1.out.trans (hb2.mono HBX1.out.size))
                          refine hK.out _ _ (HS15.out _ HBX2.out) (fun hS => ?_)
                          clear hK K hb2
                          try simp only [Act.put, putA, putZ, putS]
                          refine tk [29, 30, 31, 32, 33, 34, 35, 36, 37, 38, 39, 40, 41, 42] ?_
                          repeat (refine tkZ (oi := ⟨_, _, _, _, _, _⟩) (v := ?_) rfl (by kernel_rfl) (by rfl) (fun _ _ _ h => h) hS ?_ ?_; rotate_left; (· rintro W' ⟨z0, z1, z2, z3, z4, z5, z6, z7, z8, z9, z10⟩; go_simp; try with_reducible rfl); try simp only [Act.put, putA, putZ, putS])
                          refine tk0 ?_
                          refine wpAnyZ_next (rs := [43]) (by kernel_rfl) (by simp) ?_
                          refine NextZ.cons (o := ⟨some 95, _, _, _, _, _⟩) rfl (fun K hK => ?_) NextZ.nil
                          go_simp
                          refine (HME.out _ HBX2.out).mono ?_
                          rintro _ X3 ⟨u, rfl, hu, hb3⟩
                          obtain ⟨ua, uc, rfl⟩ := hu.slice
                          clear hu
                          (try go_wp2_with fail)
                          have HBX3 := Lib.hid (HBX2.out.trans (hb3.mono HBX2.out.size))
                          refine hK.out _ _ (HS15.out _ HBX3.out) (fun hS => ?_)
                          clear hK K hb3
                          try simp only [Act.put, putA, putZ, putS]
                          refine tk [44, 45, 46] ?_
                          repeat (refine tkZ (oi := ⟨_, _, _, _, _, _⟩) (v := ?_) rfl (by kernel_rfl) (by rfl) (fun _ _ _ h => h) hS ?_ ?_; rotate_left; (· rintro W' ⟨z0, z1, z2, z3, z4, z5, z6, z7, z8, z9, z10⟩; go_simp; try with_reducible rfl); try simp only [Act.put, putA, putZ, putS])
                          refine tk0 ?_
                          refine wpAnyZ_done (by kernel_rfl) ?_ _
                          go_wp2_with fail
                          go_meet
                          exact ⟨by rw [HGE.out]; rfl, HBX3.out⟩
                  · rw [he1] at HGE
                    refine tk [0, 1, 2, 3, 4, 5] ?_
                    repeat (refine tkZ (oi := ⟨_, _, _, _, _, _⟩) (v := ?_) rfl (by kernel_rfl) (by rfl) (fun _ _ _ h => h) hS ?_ ?_; rotate_left; (· rintro W' ⟨z0, z1, z2, z3, z4, z5, z6, z7, z8, z9, z10⟩; go_simp; try with_reducible rfl); try simp only [Act.put, putA, putZ, putS])
                    refine tk0 ?_
                    refine wpAnyZ_take (i := 6) (oi := ⟨_, _, _, _, _, _⟩) (v := undef) rfl (by kernel_rfl) (by kernel_rfl) (by kernel_rfl) (fun _ _ _ h => h) (Or.inr ⟨by rfl, rfl⟩) hS ?_
                    try simp only [Act.put, putA, putZ, putS]
                    refine wpAnyZ_take (i := 7) (oi := ⟨_, _, _, _, _, _⟩) (v := undef) rfl (by kernel_rfl) (by kernel_rfl) (by kernel_rfl) (fun _ _ _ h => h) (Or.inr ⟨by rfl, rfl⟩) hS ?_
                    try simp only [Act.put, putA, putZ, putS]
                    refine wpAnyZ_take (i := 8) (oi := ⟨_, _, _, _, _, _⟩) (v := undef) rfl (by kernel_rfl) (by kernel_rfl) (by kernel_rfl) (fun _ _ _ h => h) (Or.inr ⟨by rfl, rfl⟩) hS ?_
                    try simp only [Act.put, putA, putZ, putS]
                    refine tk [9, 10] ?_
                    repeat (refine tkZ (oi := ⟨_, _, _, _, _, _⟩) (v := ?_) rfl (by kernel_rfl) (by rfl) (fun _ _ _ h => h) hS ?_ ?_; rotate_left; (· rintro W' ⟨z0, z1, z2, z3, z4, z5, z6, z7, z8, z9, z10⟩; go_simp; try with_reducible rfl); try simp only [Act.put, putA, putZ, putS])
                    refine tk0 ?_
                    refine wpAnyZ_take (i := 11) (oi := ⟨_, _, _, _, _, _⟩) (v := undef) rfl (by kernel_rfl) (by kernel_rfl) (by kernel_rfl) (fun _ _ _ h => h) (Or.inr ⟨by rfl, rfl⟩) hS ?_
                    try simp only [Act.put, putA, putZ, putS]
                    refine wpAnyZ_take (i := 12) (oi := ⟨_, _, _, _, _, _⟩) (v := undef) rfl (by kernel_rfl) (by kernel_rfl) (by kernel_rfl) (fun _ _ _ h => h) (Or.inr ⟨by rfl, rfl⟩) hS ?_
                    try simp only [Act.put, putA, putZ, putS]
                    refine wpAnyZ_take (i := 13) (oi := ⟨_, _, _, _, _, _⟩) (v := undef) rfl (by kernel_rfl) (by kernel_rfl) (by kernel_rfl) (fun _ _ _ h => h) (Or.inr ⟨by rfl, rfl⟩) hS ?_
                    try simp only [Act.put, putA, putZ, putS]
                    refine tk [14, 15] ?_
                    repeat (refine tkZ (oi := ⟨_, _, _, _, _, _⟩) (v := ?_) rfl (by kernel_rfl) (by rfl) (fun _ _ _ h => h) hS ?_ ?_; rotate_left; (· rintro W' ⟨z0, z1, z2, z3, z4, z5, z6, z7, z8, z9, z10⟩; go_simp; try with_reducible rfl); try simp only [Act.put, putA, putZ, putS])
                    refine tk0 ?_
                    refine tk [16, 17, 18, 19] ?_
                    repeat (refine tkZ (oi := ⟨_, _, _, _, _, _⟩) (v := ?_) rfl (by kernel_rfl) (by rfl) (fun _ _ _ h => h) hS ?_ ?_; rotate_left; (· rintro W' ⟨z0, z1, z2, z3, z4, z5, z6, z7, z8, z9, z10⟩; go_simp; try with_reducible rfl); try simp only [Act.put, putA, putZ, putS])
                    refine tk0 ?_
                    cases hnm : nm2
                    · rw [hnm] at HNA HGE
                      refine wpAnyZ_next (rs := [20]) (by kernel_rfl) (by simp) ?_
                      refine NextZ.cons (o := ⟨some 72, _, _, _, _, _⟩) rfl (fun K hK => ?_) NextZ.nil
                      go_simp
                      refine (HNA.out _ HBX0.out).mono ?_
                      rintro _ X1 ⟨rfl, hb1⟩
                      (try go_wp2_with fail)
                      have HBX1 := Lib.hid (HBX0.out.trans (hb1.mono HBX0.out.size))
                      refine hK.out _ _ (HS15.out _ HBX1.out) (fun hS => ?_)
                      clear hK K hb1
                      try simp only [Act.put, putA, putZ, putS]
                      refine tk [21, 22] ?_
                      repeat (refine tkZ (oi := ⟨_, _, _, _, _, _⟩) (v := ?_) rfl (by kernel_rfl) (by rfl) (fun _ _ _ h => h) hS ?_ ?_; rotate_left; (· rintro W' ⟨z0, z1, z2, z3, z4, z5, z6, z7, z8, z9, z10⟩; go_simp; try with_reducible rfl); try simp only [Act.put, putA, putZ, putS])
                      refine tk0 ?_
                      refine wpAnyZ_take (i := 23) (oi := ⟨_, _, _, _, _, _⟩) (v := undef) rfl (by kernel_rfl) (by kernel_rfl) (by kernel_rfl) (fun _ _ _ h => h) (Or.inr ⟨by rfl, rfl⟩) hS ?_
                      try simp only [Act.put, putA, putZ, putS]
                      refine wpAnyZ_take (i := 24) (oi := ⟨_, _, _, _, _, _⟩) (v := undef) rfl (by kernel_rfl) (by kernel_rfl) (by kernel_rfl) (fun _ _ _ h => h) (Or.inr ⟨by rfl, rfl⟩) hS ?_
                      try simp only [Act.put, putA, putZ, putS]
                      refine wpAnyZ_take (i := 25) (oi := ⟨_, _, _, _, _, _⟩) (v := undef) rfl (by kernel_rfl) (by kernel_rfl) (by kernel_rfl) (fun _ _ _ h => h) (Or.inr ⟨by rfl, rfl⟩) hS ?_
                      try simp only [Act.put, putA, putZ, putS]
                      refine wpAnyZ_take (i := 26) (oi := ⟨_, _, _, _, _, _⟩) (v := undef) rfl (by kernel_rfl) (by kernel_rfl) (by kernel_rfl) (fun _ _ _ h => h) (Or.inr ⟨by rfl, rfl⟩) hS ?_
                      try simp only [Act.put, putA, putZ, putS]
                      refine wpAnyZ_take (i := 27) (oi := ⟨_, _, _, _, _, _⟩) (v := undef) rfl (by kernel_rfl) (by kernel_rfl) (by kernel_rfl) (fun _ _ _ h => h) (Or.inr ⟨by rfl, rfl⟩) hS ?_
                      try simp only [Act.put, putA, putZ, putS]
                      refine wpAnyZ_take (i := 28) (oi := ⟨_, _, _, _, _, _⟩) (v := undef) rfl (by kernel_rfl) (by kernel_rfl) (by kernel_rfl) (fun _ _ _ h => h) (Or.inr ⟨by rfl, rfl⟩) hS ?_
                      try simp only [Act.put, putA, putZ, putS]
                      refine tk [29, 30] ?_
                      repeat (refine tkZ (oi := ⟨_, _, _, _, _, _⟩) (v := ?_) rfl (by kernel_rfl) (by rfl) (fun _ _ _ h => h) hS ?_ ?_; rotate_left; (· rintro W' ⟨z0, z1, z2, z3, z4, z5, z6, z7, z8, z9, z10⟩; go_simp; try with_reducible rfl); try simp only [Act.put, putA, putZ, putS])
                      refine tk0 ?_
                      refine wpAnyZ_take (i := 31) (oi := ⟨_, _, _, _, _, _⟩) (v := undef) rfl (by kernel_rfl) (by kernel_rfl) (by kernel_rfl) (fun _ _ _ h => h) (Or.inr ⟨by rfl, rfl⟩) hS ?_
                      try simp only [Act.put, putA, putZ, putS]
                      refine wpAnyZ_take (i := 32) (oi := ⟨_, _, _, _, _, _⟩) (v := undef) rfl (by kernel_rfl) (by kernel_rfl) (by kernel_rfl) (fun _ _ _ h => h) (Or.inr ⟨by rfl, rfl⟩) hS ?_
                      try simp only [Act.put, putA, putZ, putS]
                      refine wpAnyZ_take (i := 33) (oi := ⟨_, _, _, _, _, _⟩) (v := undef) rfl (by kernel_rfl) (by kernel_rfl) (by kernel_rfl) (fun _ _ _ h => h) (Or.inr ⟨by rfl, rfl⟩) hS ?_
                      try simp only [Act.put, putA, putZ, putS]
                      refine wpAnyZ_take (i := 34) (oi := ⟨_, _, _, _, _, _⟩) (v := undef) rfl (by kernel_rfl) (by kernel_rfl) (by kernel_rfl) (fun _ _ _ h => h) (Or.inr ⟨by rfl, rfl⟩) hS ?_
                      try simp only [Act.put, putA, putZ, putS]
                      refine wpAnyZ_take (i := 35) (oi := ⟨_, _, _, _, _, _⟩) (v := undef) rfl (by kernel_rfl) (by kernel_rfl) (by kernel_rfl) (fun _ _ _ h => h) (Or.inr ⟨by rfl, rfl⟩) hS ?_
                      try simp only [Act.put, putA, putZ, putS]
                      refine wpAnyZ_take (i := 36) (oi := ⟨_, _, _, _, _, _⟩) (v := undef) rfl (by kernel_rfl) (by kernel_rfl) (by kernel_rfl) (fun _ _ _ h => h) (Or.inr ⟨by rfl, rfl⟩) hS ?_
                      try simp only [Act.put, putA, putZ, putS]
                      refine wpAnyZ_take (i := 37) (oi := ⟨_, _, _, _, _, _⟩) (v := undef) rfl (by kernel_rfl) (by kernel_rfl) (by kernel_rfl) (fun _ _ _ h => h) (Or.inr ⟨by rfl, rfl⟩) hS ?_
                      try simp only [Act.put, putA, putZ, putS]
                      refine wpAnyZ_take (i := 38) (oi := ⟨_, _, _, _, _, _⟩) (v := undef) rfl (by kernel_rfl) (by kernel_rfl) (by kernel_rfl) (fun _ _ _ h => h) (Or.inr ⟨by rfl, rfl⟩) hS ?_
                      try simp only [Act.put, putA, putZ, putS]
                      refine wpAnyZ_take (i := 39) (oi := ⟨_, _, _, _, _, _⟩) (v := undef) rfl (by kernel_rfl) (by kernel_rfl) (by kernel_rfl) (fun _ _ _ h => h) (Or.inr ⟨by rfl, rfl⟩) hS ?_
                      try simp only [Act.put, putA, putZ, putS]
                      refine wpAnyZ_take (i := 40) (oi := ⟨_, _, _, _, _, _⟩) (v := undef) rfl (by kernel_rfl) (by kernel_rfl) (by kernel_rfl) (fun _ _ _ h => h) (Or.inr ⟨by rfl, rfl⟩) hS ?_
                      try simp only [Act.put, putA, putZ, putS]
                      refine wpAnyZ_take (i := 41) (oi := ⟨_, _, _, _, _, _⟩) (v := undef) rfl (by kernel_rfl) (by kernel_rfl) (by kernel_rfl) (fun _ _ _ h => h) (Or.inr ⟨by rfl, rfl⟩) hS ?_
                      try simp only [Act.put, putA, putZ, putS]
                      refine wpAnyZ_take (i := 42) (oi := ⟨_, _, _, _, _, _⟩) (v := undef) rfl (by kernel_rfl) (by kernel_rfl) (by kernel_rfl) (fun _ _ _ h => h) (Or.inr ⟨by rfl, rfl⟩) hS ?_
                      try simp only [Act.put, putA, putZ, putS]
                      refine wpAnyZ_take (i := 43) (oi := ⟨_, _, _, _, _, _⟩) (v := undef) rfl (by kernel_rfl) (by kernel_rfl) (by kernel_rfl) (fun _ _ _ h => h) (Or.inr ⟨by rfl, rfl⟩) hS ?_
                      try simp only [Act.put, putA, putZ, putS]
                      refine wpAnyZ_take (i := 44) (oi := ⟨_, _, _, _, _, _⟩) (v := undef) rfl (by kernel_rfl) (by kernel_rfl) (by kernel_rfl) (fun _ _ _ h => h) (Or.inr ⟨by rfl, rfl⟩) hS ?_
                      try simp only [Act.put, putA, putZ, putS]
                      refine wpAnyZ_take (i := 45) (oi := ⟨_, _, _, _, _, _⟩) (v := undef) rfl (by kernel_rfl) (by kernel_rfl) (by kernel_rfl) (fun _ _ _ h => h) (Or.inr ⟨by rfl, rfl⟩) hS ?_
                      try simp only [Act.put, putA, putZ, putS]
                      refine tk [46] ?_
                      repeat (refine tkZ (oi := ⟨_, _, _, _, _, _⟩) (v := ?_) rfl (by kernel_rfl) (by rfl) (fun _ _ _ h => h) hS ?_ ?_; rotate_left; (· rintro W' ⟨z0, z1, z2, z3, z4, z5, z6, z7, z8, z9, z10⟩; go_simp; try with_reducible rfl); try simp only [Act.put, putA, putZ, putS])
                      refine tk0 ?_
                      refine wpAnyZ_done (by kernel_rfl) ?_ _
                      go_wp2_with fail
                      go_meet
                      exact ⟨by rw [HGE.out]; rfl, HBX1.out⟩
                    · rw [hnm] at HNA HGE
                      refine wpAnyZ_next (rs := [20]) (by kernel_rfl) (by simp) ?_
                      refine NextZ.cons (o := ⟨some 72, _, _, _, _, _⟩) rfl (fun K hK => ?_) NextZ.nil
                      go_simp
                      refine (HNA.out _ HBX0.out).mono ?_
                      rintro _ X1 ⟨rfl, hb1⟩
                      (try go_wp2_with fail)
                      have HBX1 := Lib.hid (HBX0.out.trans (hb1.mono HBX0.out.size))
                      refine hK.out _ _ (HS15.out _ HBX1.out) (fun hS => ?_)
                      clear hK K hb1
                      try simp only [Act.put, putA, putZ, putS]
                      refine tk [21, 22, 23, 24, 25, 26, 27] ?_
                      repeat (refine tkZ (oi := ⟨_, _, _, _, _, _⟩) (v := ?_) rfl (by kernel_rfl) (by rfl) (fun _ _ _ h => h) hS ?_ ?_; rotate_left; (· rintro W' ⟨z0, z1, z2, z3, z4, z5, z6, z7, z8, z9, z10⟩; go_simp; try with_reducible rfl); try simp only [Act.put, putA, putZ, putS])
                      refine tk0 ?_
                      cases hmv : mv
                      · rw [hmv] at HMO HGE
                        refine wpAnyZ_next (rs := [28]) (by kernel_rfl) (by simp) ?_
                        refine NextZ.cons (o := ⟨some 80, _, _, _, _, _⟩) rfl (fun K hK => ?_) NextZ.nil
                        go_simp
                        refine (HMO.out _ HBX1.out).mono ?_
                        rintro _ X2 ⟨rfl, hb2⟩
                        (try go_wp2_with fail)
                        have HBX2 := Lib.hid (HBX1.out.trans (hb2.mono HBX1.out.size))
                        refine hK.out _ _ (HS15.out _ HBX2.out) (fun hS => ?_)
                        clear hK K hb2
                        try simp only [Act.put, putA, putZ, putS]
                        refine tk [29, 30] ?_
                        repeat (refine tkZ (oi := ⟨_, _, _, _, _, _⟩) (v := ?_) rfl (by kernel_rfl) (by rfl) (fun _ _ _ h => h) hS ?_ ?_; rotate_left; (· rintro W' ⟨z0, z1, z2, z3, z4, z5, z6, z7, z8, z9, z10⟩; go_simp; try with_reducible rfl); try simp only [Act.put, putA, putZ, putS])
                        refine tk0 ?_
                        refine wpAnyZ_take (i := 31) (oi := ⟨_, _, _, _, _, _⟩) (v := undef) rfl (by kernel_rfl) (by kernel_rfl) (by kernel_rfl) (fun _ _ _ h => h) (Or.inr ⟨by rfl, rfl⟩) hS ?_
                        try simp only [Act.put, putA, putZ, putS]
                        refine wpAnyZ_take (i := 32) (oi := ⟨_, _, _, _, _, _⟩) (v := undef) rfl (by kernel_rfl) (by kernel_rfl) (by kernel_rfl) (fun _ _ _ h => h) (Or.inr ⟨by rfl, rfl⟩) hS ?_
                        try simp only [Act.put, putA, putZ, putS]
                        refine wpAnyZ_take (i := 33) (oi := ⟨_, _, _, _, _, _⟩) (v := undef) rfl (by kernel_rfl) (by kernel_rfl) (by kernel_rfl) (fun _ _ _ h => h) (Or.inr ⟨by rfl, rfl⟩) hS ?_
                        try simp only [Act.put, putA, putZ, putS]
                        refine wpAnyZ_take (i := 34) (oi := ⟨_, _, _, _, _, _⟩) (v := undef) rfl (by kernel_rfl) (by kernel_rfl) (by kernel_rfl) (fun _ _ _ h => h) (Or.inr ⟨by rfl, rfl⟩) hS ?_
                        try simp only [Act.put, putA, putZ, putS]
                        refine wpAnyZ_take (i := 35) (oi := ⟨_, _, _, _, _, _⟩) (v := undef) rfl (by kernel_rfl) (by kernel_rfl) (by kernel_rfl) (fun _ _ _ h => h) (Or.inr ⟨by rfl, rfl⟩) hS ?_
                        try simp only [Act.put, putA, putZ, putS]
                        refine wpAnyZ_take (i := 36) (oi := ⟨_, _, _, _, _, _⟩) (v := undef) rfl (by kernel_rfl) (by kernel_rfl) (by kernel_rfl) (fun _ _ _ h => h) (Or.inr ⟨by rfl, rfl⟩) hS ?_
                        try simp only [Act.put, putA, putZ, putS]
                        refine wpAnyZ_take (i := 37) (oi := ⟨_, _, _, _, _, _⟩) (v := undef) rfl (by kernel_rfl) (by kernel_rfl) (by kernel_rfl) (fun _ _ _ h => h) (Or.inr ⟨by rfl, rfl⟩) hS ?_
                        try simp only [Act.put, putA, putZ, putS]
                        refine wpAnyZ_take (i := 38) (oi := ⟨_, _, _, _, _, _⟩) (v := undef) rfl (by kernel_rfl) (by kernel_rfl) (by kernel_rfl) (fun _ _ _ h => h) (Or.inr ⟨by rfl, rfl⟩) hS ?_
                        try simp only [Act.put, putA, putZ, putS]
                        refine wpAnyZ_take (i := 39) (oi := ⟨_, _, _, _, _, _⟩) (v := undef) rfl (by kernel_rfl) (by kernel_rfl) (by kernel_rfl) (fun _ _ _ h => h) (Or.inr ⟨by rfl, rfl⟩) hS ?_
                        try simp only [Act.put, putA, putZ, putS]
                        refine wpAnyZ_take (i := 40) (oi := ⟨_, _, _, _, _, _⟩) (v := undef) rfl (by kernel_rfl) (by kernel_rfl) (by kernel_rfl) (fun _ _ _ h => h) (Or.inr ⟨by rfl, rfl⟩) hS ?_
                        try simp only [Act.put, putA, putZ, putS]
                        refine wpAnyZ_take (i := 41) (oi := ⟨_, _, _, _, _, _⟩) (v := undef) rfl (by kernel_rfl) (by kernel_rfl) (by kernel_rfl) (fun _ _ _ h => h) (Or.inr ⟨by rfl, rfl⟩) hS ?_
                        try simp only [Act.put, putA, putZ, putS]
                        refine wpAnyZ_take (i := 42) (oi := ⟨_, _, _, _, _, _⟩) (v := undef) rfl (by kernel_rfl) (by kernel_rfl) (by kernel_rfl) (fun _ _ _ h => h) (Or.inr ⟨by rfl, rfl⟩) hS ?_
                        try simp only [Act.put, putA, putZ, putS]
                        refine wpAnyZ_take (i := 43) (oi := ⟨_, _, _, _, _, _⟩) (v := undef) rfl (by kernel_rfl) (by kernel_rfl) (by kernel_rfl) (fun _ _ _ h => h) (Or.inr ⟨by rfl, rfl⟩) hS ?_
                        try simp only [Act.put, putA, putZ, putS]
                        refine wpAnyZ_take (i := 44) (oi := ⟨_, _, _, _, _, _⟩) (v := undef) rfl (by kernel_rfl) (by kernel_rfl) (by kernel_rfl) (fun _ _ _ h => h) (Or.inr ⟨by rfl, rfl⟩) hS ?_
                        try simp only [Act.put, putA, putZ, putS]
                        refine wpAnyZ_take (i := 45) (oi := ⟨_, _, _, _, _, _⟩) (v := undef) rfl (by kernel_rfl) (by kernel_rfl) (by kernel_rfl) (fun _ _ _ h => h) (Or.inr ⟨by rfl, rfl⟩) hS ?_
                        try simp only [Act.put, putA, putZ, putS]
                        refine tk [46] ?_
                        repeat (refine tkZ (oi := ⟨_, _, _, _, _, _⟩) (v := ?_) rfl (by kernel_rfl) (by rfl) (fun _ _ _ h => h) hS ?_ ?_; rotate_left; (· rintro W' ⟨z0, z1, z2, z3, z4, z5, z6, z7, z8, z9, z10⟩; go_simp; try with_reducible rfl); try simp only [Act.put, putA, putZ, putS])
                        refine tk0 ?_
                        refine wpAnyZ_done (by kernel_rfl) ?_ _
                        go_wp2_with fail
                        go_meet
                        exact ⟨by rw [HGE.out]; rfl, HBX2.out⟩
                      · rw [hmv] at HMO HGE
                        refine wpAnyZ_next (rs := [28]) (by kernel_rfl) (by simp) ?_
                        refine NextZ.cons (o := ⟨some 80, _, _, _, _, _⟩) rfl (fun K hK => ?_) NextZ.nil
                        go_simp
                        refine (HMO.out _ HBX1.out).mono ?_
                        rintro _ X2 ⟨rfl, hb2⟩
                        (try go_wp2_with fail)
                        have HBX2 := Lib.hid (HBX1.out.trans (hb2.mono HBX1.out.size))
                        refine hK.out _ _ (HS15.out _ HBX2.out) (fun hS => ?_)
                        clear hK K hb2
                        try simp only [Act.put, putA, putZ, putS]
                        refine tk [29, 30, 31, 32, 33, 34, 35, 36, 37, 38, 39, 40, 41, 42] ?_
                        repeat (refine tkZ (oi := ⟨_, _, _, _, _, _⟩) (v := ?_) rfl (by kernel_rfl) (by rfl) (fun _ _ _ h => h) hS ?_ ?_; rotate_left; (· rintro W' ⟨z0, z1, z2, z3, z4, z5, z6, z7, z8, z9, z10⟩; go_simp; try with_reducible rfl); try simp only [Act.put, putA, putZ, putS])
                        refine tk0 ?_
                        refine wpAnyZ_next (rs := [43]) (by kernel_rfl) (by simp) ?_
                        refine NextZ.cons (o := ⟨some 95, _, _, _, _, _⟩) rfl (fun K hK => ?_) NextZ.nil
                        go_simp
                        refine (HME.out _ HBX2.out).mono ?_
                        rintro _ X3 ⟨u, rfl, hu, hb3⟩
                        obtain ⟨ua, uc, rfl⟩ := hu.slice
                        clear hu
                        (try go_wp2_with fail)
                        have HBX3 := Lib.hid (HBX2.out.trans (hb3.mono HBX2.out.size))
                        refine hK.out _ _ (HS15.out _ HBX3.out) (fun hS => ?_)
                        clear hK K hb3
                        try simp only [Act.put, putA, putZ, putS]
                        refine tk [44, 45, 46] ?_
                        repeat (refine tkZ (oi := ⟨_, _, _, _, _, _⟩) (v := ?_) rfl (by kernel_rfl) (by rfl) (fun _ _ _ h => h) hS ?_ ?_; rotate_left; (· rintro W' ⟨z0, z1, z2, z3, z4, z5, z6, z7, z8, z9, z10⟩; go_simp; try with_reducible rfl); try simp only [Act.put, putA, putZ, putS])
                        refine tk0 ?_
                        refine wpAnyZ_done (by kernel_rfl) ?_ _
                        go_wp2_with fail
                        go_meet
                        exact ⟨by rw [HGE.out]; rfl, HBX3.out⟩
                case rest =>
                  rename World => wq
                  obtain ⟨rfl, hbq⟩ := hcut
                  have HAQ := Lib.hid ((HAZ.out.below hbq).sub (L' := [(bG, a8 (gI (gpf f i q)), 40), (bR, a8 (fun _ => 0), 40), (w.heap.size, #[.slice (some ⟨ab, ao, none⟩) no oc, .slice (some ⟨nb, no', none⟩) nw nc, .slice ma nm mc], 25)]) (fun p hp => .tail _ (.tail _ hp)))
                  have HRQ := Lib.hid (HRZ.out.below hbq)
                  clear hbq HAZ HRZ HS15 HNA HMO HME HGE HBX0 HBZ
                  cases gk
                  · have HGN2 : Hid (gI (gpf f i (q + 1)) = gI (gpf f i q)) := HGN.out i q HGKE.out
                    go_wp2_with fail
                    go_roundw
                    case rel => exact ⟨q + 1, by go_num, by omega, by rw [HGN2.out]; exact HAQ.out, HRQ.out⟩
                    case measure => simp [intOf]; omega
                  · have HGY2 := Lib.hid (HGY.out i q hq8 HGKE.out)
                    have eg : wq.cell? ⟨bG, i, none⟩ = some (.int .i64 (gI (gpf f i q) i)) := (HAQ.out.cell (.head _) i).trans (a8_get _ hi8)
                    have fg := HAQ.out.thaw (.head _) i
                    have hgi : gI (gpf f i q) i = ((rowN (gpf f i q i) 8 : Nat) : Int) := rfl
                    have hrl := rowN_lt (gpf f i q i) 8
                    rw [hgi] at eg
                    have HSET := Lib.hid (fun r => BF.set1 (i := i) (cs' := a8 (putL (gI (gpf f i q)) i r)) HAQ.out (.head _) (.int .i64 r) (by rw [a8_size]; exact hi8) (a8_set _ r hi8) (L' := [(bR, a8 (fun _ => 0), 40), (w.heap.size, #[.slice (some ⟨ab, ao, none⟩) no oc, .slice (some ⟨nb, no', none⟩) nw nc, .slice ma nm mc], 25)]) (List.forall_mem_cons.2 ⟨⟨show bR ≠ bG by omega, .tail _ (.head _)⟩, List.forall_mem_cons.2 ⟨⟨show w.heap.size ≠ bG by omega, .tail _ (.tail _ (.head _))⟩, List.forall_mem_nil _⟩⟩))
                    clear hgi
                    generalize rowN (gpf f i q i) 8 = r0 at *
                    have hp8 : 2 ^ q < 256 := by have := Nat.pow_lt_pow_right (a := 2) (by omega) hq8; omega
                    have hor : bits .or .i64 (r0 : Int) ((2 ^ q : Nat) : Int) = ((r0 ||| 2 ^ q : Nat) : Int) := i64_or_nat _ _ (by omega) hp8
                    have hw : wrap64 ((2 : Int) ^ q) = ((2 ^ q : Nat) : Int) := by
                      rw [show ((2 : Int) ^ q) = ((2 ^ q : Nat) : Int) by norm_cast]
                      exact wrap64_nat hp8
                    have hor2 : Hid (bits .or .i64 (r0 : Int) (wrap64 ((2 : Int) ^ q)) = ((r0 ||| 2 ^ q : Nat) : Int)) := by unfold Hid; rw [hw]; exact hor
                    clear hw hor
                    go_wp2_with fail
                    go_roundw
                    case rel => exact ⟨q + 1, by go_num, by omega, by rw [hor2.out, HGY2.out]; exact HSET.out _, HRQ.out.fr (Fr.set wq bG i _) (fun g hg e => by omega)⟩
                    case measure => simp [intOf]; omega
            · have hqn : q = nw := by omega
              rw [hqn] at HA
              have HA3 : Hid (BF w wy [(bG, a8 (gI (gpf f (i + 1) 0)), 40), (bR, a8 (fun _ => 0), 40), (w.heap.size, #[.slice oa no oc, .slice na nw nc, .slice ma nm mc], 25)]) := by rw [HGX.out]; exact HA.out
              go_wp2_with fail
              go_roundw
              case rel => exact ⟨i + 1, by go_num, by omega, HA3.out, HR.out⟩
              case measure => simp [intOf]; omega
        · obtain rfl : i = no := by omega
          rw [HGZ.out] at HA
          have HL := Lib.hid (HA.out.bk _ _ _ (.head _)).2
          have HRR := Lib.hid (HA.out.bk _ _ _ (.tail _ (.head _))).2
          have HSL : Hid ((Tryz.prog.info? 40).map (·.size) = some (a8 (gI f.g)).size) := by unfold Hid; rw [a8_size]; exact Tryz.sizeGraph
          have HSM : Hid ((a8 (fun _ => 0)).size = (a8 (gI f.g)).size) := by unfold Hid; rw [a8_size, a8_size]
          have HA3 := Lib.hid (HA.out.setR (.tail _ (.head _)) (a8 (gI f.g)) (L' := []) (fun _ h => by cases h))
          have hrow := (HA3.out.bk bR _ _ (.head _)).2
          go_upto_region 17 with fail
          refine wp_region_lit ?_
          refine wpList_load_row (o := ⟨some 107, _, _, _, _, _⟩) rfl 40 (.tmp 3) rfl bG rfl 40 (a8 (gI f.g)) (0, 0) _ HL.out Tryz.underlying40 rfl HSL.out ?_
          try simp only [Act.put, putA, putZ, putS]
          go_wp2_with (refine wpList_store_row (o := ⟨none, _, _, _, _, _⟩) rfl 40 (.tmp 2) (.tmp 107) rfl bR (a8 (gI f.g)) rfl rfl 40 (a8 (fun _ => 0)) HRR.out HSL.out HSM.out (a8_one _) ?_; generalize wo.setRow bR (a8 (gI f.g)) = wz at *)
          exact bodyPost_ret (v := .agg (a8 (gI f.g))) (results_cell_row rfl _ _ bR 40 (a8 (gI f.g)) (0, 0) _ rfl hrow Tryz.underlying40 rfl HSL.out) rfl ⟨rfl, HA3.out.fr⟩
end Go.Proofs.YtgbdbikjckfgmaaGreat
