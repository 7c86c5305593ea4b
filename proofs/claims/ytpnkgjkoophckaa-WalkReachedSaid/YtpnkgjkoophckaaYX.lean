/- Walk: what Reach and Plan say of a valid map, in short; WalkReached's walk. -/
import Derived.Test.YtpnkgjkoophckaaYW
namespace Go.Proofs.Ytpnkgjkoophckaa
open Go.RowKit Go.Shelf Go.Maps

theorem reach_pl {m : Mp} (ok : OkM m) (h0 : m.fault = 0) (x : MV) {lim : Int} (hl : 0 ≤ lim ∧ lim ≤ 10000) (w : World) (h : MpIn w x m) :
    Calls Try.prog 42 #[.agg #[.slice x.wa m.nw x.wc, .slice x.ra m.nr x.rc], .int .i64 lim] w fun e w' => ∃ a c, e = .returned (.tuple #[.slice a (rchN m lim m.nw).length c, .int .i64 0]) ∧ IntsIn w' (.slice a (rchN m lim m.nw).length c) (rchN m lim m.nw).length (zL (rchN m lim m.nw)) ∧ Below w.heap.size w w' := by
  have hn := ok.nw
  have hr := ok.nr
  refine (Reach_any x m lim w h (by omega) (by omega)).mono ?_
  rintro e w' ⟨hb, h⟩
  have e1 : inB lim 0 10000 = true := by simp only [inB, Bool.and_eq_true, decide_eq_true_eq]; omega
  have hE : rchE m lim = 0 := by unfold rchE; rw [h0, e1]; rfl
  rw [hE] at h
  rcases h with ⟨h1, _⟩ | ⟨_, v, rfl, how⟩
  · exact absurd rfl h1
  · obtain ⟨a, c, rfl⟩ := own_slice' how
    exact ⟨a, c, rfl, nL_ints how, hb⟩
def planX (m : Mp) (lim : Int) : Int := if dvW m lim = [] then 9 else 0
theorem plan_pl {m : Mp} (ok : OkM m) (h0 : m.fault = 0) (x : MV) {lim : Int} (hl : 0 ≤ lim ∧ lim ≤ 10000) (w : World) (h : MpIn w x m) :
    Calls Try.prog 45 #[.agg #[.slice x.wa m.nw x.wc, .slice x.ra m.nr x.rc], .int .i64 lim] w fun e w' => Below w.heap.size w w' ∧ ∃ (a : Option Addr) (c : Nat) (Q : List TQ), e = .returned (.tuple #[.slice a Q.length c, .int .i64 (planX m lim)]) ∧ Q.map (fun q => q.2) = (dvW m lim).map (fun s => (tourL m s, plc s)) ∧ w'.ownsRow w.heap.size 30 2 (.slice a Q.length c) Q.length (flQ Q) ∧ ∀ q, q ∈ Q → TqO w.heap.size w' q := by
  have hn := ok.nw
  have hr := ok.nr
  refine (Plan_any x m lim w h (by omega) (by omega)).mono ?_
  rintro e w' ⟨hb, h⟩
  refine ⟨hb, ?_⟩
  have e1 : inB lim 0 10000 = true := by simp only [inB, Bool.and_eq_true, decide_eq_true_eq]; omega
  have hE : dvdE m lim = planX m lim := by unfold dvdE planX; rw [h0, e1]; rfl
  rw [hE] at h
  rcases h with ⟨h1, rfl⟩ | ⟨h1, a, c, Q, rfl, h2, h3, h4⟩
  · have hd : dvW m lim = [] := by
      unfold planX at h1
      by_cases hh : dvW m lim = []
      · exact hh
      · rw [if_neg hh] at h1; exact absurd rfl h1
    refine ⟨none, 0, [], rfl, by rw [hd]; rfl, World.ownsRow_nil _ _ _ _, fun q hq => by cases hq⟩
  · rw [h1]; exact ⟨a, c, Q, rfl, h2, h3, h4⟩
set_option maxRecDepth 100000 in
set_option maxHeartbeats 16000000 in
theorem walkReached_walk (x : MV) (m : Mp) (a : Int) (w : World) (h : MpLaw w x m) (ha : 0 ≤ a ∧ a ≤ 65535) :
    Calls Try.prog 11 #[.agg #[.slice x.wa m.nw x.wc, .slice x.ra m.nr x.rc], .int .u16 a] w fun e w' => e = .returned (.bool true) ∧ Below w.heap.size w w' := by
  obtain ⟨a, rfl⟩ : ∃ k : Nat, a = k := ⟨a.toNat, by omega⟩
  have HMP := Lib.hid h.l
  have HRE := Lib.hid (fun W (hW : Below w.heap.size w W) => ready_any x m W (h.l.below hW) h.bw h.br)
  clear h
  obtain ⟨rb, hrb⟩ : ∃ rb, rb = readyB m := ⟨_, rfl⟩
  have HRB : Hid (rb = true → m.fault = 0) := fun h => by rw [hrb] at h; unfold readyB at h; simp only [Bool.and_eq_true, decide_eq_true_eq] at h; exact h.2
  rw [← hrb] at HRE
  clear hrb
  have HA0 : Hid (BF w (w.alloc (.cells #[.slice x.wa m.nw x.wc, .slice x.ra m.nr x.rc] 25)) [(w.heap.size, #[.slice x.wa m.nw x.wc, .slice x.ra m.nr x.rc], 25)]) := (BF.base w).alloc _ _
  go_enter Try.func11, Try.ntmps11
  go_upto_region 1 with fail
  generalize w.alloc (.cells #[.slice x.wa m.nw x.wc, .slice x.ra m.nr x.rc] 25) = w0 at *
  have c0 := HA0.out.cell (.head _) 0
  have c1 := HA0.out.cell (.head _) 1
  cases rb
  · go_wp2_with (first | (go_at_call 35; refine (HRE.out _ HA0.out.fr).mono ?_; rintro _ w1 ⟨rfl, hb⟩; have HA1 := Lib.hid (HA0.out.below hb); clear hb) | (go_at_call 19; refine (awake_any _).mono ?_; rintro _ w2 ⟨rfl, hb⟩; have HA2 := Lib.hid (HA1.out.below hb); clear hb))
    go_ret
    exact ⟨rfl, HA2.out.fr⟩
  have hf := HRB.out rfl
  have hok := okM_of hf
  have hnw := hok.nw
  have HMC := Lib.hid (fun W (hW : Below w.heap.size w W) => mapC_any x m W (HMP.out.below hW) (by omega) (by have := hok.nr; omega))
  have e7 : ((a : Int) % 400) = ((a % 400 : Nat) : Int) := rfl
  obtain ⟨q, hq⟩ : ∃ q, q = a % 400 := ⟨_, rfl⟩
  rw [← hq] at e7
  have q7 : q < 400 := by rw [hq]; exact Nat.mod_lt _ (by decide)
  clear hq HRB
  have HR1 := Lib.hid (fun (y : MV) W hW => reach_pl hok hf y (lim := (q : Int)) (by omega) W hW)
  have HP1 := Lib.hid (fun (y : MV) W hW => plan_pl hok hf y (lim := (q : Int)) (by omega) W hW)
  have HEQ : Hid ((rchN m (q : Int) m.nw).length = m.nw ∧ planX m q = 0 ∨ (rchN m (q : Int) m.nw).length ≠ m.nw ∧ planX m q = 9) := by
    have h := reach_plan hok (q : Int)
    unfold Hid planX
    by_cases hh : dvW m (q : Int) = []
    · rw [if_pos hh]; right; exact ⟨fun e => h.1 e hh, rfl⟩
    · rw [if_neg hh]; left; exact ⟨h.2 hh, rfl⟩
  have HLN := Lib.hid (dvW_len hok (q : Int))
  clear hok hf
  generalize planX m (q : Int) = px at *
  obtain ⟨R, hR⟩ : ∃ R, R = rchN m (q : Int) m.nw := ⟨_, rfl⟩
  rw [← hR] at HR1 HEQ
  clear hR
  obtain ⟨r, hr⟩ : ∃ r, R.length = r := ⟨_, rfl⟩
  rw [hr] at HR1 HEQ
  clear hr
  go_wp2_with (first | (go_at_call 35; refine (HRE.out _ HA0.out.fr).mono ?_; rintro _ w1 ⟨rfl, hb⟩; have HA1 := Lib.hid (HA0.out.below hb); clear hb; have d0 := HA1.out.cell (.head _) 0; have d1 := HA1.out.cell (.head _) 1))
  rw [e7]
  go_wp2_with fail
  refine (HMC.out _ HA1.out.fr).mono ?_
  rintro _ v1 ⟨y, rfl, hm, hb⟩
  have HA2 := Lib.hid (HA1.out.below hb)
  have HM := Lib.hid hm
  clear hm hb c0 c1 d0 d1 HA0 HA1 HRE
  go_wp2_with fail
  refine (HR1.out y _ HM.out).mono ?_
  rintro _ x1 ⟨pa, pc, rfl, _, hb⟩
  have HA3 := Lib.hid (HA2.out.below hb)
  have c0 := HA3.out.cell (.head _) 0
  have c1 := HA3.out.cell (.head _) 1
  clear hb HM HA2
  go_wp2_with fail
  refine (HMC.out _ HA3.out.fr).mono ?_
  rintro _ v2 ⟨y, rfl, hm, hb⟩
  have HA4 := Lib.hid (HA3.out.below hb)
  have HM := Lib.hid hm
  clear hm hb c0 c1 HA3
  go_wp2_with fail
  refine (HP1.out y _ HM.out).mono ?_
  rintro _ x2 ⟨hb, qa, qc, Q, rfl, hQ, _, _⟩
  have HA5 := Lib.hid (HA4.out.below hb)
  have hlq : Q.length ≤ m.nw := by
    have := congrArg List.length hQ
    rw [List.length_map, List.length_map] at this
    have := HLN.out
    omega
  clear hb HM HA4 hQ HR1 HP1
  obtain ⟨n, hn⟩ : ∃ n, Q.length = n := ⟨_, rfl⟩
  rw [hn] at hlq ⊢
  clear hn
  have c0 := HA5.out.cell (.head _) 0
  have c1 := HA5.out.cell (.head _) 1
  have kle : (n : Int) ≤ (m.nw : Int) := by omega
  rcases HEQ.out with ⟨h1, rfl⟩ | ⟨h1, rfl⟩
  · subst h1
    clear HEQ
    go_wp2_with (go_at_call 19; refine (awake_any _).mono ?_; rintro _ w9 ⟨rfl, hb⟩; have HZ := Lib.hid (HA5.out.below hb); clear hb)
    go_ret
    exact ⟨rfl, HZ.out.fr⟩
  · have kne : ((r : Int) == (m.nw : Int)) = false := by simp; omega
    clear HEQ h1
    go_wp2_with (go_at_call 19; refine (awake_any _).mono ?_; rintro _ w9 ⟨rfl, hb⟩; have HZ := Lib.hid (HA5.out.below hb); clear hb)
    go_ret
    exact ⟨rfl, HZ.out.fr⟩
end Go.Proofs.Ytpnkgjkoophckaa
