/- Walk: longest. -/
import Derived.Test.YtpnkgjkoophckaaWS
namespace Go.Proofs.Ytpnkgjkoophckaa
open Go.RowKit Go.Shelf Go.Maps

def hiS (m : Mp) (L : List Nat) : Int := L.foldl (fun b p => b + (m.wk p).2) 0
theorem hiS_snoc (m : Mp) (L : List Nat) (p : Nat) : hiS m (L ++ [p]) = hiS m L + (m.wk p).2 := by unfold hiS; rw [List.foldl_append]; rfl
/-- The longest time of a quickest tour of a set; far or more: there is none. -/
def lgM (m : Mp) (s : Nat) : Int := (rest (tmA m) 0 s).1 + hiS m (plc s)
theorem hiS_bd {m : Mp} (ok : OkM m) : ∀ L : List Nat, (∀ p, p ∈ L → p < m.nw) → 0 ≤ hiS m L ∧ hiS m L ≤ 50 * (L.length : Int) := by
  intro L
  rcases List.eq_nil_or_concat L with rfl | ⟨L, n, rfl⟩
  · intro _; simp [hiS]
  · intro h
    rw [List.concat_eq_append] at h ⊢
    have h1 := hiS_bd ok L (fun p hp => h p (List.mem_append_left _ hp))
    have h2 := ok.wk n (h n (by simp))
    rw [hiS_snoc, List.length_append]
    simp only [List.length_cons, List.length_nil]
    omega
termination_by L => L.length
decreasing_by simp_all
theorem tmB {m : Mp} (ok : OkM m) : TmBd m.nw (tmA m) := fun _ _ ha hb => tmA_bd ok ha hb
theorem lgM_bd {m : Mp} (ok : OkM m) {s : Nat} (hs : s < 2 ^ m.nw) : 0 ≤ lgM m s ∧ lgM m s ≤ 1048976 := by
  have h1 := rest_bd (tmB ok) (by have := ok.nw; omega) s s 0 (Nat.le_refl _) hs (by have := ok.nw; omega)
  have h2 := hiS_bd ok (plc s) (fun p hp => sub_sub hs (plc_mem.1 hp).2)
  have h3 : (plc s).length ≤ 8 := plcN_len 8 s
  unfold lgM
  omega
def GivesI (W : World) (A bm n : Nat) (x : MV) (m : Mp) (r : Int) (e : Ending) (W' : World) : Prop := e = .returned (.int .i64 r) ∧ At W' A bm n x m ∧ Fr (fun q => q = bm) W W'
set_option maxRecDepth 100000 in
set_option maxHeartbeats 8000000 in
theorem longest_any {m : Mp} (ok : OkM m) (x : MV) (A bm s n : Nat) (hs : s < 2 ^ m.nw) (hn : n ≤ 1000000000000000000) (w : World) (hw : At w A bm n x m) :
    Calls Try.prog 70 #[.pointer (some ⟨A, 0, none⟩), .int .i64 (s : Int)] w (GivesI w A bm (n + 200000) x m (lgM m s)) := by
  have hnw := ok.nw
  have hs8 : s < 256 := Nat.lt_of_lt_of_le hs (Nat.pow_le_pow_right (by decide) hnw.2)
  have HRS := Lib.hid (rest_any ok x A bm s 0 n hs (by omega) hn w hw)
  have HLG : Hid (lgM m s = (rest (tmA m) 0 s).1 + hiS m (plc s)) := rfl
  have hrb := rest_bd (tmB ok) (by omega) s s 0 (Nat.le_refl _) hs (by omega)
  have hbm : bm < w.heap.size := hw.cm.lt
  have HWK := Lib.hid (fun X (h : At X A bm (n + 200000) x m) => h.mp.wk)
  have HWB := Lib.hid ok.wk
  have HHB := Lib.hid (fun L (hL : ∀ p, p ∈ L → p < m.nw) => hiS_bd ok L hL)
  obtain ⟨L, HL⟩ : ∃ L, Hid (plc s = L) := ⟨_, rfl⟩
  have HLM : Hid (∀ p, p ∈ L → p < m.nw) := fun p hp => by rw [← HL.out] at hp; exact sub_sub hs (plc_mem.1 hp).2
  have hL8 : L.length ≤ 8 := by rw [← HL.out]; exact plcN_len 8 s
  have HLI := Lib.hid (fun W => list_any s hs8 W)
  rw [HL.out] at HLG HLI
  clear HL hw ok
  generalize lgM m s = lg at *
  unfold GivesS at HRS
  unfold GivesI
  generalize rest (tmA m) 0 s = rr at *
  obtain ⟨r1, r2⟩ := rr
  simp only at HLG hrb HRS
  obtain ⟨wa, wc, ra, rc⟩ := x
  simp only at HWK
  have hf := field_leg r1 r2
  go_enter Try.func70, Try.ntmps70
  go_wp2_with (first | (go_at_call 98; refine HRS.out.mono ?_; rintro _ w1 ⟨rfl, hs1, hf1⟩; have HS1 := Lib.hid hs1; have HF1 := Lib.hid hf1; clear hs1 hf1) | (go_at_call 99; refine (HLI.out _).mono ?_; rintro _ w2 ⟨la, lc, rfl, how, hb2⟩; have HOW := Lib.hid how; have HS2 := Lib.hid (HS1.out.below hb2); have HF2 := Lib.hid (HF1.out.trans (Fr.below hb2 _)); clear how hb2))
  clear hf HS1 HF1 HRS HLI
  have HLX := Lib.hid (fun j (hj : j < L.length) => nL_get hj)
  obtain ⟨k, hk⟩ : ∃ k, L.length = k := ⟨_, rfl⟩
  have HKL := Lib.hid hk
  rw [hk] at HOW HLX hL8 ⊢
  clear hk
  go_loopw [5, 16] (fun v i wr => ∃ j : Nat, i = .int .i64 j ∧ j ≤ k ∧ v = .int .i64 (r1 + hiS m (L.take j)) ∧ wr = w2) (fun _ i _ => k - (intOf i).toNat)
  case atStart => exact ⟨0, rfl, Nat.zero_le _, by simp [hiS], rfl⟩
  case round =>
    obtain ⟨j, rfl, hj, rfl, rfl⟩ := hrel
    by_cases hlt : j < k
    · obtain ⟨g, rfl⟩ : ∃ g, la = some ⟨g, 0, none⟩ := by obtain ⟨g, h⟩ := own_somep HOW.out (by omega); exact ⟨g, h⟩
      obtain ⟨p, hp⟩ : ∃ p, L.getD j 0 = p := ⟨_, rfl⟩
      have hc0 := (HOW.out.cellAt j (by omega)).trans (HLX.out j hlt)
      rw [hp] at hc0
      have hpm : p < m.nw := HLM.out p (by rw [← hp, List.getD_eq_getElem?_getD, List.getElem?_eq_getElem (by rw [HKL.out]; exact hlt)]; exact List.getElem_mem _)
      have HTK : Hid (hiS m (L.take (j + 1)) = hiS m (L.take j) + (m.wk p).2) := by
        unfold Hid
        rw [List.take_add_one, List.getElem?_eq_getElem (by rw [HKL.out]; exact hlt)]
        rw [List.getD_eq_getElem?_getD, List.getElem?_eq_getElem (by rw [HKL.out]; exact hlt)] at hp
        simp only [Option.getD_some] at hp
        rw [hp]; exact hiS_snoc m _ p
      have hb1 := HHB.out (L.take j) (fun q hq => HLM.out q (List.mem_of_mem_take hq))
      have hb2 : (L.take j).length ≤ 8 := Nat.le_trans (List.length_take_le _ _) (by omega)
      have hb3 := HWB.out p hpm
      obtain ⟨b, off, rfl, hb, x0, x1⟩ := (HWK.out _ HS2.out).at (k := p) hpm
      have a0 := HS2.out.wkc.1
      simp only at a0
      generalize (m.wk p).1 = lo at *
      generalize (m.wk p).2 = hi at *
      generalize hiS m (L.take j) = hs at *
      have hw1 : IntKind.i64.wrap (r1 + hs + hi) = r1 + hs + hi := IntWalk.i64_in _ (by omega)
      have ji : (0 : Int) ≤ (j : Int) := by omega
      have jj : (j : Int) < (k : Int) := by omega
      have pi : (0 : Int) ≤ (p : Int) := by omega
      have pj : (p : Int) < (m.nw : Int) := by omega
      clear hp
      go_wp2_with fail
      go_roundw
      case rel => exact ⟨j + 1, by go_num, by omega, by rw [HTK.out]; congr 1; omega, trivial⟩
      case measure => simp [intOf]; omega
    · obtain rfl : j = k := by omega
      rw [← HKL.out, List.take_length]
      have hlg := HLG.out
      go_wp2_with fail
      go_ret
      exact ⟨ret_int HLG.out.symm, HS2.out, HF2.out⟩
end Go.Proofs.Ytpnkgjkoophckaa
