/- Walk: Reach. -/
import Derived.Test.YtpnkgjkoophckaaYF
namespace Go.Proofs.Ytpnkgjkoophckaa
open Go.RowKit Go.Shelf Go.Maps

/-- The places that are reached within a limit. -/
def rchN (m : Mp) (lim : Int) (k : Nat) : List Nat := (List.range k).filter fun n => decide (lgM m (2 ^ n) ≤ lim)
theorem rchN_succ (m : Mp) (lim : Int) (k : Nat) : rchN m lim (k + 1) = if lgM m (2 ^ k) ≤ lim then rchN m lim k ++ [k] else rchN m lim k := by
  unfold rchN
  rw [List.range_succ, List.filter_append]
  by_cases h : lgM m (2 ^ k) ≤ lim <;> simp [h]
theorem rchN_len (m : Mp) (lim : Int) (k : Nat) : (rchN m lim k).length ≤ k := by
  unfold rchN
  exact Nat.le_trans (List.length_filter_le _ _) (by simp)
/-- The error of Reach. -/
def rchE (m : Mp) (lim : Int) : Int := if m.fault ≠ 0 then m.fault else if inB lim 0 10000 = true then 0 else 2
def GivesR (w : World) (m : Mp) (lim : Int) (e : Ending) (w' : World) : Prop :=
  Below w.heap.size w w' ∧
    ((rchE m lim ≠ 0 ∧ e = .returned (.tuple #[.slice none 0 0, .int .i64 (rchE m lim)])) ∨
     (rchE m lim = 0 ∧ ∃ v, e = .returned (.tuple #[v, .int .i64 0]) ∧ w'.ownsRow w.heap.size 3 1 v (rchN m lim m.nw).length (nL (rchN m lim m.nw))))
set_option maxRecDepth 100000 in
set_option maxHeartbeats 16000000 in
theorem Reach_any (x : MV) (m : Mp) (lim : Int) (w : World) (h : MpIn w x m) (hnw : m.nw ≤ 100000) (hnr : m.nr ≤ 100000) :
    Calls Try.prog 42 #[.agg #[.slice x.wa m.nw x.wc, .slice x.ra m.nr x.rc], .int .i64 lim] w (GivesR w m lim) := by
  obtain ⟨i0, hi0, hz0, hz1, hz2⟩ := info_parts Try.infoInt
  have HMP := Lib.hid h
  have HCK := Lib.hid (fun W (hW : Below w.heap.size w W) => check_any x m W (h.below hW) hnw hnr)
  have HTE : Hid (rchE m lim = if m.fault ≠ 0 then m.fault else if inB lim 0 10000 = true then 0 else 2) := rfl
  have HOKM := Lib.hid (okM_of (m := m))
  have HLI := Lib.hid (fun W => limited_any lim W)
  unfold GivesR
  clear h
  generalize rchE m lim = te at *
  generalize m.fault = ft at *
  generalize inB lim 0 10000 = ib at *
  obtain ⟨RL, HRL⟩ : ∃ RL : Nat → List Nat, Hid (∀ k, rchN m lim k = RL k) := ⟨rchN m lim, fun _ => rfl⟩
  rw [HRL.out]
  have HRS : Hid (∀ k, RL (k + 1) = if lgM m (2 ^ k) ≤ lim then RL k ++ [k] else RL k) := fun k => by rw [← HRL.out, ← HRL.out]; exact rchN_succ m lim k
  have HRN : Hid (∀ k, (RL k).length ≤ k) := fun k => by rw [← HRL.out]; exact rchN_len m lim k
  have HR0 : Hid (RL 0 = []) := by unfold Hid; rw [← HRL.out]; rfl
  clear HRL
  have HA0 : Hid (BF w (w.alloc (.cells #[.slice x.wa m.nw x.wc, .slice x.ra m.nr x.rc] 37)) [(w.heap.size, #[.slice x.wa m.nw x.wc, .slice x.ra m.nr x.rc], 37)]) := (BF.base w).alloc _ _
  go_enter Try.func42, Try.ntmps42
  go_upto_region 1 with fail
  generalize w.alloc (.cells #[.slice x.wa m.nw x.wc, .slice x.ra m.nr x.rc] 37) = w0 at *
  have c0 := HA0.out.cell (.head _) 0
  have c1 := HA0.out.cell (.head _) 1
  by_cases k1 : ft = 0
  case neg =>
    have kb : (ft != 0) = true := by simp [k1]
    have hte := HTE.out
    rw [if_pos k1] at hte
    go_wp2_with (go_at_call 51; refine (HCK.out _ HA0.out.fr).mono ?_; rintro _ w1 ⟨rfl, hb⟩; have HA1 := Lib.hid (HA0.out.below hb); clear hb)
    exact bodyPost_ret (v := .tuple #[.slice none 0 0, .int .i64 ft]) (by simp [results, Try.results42, go_sem]) rfl ⟨HA1.out.fr, .inl ⟨by rw [hte]; exact k1, by rw [hte]⟩⟩
  subst k1
  have hok := HOKM.out rfl
  have HTE2 : Hid (te = if ib = true then 0 else 2) := HTE.out
  clear HTE HOKM
  cases ib
  · have HTE3 : Hid (te = 2) := HTE2.out
    clear HTE2
    go_wp2_with (first | (go_at_call 51; refine (HCK.out _ HA0.out.fr).mono ?_; rintro _ w1 ⟨rfl, hb⟩; have HA1 := Lib.hid (HA0.out.below hb); clear hb) | (go_at_call 81; refine (HLI.out _).mono ?_; rintro _ w2 ⟨rfl, rfl⟩))
    exact bodyPost_ret (v := .tuple #[.slice none 0 0, .int .i64 2]) (by simp [results, Try.results42, go_sem]) rfl ⟨HA1.out.fr, .inl ⟨by rw [HTE3.out]; decide, by rw [HTE3.out]⟩⟩
  have HTE3 : Hid (te = 0) := HTE2.out
  clear HTE2
  have HAT := Lib.hid (fun W (hW : Below w.heap.size w W) => atlas_any x m W (HMP.out.below hW) hok)
  unfold GivesA at HAT
  have HOK := Lib.hid hok
  have hnw8 := hok.nw
  clear hok
  go_wp2_with (first | (go_at_call 51; refine (HCK.out _ HA0.out.fr).mono ?_; rintro _ w1 ⟨rfl, hb⟩; have HA1 := Lib.hid (HA0.out.below hb); have d0 := HA1.out.cell (.head _) 0; have d1 := HA1.out.cell (.head _) 1; clear hb) | (go_at_call 81; refine (HLI.out _).mono ?_; rintro _ w2 ⟨rfl, rfl⟩) | (go_at_call 69; refine (HAT.out _ HA1.out.fr).mono ?_; rintro _ w4 ⟨rfl, hat, hmp, hb⟩; have HA4 := Lib.hid (HA1.out.below hb); have HS4 := Lib.hid (At.made hat hmp ((HMP.out.below HA1.out.fr).below hb)); have HMB := Lib.hid (show w1.heap.size + 1 < w4.heap.size from (Array.getElem?_eq_some_iff.1 hmp).1); have f0 := HA4.out.cell (.head _) 0; have f1 := HA4.out.cell (.head _) 1; clear hat hmp hb))
  have hs1 := HA1.out.fr.size
  have hmb := HMB.out
  have HBN : Hid (∀ p, p ∈ ([(w.heap.size, #[.slice x.wa m.nw x.wc, .slice x.ra m.nr x.rc], 37)] : List (Nat × Array Value × TypeId)) → p.1 ≠ w1.heap.size + 1) := List.forall_mem_cons.2 ⟨(by show w.heap.size ≠ w1.heap.size + 1; omega), List.forall_mem_nil _⟩
  have HBL : Hid (w.heap.size ≤ w1.heap.size + 1) := Nat.le_succ_of_le hs1
  generalize w1.heap.size + 1 = bm at *
  generalize w1.heap.size + 2 = A at *
  have HLG := Lib.hid (fun s n W h1 h2 hW => longest_any HOK.out x A bm s n h1 h2 W hW)
  unfold GivesI at HLG
  clear HA1 HAT d0 d1 f0 f1 hs1 HLI HCK HMP HOK HMB HA0
  have HF0 := Lib.hid (AF.base HS4.out)
  go_loopw [8, 9, 23] (fun v _ i wr => ∃ (k : Nat) (va : Option Addr) (vc : Nat), i = .int .i64 k ∧ k ≤ m.nw ∧ v = .slice va (RL k).length vc ∧ AF w4 wr A bm (k * 200000) x m [] ∧ wr.ownsRow w4.heap.size 3 1 (.slice va (RL k).length vc) (RL k).length (nL (RL k))) (fun _ _ i _ => m.nw - (intOf i).toNat)
  case atStart => exact ⟨0, none, 0, rfl, Nat.zero_le _, by rw [HR0.out]; rfl, by simpa using HF0.out, by rw [HR0.out]; exact World.ownsRow_nil _ _ _ _⟩
  case round =>
    obtain ⟨k, va, vc, rfl, hk, rfl, haf, how⟩ := hrel
    rename World => wx
    have HF1 := Lib.hid haf; have HO1 := Lib.hid how
    clear haf how HF0
    by_cases hlt : k < m.nw
    · have h2 : 2 ^ k < 2 ^ m.nw := Nat.pow_lt_pow_right (by decide) hlt
      have HL1 := Lib.hid (HLG.out (2 ^ k) (k * 200000) wx h2 (by omega) HF1.out.st)
      have HB1 : Hid (wrap64 (2 ^ k) = ((2 ^ k : Nat) : Int)) := bit_one ⟨k, by omega⟩
      have HRK := Lib.hid (HRS.out k)
      have HRKN := Lib.hid (HRN.out k)
      have ki : (0 : Int) ≤ (k : Int) := by omega
      have kn : (k : Int) < (m.nw : Int) := by omega
      obtain ⟨lg, hlg⟩ : ∃ lg, lg = lgM m (2 ^ k) := ⟨_, rfl⟩
      rw [← hlg] at HL1 HRK
      clear hlg h2
      obtain ⟨L, hL⟩ : ∃ L, L = RL k := ⟨_, rfl⟩
      rw [← hL] at HRK HRKN HO1 ⊢
      clear hL
      have HOS := Lib.hid (fun w5 (hf : Fr (fun q => q = bm) wx w5) => own_fr HO1.out hf (fun g' cur _ _ hc e => by subst e; obtain ⟨es, kk, hm⟩ := HF1.out.st.cm.mp; rw [hm] at hc; cases hc))
      by_cases hle : lg ≤ lim
      · have HRK2 : Hid (RL (k + 1) = L ++ [k]) := by have h := HRK.out; rw [if_pos hle] at h; exact h
        have hln := HRKN.out
        obtain ⟨n, hn⟩ : ∃ n, L.length = n := ⟨_, rfl⟩
        have HN := Lib.hid hn
        rw [hn] at HO1 HOS hln ⊢
        clear hn
        go_wp2_with (first | (go_at_call 70; rw [HB1.out]; refine HL1.out.mono ?_; rintro _ w5 ⟨rfl, hs5, hf5⟩; have HF5 := Lib.hid (HF1.out.go hmb hf5 hs5); have HO5 := Lib.hid (HOS.out _ hf5); clear hs5 hf5) | (at_builtin; refine wpList_append_src _ rfl (.tmp 32) (.tmp 34) 26 rfl w4.heap.size 3 i0 (.int .i64 0) 1 8 Try.underlying26 hi0 hz0 hz1 hz2 rfl (by decide) (.slice va n vc) n (nL L) rfl (own_below HO5.out (below_alloc _ _)) (some ⟨w5.heap.size, 0, none⟩) 1 1 [.int .i64 (k : Int)] rfl ⟨rfl, fun j u hu => ⟨_, rfl, World.news_of_block (heap_alloc_new w5 _) j u hu⟩⟩ (by simp [Value.oneCell']) ?a1 ?a2 ?a3 ?_))
        case a1 => unfold maxLen; omega
        case a2 => omega
        case a3 => have := HF5.out.fr.size; simp; omega
        intro v2 w6 hown hgr hlt1
        obtain ⟨ea, ec, rfl⟩ := own_slice' hown
        have HF6 := Lib.hid ((HF5.out.below hmb (below_alloc w5 (.cells #[.int .i64 (k : Int)] 3))).grow HS4.out (own_below HO5.out (below_alloc _ _)) (List.forall_mem_nil _) (Nat.le_refl _) hgr)
        have HO6 : Hid (w6.ownsRow w4.heap.size 3 1 (.slice ea (RL (k + 1)).length ec) (RL (k + 1)).length (nL (RL (k + 1)))) := by rw [HRK2.out, nL_snoc, List.length_append, HN.out]; exact hown
        have HEV : Hid (Value.slice ea (n + 1) ec = Value.slice ea (RL (k + 1)).length ec) := by unfold Hid; rw [HRK2.out, List.length_append, HN.out]; rfl
        clear hown hgr hlt1 HO5 HF5 HOS
        go_wp2_with fail
        go_roundw
        case rel => exact ⟨k + 1, ea, ec, by go_num, by omega, HEV.out, HF6.out.mono (by omega), HO6.out⟩
        case measure => simp [intOf]; omega
      · have HRK2 : Hid (RL (k + 1) = L) := by have h := HRK.out; rw [if_neg hle] at h; exact h
        obtain ⟨n, hn⟩ : ∃ n, L.length = n := ⟨_, rfl⟩
        have HN := Lib.hid hn
        rw [hn] at HO1 HOS ⊢
        clear hn
        go_wp2_with (first | (go_at_call 70; rw [HB1.out]; refine HL1.out.mono ?_; rintro _ w5 ⟨rfl, hs5, hf5⟩; have HF5 := Lib.hid (HF1.out.go hmb hf5 hs5); have HO5 := Lib.hid (HOS.out _ hf5); clear hs5 hf5))
        have HO6 : Hid (w5.ownsRow w4.heap.size 3 1 (.slice va (RL (k + 1)).length vc) (RL (k + 1)).length (nL (RL (k + 1)))) := by rw [HRK2.out, HN.out]; exact HO5.out
        have HEV : Hid (Value.slice va n vc = Value.slice va (RL (k + 1)).length vc) := by unfold Hid; rw [HRK2.out, HN.out]
        go_roundw
        case rel => exact ⟨k + 1, va, vc, by go_num, by omega, HEV.out, HF5.out.mono (by omega), HO6.out⟩
        case measure => simp [intOf]; omega
    · obtain rfl : k = m.nw := by omega
      have HBF := Lib.hid (HA4.out.frm HF1.out.fr HBL.out HBN.out)
      have HOF := Lib.hid (own_mono HO1.out HA4.out.fr.size)
      go_wp2_with fail
      exact bodyPost_ret (v := .tuple #[.slice va (RL m.nw).length vc, .int .i64 0]) (by simp [results, Try.results42, go_sem]) rfl ⟨HBF.out.fr, .inr ⟨HTE3.out, _, rfl, HOF.out⟩⟩
end Go.Proofs.Ytpnkgjkoophckaa
