/- Walk: Least. -/
import Derived.Test.YtpnkgjkoophckaaYE
import Derived.WalkMore
import Derived.Deep.CutBlock
namespace Go.Proofs.Ytpnkgjkoophckaa
open Go.RowKit Go.Shelf Go.Maps

theorem bit_one : ∀ n : Fin 8, wrap64 (2 ^ (n : Nat)) = ((2 ^ (n : Nat) : Nat) : Int) := by decide +kernel
set_option maxRecDepth 100000 in
set_option maxHeartbeats 16000000 in
theorem Least_any (x : MV) (m : Mp) (many : Int) (w : World) (h : MpIn w x m) (hnw : m.nw ≤ 100000) (hnr : m.nr ≤ 100000) :
    Calls Try.prog 31 #[.agg #[.slice x.wa m.nw x.wc, .slice x.ra m.nr x.rc], .int .i64 many] w fun e w' => Below w.heap.size w w' ∧ e = .returned (.tuple #[.int .i64 (if lstE m many = 0 then lstV m many else 0), .int .i64 (lstE m many)]) := by
  have HMP := Lib.hid h
  have HCK := Lib.hid (fun W (hW : Below w.heap.size w W) => check_any x m W (h.below hW) hnw hnr)
  have HTE : Hid (lstE m many = if m.fault ≠ 0 then m.fault else if inB many 1 8 = true then (if 1048576 ≤ lowL m m.nw then 7 else 0) else 2) := rfl
  have HTV : Hid (lstV m many = bis (enG m many) 14 (lowL m m.nw) (mnI (lgM m (2 ^ m.nw - 1)) 10000)) := rfl
  have HOKM := Lib.hid (okM_of (m := m))
  clear h
  generalize lstE m many = te at *
  generalize lstV m many = tv at *
  generalize m.fault = ft at *
  obtain ⟨ib, hib⟩ : ∃ ib, ib = inB many 1 8 := ⟨_, rfl⟩
  have HIB := Lib.hid hib
  rw [← hib] at HTE
  clear hib
  have HA0 : Hid (BF w (w.alloc (.cells #[.slice x.wa m.nw x.wc, .slice x.ra m.nr x.rc] 37)) [(w.heap.size, #[.slice x.wa m.nw x.wc, .slice x.ra m.nr x.rc], 37)]) := (BF.base w).alloc _ _
  go_enter Try.func31, Try.ntmps31
  go_wp2_with fail
  go_step3
  go_wp2_with fail
  generalize w.alloc (.cells #[.slice x.wa m.nw x.wc, .slice x.ra m.nr x.rc] 37) = w0 at *
  refine (HCK.out _ HA0.out.fr).mono ?_
  rintro _ w1 ⟨rfl, hb⟩
  have HA1 := Lib.hid (HA0.out.below hb)
  have d0 := HA1.out.cell (.head _) 0; have d1 := HA1.out.cell (.head _) 1
  clear hb HA0 HCK
  by_cases k1 : ft = 0
  case neg =>
    have kb : (ft != 0) = true := by simp [k1]
    have hte := HTE.out
    rw [if_pos k1] at hte
    clear HTE
    subst hte
    go_wp2_with fail
    rw [Exit.noGoto_ret]
    exact bodyPost_ret (v := .tuple #[.int .i64 0, .int .i64 te]) (by simp [results, Try.results31, go_sem]) rfl ⟨HA1.out.fr, by simp [k1]⟩
  subst k1
  have hok := HOKM.out rfl
  have HTE2 : Hid (te = if ib = true then (if 1048576 ≤ lowL m m.nw then 7 else 0) else 2) := HTE.out
  clear HTE HOKM
  have hnw8 := hok.nw
  cases ib
  · have HTE3 : te = 2 := HTE2.out
    have HIB2 : Hid (inB many 1 8 = false) := HIB.out.symm
    clear HTE2 HIB
    subst HTE3
    go_wp2_with (first | (go_at_call 75; refine (within_any _ _ _ _).mono ?_; rintro _ w2 ⟨rfl, rfl⟩; rw [HIB2.out]))
    rw [Exit.noGoto_ret]
    exact bodyPost_ret (v := .tuple #[.int .i64 0, .int .i64 2]) (by simp [results, Try.results31, go_sem]) rfl ⟨HA1.out.fr, rfl⟩
  have HTE3 : Hid (te = if 1048576 ≤ lowL m m.nw then 7 else 0) := HTE2.out
  have HIB2 : Hid (inB many 1 8 = true) := HIB.out.symm
  clear HTE2 HIB
  have HAT := Lib.hid (fun W (hW : Below w.heap.size w W) => atlas_any x m W (HMP.out.below hW) hok)
  have HLG := Lib.hid (fun A bm s n W (hs : s < 2 ^ m.nw) (hn : n ≤ 1000000000000000000) (hW : At W A bm n x m) => longest_any hok x A bm s n hs hn W hW)
  have HDV := Lib.hid (fun A bm n lim W (hn : n ≤ 900000000000000000) (hW : At W A bm n x m) => divide_any hok x A bm n lim hn W hW)
  have HLB := Lib.hid (fun s (hs : s < 2 ^ m.nw) => lgM_bd hok hs)
  have HWL := Lib.hid (fun k (hk : k ≤ m.nw) => lowL_bd hok k hk)
  have HLM := Lib.hid (fun k (hk : k ≤ m.nw) => lowL_mono m hk)
  unfold GivesA at HAT
  unfold GivesD at HDV
  unfold GivesI at HLG
  go_wp2_with (first | (go_at_call 75; refine (within_any _ _ _ _).mono ?_; rintro _ w2 ⟨rfl, rfl⟩; rw [HIB2.out]) | (go_at_call 69; refine (HAT.out _ HA1.out.fr).mono ?_; rintro _ w4 ⟨rfl, hat, hmp, hb⟩; have HA4 := Lib.hid (HA1.out.below hb); have HS4 := Lib.hid (At.made hat hmp ((HMP.out.below HA1.out.fr).below hb)); have HMB := Lib.hid (show w1.heap.size + 1 < w4.heap.size from (Array.getElem?_eq_some_iff.1 hmp).1); clear hat hmp hb))
  go_step3
  have hw1 := HA1.out.fr.size
  have HBL : Hid (w.heap.size ≤ w1.heap.size + 1) := Nat.le_succ_of_le hw1
  have HBN : Hid (∀ p, p ∈ [(w.heap.size, #[Value.slice x.wa m.nw x.wc, Value.slice x.ra m.nr x.rc], 37)] → p.1 ≠ w1.heap.size + 1) := List.forall_mem_cons.2 ⟨(by show w.heap.size ≠ w1.heap.size + 1; omega), List.forall_mem_nil _⟩
  generalize w1.heap.size + 1 = bm at *
  generalize w1.heap.size + 2 = A at *
  clear HA1 HAT d0 d1
  have m0 := HA4.out.cell (.head _) 0; have m1 := HA4.out.cell (.head _) 1
  go_upto_block 0 with fail
  go_cut [8, 9] from 27 to 38 (fun s8 _ wx => ∃ low : Int, s8 = .int .i64 low ∧ BF w wx [(w.heap.size, #[.slice x.wa m.nw x.wc, .slice x.ra m.nr x.rc], 37)] ∧ At wx A bm 1600000 x m ∧ (low < 1048576 ∧ low = lowL m m.nw ∨ ¬ low < 1048576 ∧ 1048576 ≤ lowL m m.nw))
  case first =>
    go_wp2_with fail
    go_loopw [8, 9, 27] (fun s8 _ i wr => ∃ k : Nat, i = .int .i64 k ∧ k ≤ m.nw ∧ s8 = .int .i64 (lowL m k) ∧ lowL m k < 1048576 ∧ BF w wr [(w.heap.size, #[.slice x.wa m.nw x.wc, .slice x.ra m.nr x.rc], 37)] ∧ At wr A bm (k * 200000) x m) (fun _ _ i _ => m.nw - (intOf i).toNat)
    case atStart => exact ⟨0, rfl, Nat.zero_le _, rfl, by simp [lowL], HA4.out, HS4.out.mono (by omega)⟩
    case round =>
      obtain ⟨k, rfl, hk, rfl, hlf, hbf, hat⟩ := hrel
      rename World => wx
      have HA5 := Lib.hid hbf; have HS5 := Lib.hid hat
      clear hbf hat HA4 HS4 m0 m1
      by_cases hlt : k < m.nw
      · have h2 : 2 ^ k < 2 ^ m.nw := Nat.pow_lt_pow_right (by decide) hlt
        have HL1 := Lib.hid (HLG.out A bm (2 ^ k) (k * 200000) wx h2 (by omega) HS5.out)
        have HB1 : Hid (wrap64 (2 ^ k) = ((2 ^ k : Nat) : Int)) := bit_one ⟨k, by omega⟩
        have HLS : Hid (lowL m (k + 1) = if lowL m k < lgM m (2 ^ k) then lgM m (2 ^ k) else lowL m k) := rfl
        have HLN := Lib.hid (HLM.out (k + 1) (by omega))
        have hb := HWL.out k hk
        have hb2 := HLB.out _ h2
        generalize lowL m k = low at *
        obtain ⟨low2, hlow2⟩ : ∃ q, lowL m (k + 1) = q := ⟨_, rfl⟩
        have HLE := Lib.hid hlow2
        rw [hlow2] at HLS HLN
        clear hlow2
        generalize lgM m (2 ^ k) = lg at *
        have ki : (0 : Int) ≤ (k : Int) := by omega
        have kn : (k : Int) < (m.nw : Int) := by omega
        clear h2
        by_cases hlg : low < lg
        · have hl2 : low2 = lg := by rw [HLS.out, if_pos hlg]
          clear HLS
          subst hl2
          by_cases hfar : 1048576 ≤ low2
          · go_wp2_with (go_at_call 70; rw [HB1.out]; refine HL1.out.mono ?_; rintro _ w5 ⟨rfl, hs5, hf5⟩; have HA6 := Lib.hid (HA5.out.frm hf5 HBL.out HBN.out); have HS6 := Lib.hid hs5; clear hs5 hf5)
            go_meet
            exact ⟨low2, rfl, HA6.out, HS6.out.mono (by omega), .inr ⟨by omega, by have := HLN.out; omega⟩⟩
          · go_wp2_with (go_at_call 70; rw [HB1.out]; refine HL1.out.mono ?_; rintro _ w5 ⟨rfl, hs5, hf5⟩; have HA6 := Lib.hid (HA5.out.frm hf5 HBL.out HBN.out); have HS6 := Lib.hid hs5; clear hs5 hf5)
            go_roundw
            case rel => exact ⟨k + 1, by go_num, by omega, by rw [HLE.out], by rw [HLE.out]; omega, HA6.out, HS6.out.mono (by omega)⟩
            case measure => simp [intOf]; omega
        · have hl2 : low2 = low := by rw [HLS.out, if_neg hlg]
          clear HLS
          subst hl2
          go_wp2_with (go_at_call 70; rw [HB1.out]; refine HL1.out.mono ?_; rintro _ w5 ⟨rfl, hs5, hf5⟩; have HA6 := Lib.hid (HA5.out.frm hf5 HBL.out HBN.out); have HS6 := Lib.hid hs5; clear hs5 hf5)
          go_roundw
          case rel => exact ⟨k + 1, by go_num, by omega, by rw [HLE.out], by rw [HLE.out]; omega, HA6.out, HS6.out.mono (by omega)⟩
          case measure => simp [intOf]; omega
      · obtain rfl : k = m.nw := by omega
        go_wp2_with fail
        go_meet
        exact ⟨_, rfl, HA5.out, HS5.out.mono (by omega), .inl ⟨hlf, rfl⟩⟩
  case rest =>
    obtain ⟨low, rfl, hbf, hat, hcase⟩ := hcut
    have HA5 := Lib.hid hbf; have HS5 := Lib.hid hat
    clear hbf hat HA4 HS4 m0 m1
    rcases hcase with ⟨hlf, hle⟩ | ⟨hlf, hge⟩
    · have hte : te = 0 := by rw [HTE3.out, if_neg (by omega)]
      clear HTE3
      subst hte
      have hlb := HWL.out m.nw (Nat.le_refl _)
      have hw2 : 2 ^ m.nw - 1 < 2 ^ m.nw := Nat.sub_lt (Nat.two_pow_pos _) (by decide)
      have HL1 := Lib.hid (HLG.out A bm (2 ^ m.nw - 1) 1600000 wc hw2 (by omega) HS5.out)
      obtain ⟨a0, a1⟩ := HS5.out.wkc
      have HWH := Lib.hid (fun W => whole_any (.slice x.ra m.nr x.rc) m.nw x.wc x.wa (by omega) W)
      have hlw := HLB.out _ hw2
      have HCW : Hid (∀ A bm n W (hn : n ≤ 1000000000000000000) (hW : At W A bm n x m), Calls Try.prog 70 #[.pointer (some ⟨A, 0, none⟩), .int .i64 ((2 ^ m.nw - 1 : Nat) : Int)] W fun e W' => e = .returned (.int .i64 (lgM m (2 ^ m.nw - 1))) ∧ At W' A bm (n + 200000) x m ∧ Fr (fun q => q = bm) W W') := fun A bm n W hn hW => HLG.out A bm _ n W hw2 hn hW
      have HTV2 : Hid (tv = bis (enG m many) 14 (lowL m m.nw) (mnI (lgM m (2 ^ m.nw - 1)) 10000)) := HTV.out
      rw [← hle] at HTV2
      clear HTV HLG HL1 hw2
      generalize lgM m (2 ^ m.nw - 1) = lw at *
      have hlb0 : 0 ≤ low := by omega
      clear HLB HWL HLM hlb hle
      go_upto_block 2 with (first | (go_at_call 77; refine (HWH.out _).mono ?_; rintro _ w5 ⟨rfl, hb5⟩; have HA6 := Lib.hid (HA5.out.below hb5); have HS6 := Lib.hid (HS5.out.below hb5); clear hb5) | (go_at_call 70; refine (HCW.out A bm 1600000 _ (by omega) HS6.out).mono ?_; rintro _ w6 ⟨rfl, hs6, hf6⟩; have HA7 := Lib.hid (HA6.out.frm hf6 HBL.out HBN.out); have HS7 := Lib.hid hs6; clear hs6 hf6) | (go_at_call 76; refine (smallest_any _ _ _ _ (heap_alloc_new _ _)).mono ?_; rintro _ _ ⟨rfl, rfl⟩))
      have HA8 := Lib.hid (HA7.out.below (below_alloc w6 (.cells #[.int .i64 lw, .int .i64 10000] 3)))
      have HS8 := Lib.hid (HS7.out.below (below_alloc w6 (.cells #[.int .i64 lw, .int .i64 10000] 3)))
      generalize w6.alloc (.cells #[.int .i64 lw, .int .i64 10000] 3) = w7 at *
      have hhb : 0 ≤ mnI lw 10000 ∧ mnI lw 10000 ≤ 10000 := by unfold mnI; split <;> omega
      generalize mnI lw 10000 = hi0 at *
      clear HA5 HA6 HA7 HS5 HS6 HS7 a0 a1 HWH HCW hlw
      go_wp2_with fail
      go_loopw [8, 10, 11, 12, 13] (fun s8 s10 _ _ _ wr => ∃ (f : Nat) (lo hi : Int) (n : Nat), s8 = .int .i64 lo ∧ s10 = .int .i64 hi ∧ 0 ≤ lo ∧ lo ≤ 1048576 ∧ 0 ≤ hi ∧ hi ≤ 10000 ∧ hi - lo < ((2 ^ f : Nat) : Int) ∧ f ≤ 14 ∧ n = 2000000 + (14 - f) * 30000000000000000 ∧ BF w wr [(w.heap.size, #[.slice x.wa m.nw x.wc, .slice x.ra m.nr x.rc], 37)] ∧ At wr A bm n x m ∧ tv = bis (enG m many) f lo hi) (fun s8 s10 _ _ _ _ => (intOf s10 - intOf s8).toNat)
      case atStart => exact ⟨14, low, hi0, _, rfl, rfl, hlb0, by omega, hhb.1, hhb.2, by simp only [show ((2 ^ 14 : Nat) : Int) = 16384 from rfl]; omega, Nat.le_refl _, rfl, HA8.out, HS8.out.mono (by omega), HTV2.out⟩
      case round =>
        obtain ⟨f, lo, hi, n, rfl, rfl, hlo, hlo2, hhi, hhi2, hd, hf, hn, hbf, hat, htv⟩ := hrel
        rename World => wx
        have HA9 := Lib.hid hbf; have HS9 := Lib.hid hat; have HTV3 := Lib.hid htv
        clear hbf hat htv HTV2 HA8 HS8 hhb
        by_cases hlt : lo < hi
        · obtain ⟨f, rfl⟩ : ∃ g, f = g + 1 := by
            cases f with
            | zero => simp at hd; omega
            | succ g => exact ⟨g, rfl⟩
          have hd2 : hi - lo < 2 * ((2 ^ f : Nat) : Int) := by rw [Nat.pow_succ] at hd; omega
          have HB := HTV3.out
          simp only [bis, if_pos hlt] at HB
          obtain ⟨half, hhalf⟩ : ∃ q, q = (lo + hi) / 2 := ⟨_, rfl⟩
          rw [← hhalf] at HB
          have HB2 := Lib.hid HB
          have hwq : IntKind.i64.wrap (lo + hi) = lo + hi := IntWalk.i64_in _ (by omega)
          have htd : (lo + hi).tdiv 2 = half := by rw [hhalf]; exact Int.tdiv_eq_ediv_of_nonneg (by omega)
          have hh1 : lo ≤ half := by omega
          have hh2 : half < hi := by omega
          have hh3 : half - lo < ((2 ^ f : Nat) : Int) := by omega
          have hh4 : hi - (half + 1) < ((2 ^ f : Nat) : Int) := by omega
          have HHF : Hid (half = (lo + hi) / 2) := hhalf
          have HD1 := Lib.hid (HDV.out A bm n half wx (by omega) HS9.out)
          change Hid (Calls Try.prog 78 #[.pointer (some ⟨A, 0, none⟩), .int .i64 half] wx fun e W' => ∃ v, e = .returned (.tuple #[v, .bool (decide (dvW m half ≠ []))]) ∧ At W' A bm (n + 30000000000000000) x m ∧ Hold W' v (dvW m half) ∧ Fr (fun q => q = bm) wx W') at HD1
          have HEN : Hid (enG m many half = decide (dvW m half ≠ [] ∧ ((dvW m half).length : Int) ≤ many)) := rfl
          generalize enG m many half = pb at *
          generalize dvW m half = l at *
          clear HTV3 HB hd hhalf
          obtain ⟨dd, hdd⟩ : ∃ q, decide (l ≠ []) = q := ⟨_, rfl⟩
          rw [hdd] at HD1
          have HDD := Lib.hid hdd
          clear hdd
          go_upto_region 20 with (go_at_call 78; refine HD1.out.mono ?_; rintro _ w8 ⟨v, rfl, hs8, hv8, hf8⟩; have HA10 := Lib.hid (HA9.out.frm hf8 HBL.out HBN.out); have HS10 := Lib.hid hs8; have HV10 := Lib.hid hv8; clear hs8 hf8 hv8)
          rcases HV10.out.cases with ⟨hl, hv⟩ | ⟨hl, g, c, hv⟩
          · have hpb : pb = false := by rw [HEN.out, hl]; simp
            have hd0 : dd = false := by rw [← HDD.out, hl]; simp
            subst hpb hd0 hv
            have HB3 : Hid (tv = bis (enG m many) f (half + 1) hi) := by unfold Hid; have := HB2.out; simpa using this
            clear HB2 HEN HDD HV10
            have hwh : IntKind.i64.wrap (half + 1) = half + 1 := IntWalk.i64_in _ (by omega)
            go_wp2_with fail
            go_roundw
            case rel => exact ⟨f, half + 1, hi, n + 30000000000000000, rfl, rfl, by omega, by omega, by omega, by omega, by omega, by omega, by omega, HA10.out, HS10.out, HB3.out⟩
            case measure => simp [intOf]; omega
          · have hd0 : dd = true := by rw [← HDD.out]; simpa using hl
            have hpb : pb = decide ((l.length : Int) ≤ many) := by rw [HEN.out]; simp [hl]
            subst hd0 hv
            clear HEN HDD HV10
            by_cases hm : (l.length : Int) ≤ many
            · have HB3 : Hid (tv = bis (enG m many) f lo half) := by unfold Hid; have := HB2.out; rw [hpb] at this; simpa [hm] using this
              clear HB2 hpb
              go_wp2_with fail
              go_roundw
              case rel => exact ⟨f, lo, half, n + 30000000000000000, rfl, rfl, by omega, by omega, by omega, by omega, by omega, by omega, by omega, HA10.out, HS10.out, HB3.out⟩
              case measure => simp [intOf]; omega
            · have HB3 : Hid (tv = bis (enG m many) f (half + 1) hi) := by unfold Hid; have := HB2.out; rw [hpb] at this; simpa [hm] using this
              clear HB2 hpb
              have hwh : IntKind.i64.wrap (half + 1) = half + 1 := IntWalk.i64_in _ (by omega)
              go_wp2_with fail
              go_roundw
              case rel => exact ⟨f, half + 1, hi, n + 30000000000000000, rfl, rfl, by omega, by omega, by omega, by omega, by omega, by omega, by omega, HA10.out, HS10.out, HB3.out⟩
              case measure => simp [intOf]; omega
        · have htv : tv = lo := by rw [HTV3.out, bis_end _ _ hlt]
          clear HTV3
          subst htv
          go_wp2_with fail
          exact bodyPost_ret (v := .tuple #[.int .i64 tv, .int .i64 0]) (by simp [results, Try.results31, go_sem]) rfl ⟨HA9.out.fr, rfl⟩
    · have hte : te = 7 := by rw [HTE3.out, if_pos hge]
      clear HTE3
      subst hte
      go_wp2_with fail
      exact bodyPost_ret (v := .tuple #[.int .i64 0, .int .i64 7]) (by simp [results, Try.results31, go_sem]) rfl ⟨HA5.out.fr, rfl⟩
end Go.Proofs.Ytpnkgjkoophckaa
