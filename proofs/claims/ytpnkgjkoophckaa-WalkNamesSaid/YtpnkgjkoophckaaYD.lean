/- Walk: limited, divided, Fewest. -/
import Derived.Test.YtpnkgjkoophckaaYC
import Derived.Test.YtpnkgjkoophckaaWX
namespace Go.Proofs.Ytpnkgjkoophckaa
open Go.RowKit Go.Shelf Go.Maps

theorem limited_any (lim : Int) (w : World) : Calls Try.prog 81 #[.int .i64 lim] w fun e w' => e = .returned (.bool (inB lim 0 10000)) ∧ w = w' := by
  go_enter Try.func81, Try.ntmps81
  go_wp2_with (go_at_call 75; refine (within_any _ _ _ _).mono ?_; rintro _ _ ⟨rfl, rfl⟩)
  go_ret
  exact ⟨rfl, rfl⟩
/-- The places of the best division. -/
def dvW (m : Mp) (lim : Int) : List Nat := dv (okL m lim) (2 ^ m.nw - 1)
/-- The error of Plan and Fewest. -/
def dvdE (m : Mp) (lim : Int) : Int := if m.fault ≠ 0 then m.fault else if inB lim 0 10000 = true then (if dvW m lim = [] then 9 else 0) else 2
def GivesP (w : World) (x : MV) (m : Mp) (lim : Int) (e : Ending) (w' : World) : Prop :=
  Below w.heap.size w w' ∧
    ((dvdE m lim ≠ 0 ∧ e = .returned (.tuple #[.pointer none, .slice none 0 0, .int .i64 (dvdE m lim)])) ∨
     (dvdE m lim = 0 ∧ ∃ A bm g c, e = .returned (.tuple #[.pointer (some ⟨A, 0, none⟩), .slice (some ⟨g, 0, none⟩) (dvW m lim).length c, .int .i64 0]) ∧ At w' A bm 30000000000000000 x m ∧ w'.ownsRow 0 124 1 (.slice (some ⟨g, 0, none⟩) (dvW m lim).length c) (dvW m lim).length (nL (dvW m lim)) ∧ w.heap.size ≤ A ∧ w.heap.size ≤ bm))
set_option maxRecDepth 100000 in
set_option maxHeartbeats 16000000 in
theorem divided_any (x : MV) (m : Mp) (lim : Int) (w : World) (h : MpIn w x m) (hnw : m.nw ≤ 100000) (hnr : m.nr ≤ 100000) :
    Calls Try.prog 82 #[.agg #[.slice x.wa m.nw x.wc, .slice x.ra m.nr x.rc], .int .i64 lim] w (GivesP w x m lim) := by
  have HMP := Lib.hid h
  have HCK := Lib.hid (fun W (hW : Below w.heap.size w W) => check_any x m W (h.below hW) hnw hnr)
  have HTE : Hid (dvdE m lim = if m.fault ≠ 0 then m.fault else if inB lim 0 10000 = true then (if dvW m lim = [] then 9 else 0) else 2) := rfl
  have HOKM := Lib.hid (okM_of (m := m))
  have HLI := Lib.hid (fun W => limited_any lim W)
  unfold GivesP
  clear h
  generalize dvdE m lim = te at *
  generalize m.fault = ft at *
  obtain ⟨ib, hib⟩ : ∃ ib, ib = inB lim 0 10000 := ⟨_, rfl⟩
  rw [← hib] at HTE HLI
  clear hib
  obtain ⟨l, hlw⟩ : ∃ l, l = dvW m lim := ⟨_, rfl⟩
  rw [← hlw] at HTE ⊢
  have HLW := Lib.hid hlw
  clear hlw
  have HA0 : Hid (BF w (w.alloc (.cells #[.slice x.wa m.nw x.wc, .slice x.ra m.nr x.rc] 37)) [(w.heap.size, #[.slice x.wa m.nw x.wc, .slice x.ra m.nr x.rc], 37)]) := (BF.base w).alloc _ _
  go_enter Try.func82, Try.ntmps82
  go_upto_region 1 with fail
  generalize w.alloc (.cells #[.slice x.wa m.nw x.wc, .slice x.ra m.nr x.rc] 37) = w0 at *
  have c0 := HA0.out.cell (.head _) 0
  have c1 := HA0.out.cell (.head _) 1
  by_cases k1 : ft = 0
  case neg =>
    have kb : (ft != 0) = true := by simp [k1]
    have hte := HTE.out
    rw [if_pos k1] at hte
    go_wp2_with (go_at_call 51; refine (HCK.out _ HA0.out.fr).mono ?_; rintro _ w1 ⟨rfl, hb⟩; have HA1 := Lib.hid (HA0.out.below hb); clear hb)
    exact bodyPost_ret (v := .tuple #[.pointer none, .slice none 0 0, .int .i64 ft]) (by simp [results, Try.results82, go_sem]) rfl ⟨HA1.out.fr, .inl ⟨by rw [hte]; exact k1, by rw [hte]⟩⟩
  subst k1
  have hok := HOKM.out rfl
  have HTE2 : Hid (te = if ib = true then (if l = [] then 9 else 0) else 2) := HTE.out
  clear HTE HOKM
  cases ib
  · have HTE3 : Hid (te = 2) := HTE2.out
    clear HTE2
    go_wp2_with (first | (go_at_call 51; refine (HCK.out _ HA0.out.fr).mono ?_; rintro _ w1 ⟨rfl, hb⟩; have HA1 := Lib.hid (HA0.out.below hb); clear hb) | (go_at_call 81; refine (HLI.out _).mono ?_; rintro _ w2 ⟨rfl, rfl⟩))
    exact bodyPost_ret (v := .tuple #[.pointer none, .slice none 0 0, .int .i64 2]) (by simp [results, Try.results82, go_sem]) rfl ⟨HA1.out.fr, .inl ⟨by rw [HTE3.out]; decide, by rw [HTE3.out]⟩⟩
  · have HTE3 : Hid (te = if l = [] then 9 else 0) := HTE2.out
    clear HTE2
    have HAT := Lib.hid (fun W (hW : Below w.heap.size w W) => atlas_any x m W (HMP.out.below hW) hok)
    have HDV := Lib.hid (fun A bm W (hW : At W A bm 0 x m) => divide_any hok x A bm 0 lim (by omega) W hW)
    unfold GivesA at HAT
    unfold GivesD at HDV
    change Hid (∀ A bm W, At W A bm 0 x m → Calls Try.prog 78 #[.pointer (some ⟨A, 0, none⟩), .int .i64 lim] W fun e W' => ∃ v, e = .returned (.tuple #[v, .bool (decide (dvW m lim ≠ []))]) ∧ At W' A bm (0 + 30000000000000000) x m ∧ Hold W' v (dvW m lim) ∧ Fr (fun q => q = bm) W W') at HDV
    rw [← HLW.out] at HDV
    clear HLW
    obtain ⟨b, hb⟩ : ∃ b, decide (l ≠ []) = b := ⟨_, rfl⟩
    rw [hb] at HDV
    cases b
    · have hl : l = [] := by simpa using hb
      have HTE4 : Hid (te = 9) := by rw [if_pos hl] at HTE3; exact HTE3.out
      clear hb HTE3
      subst hl
      go_wp2_with (first | (go_at_call 51; refine (HCK.out _ HA0.out.fr).mono ?_; rintro _ w1 ⟨rfl, hb⟩; have HA1 := Lib.hid (HA0.out.below hb); have d0 := HA1.out.cell (.head _) 0; have d1 := HA1.out.cell (.head _) 1; clear hb) | (go_at_call 81; refine (HLI.out _).mono ?_; rintro _ w2 ⟨rfl, rfl⟩) | (go_at_call 69; refine (HAT.out _ HA1.out.fr).mono ?_; rintro _ w4 ⟨rfl, hat, hmp, hb⟩; have HA4 := Lib.hid (HA1.out.below hb); have HS4 := Lib.hid (At.made hat hmp ((HMP.out.below HA1.out.fr).below hb)); clear hat hmp hb) | (go_at_call 78; refine (HDV.out _ _ _ HS4.out).mono ?_; rintro _ w5 ⟨v, rfl, hs5, hv5, hf5⟩; have HS5 := Lib.hid hs5; have HV5 := Lib.hid hv5; have HF5 := Lib.hid hf5; clear hs5 hf5 hv5))
      exact bodyPost_ret (v := .tuple #[.pointer none, .slice none 0 0, .int .i64 9]) (by simp [results, Try.results82, go_sem]) rfl ⟨(HA4.out.frm HF5.out (show w.heap.size ≤ w1.heap.size + 1 from Nat.le_succ_of_le HA1.out.fr.size) (List.forall_mem_cons.2 ⟨(by show w.heap.size ≠ w1.heap.size + 1; have := HA1.out.fr.size; omega), List.forall_mem_nil _⟩)).fr, .inl ⟨by rw [HTE4.out]; decide, by rw [HTE4.out]⟩⟩
    · have hl : l ≠ [] := by simpa using hb
      have HTE4 : Hid (te = 0) := by rw [if_neg hl] at HTE3; exact HTE3.out
      clear hb HTE3
      have HLN := Lib.hid hl
      clear hl
      go_wp2_with (first | (go_at_call 51; refine (HCK.out _ HA0.out.fr).mono ?_; rintro _ w1 ⟨rfl, hb⟩; have HA1 := Lib.hid (HA0.out.below hb); have d0 := HA1.out.cell (.head _) 0; have d1 := HA1.out.cell (.head _) 1; clear hb) | (go_at_call 81; refine (HLI.out _).mono ?_; rintro _ w2 ⟨rfl, rfl⟩) | (go_at_call 69; refine (HAT.out _ HA1.out.fr).mono ?_; rintro _ w4 ⟨rfl, hat, hmp, hb⟩; have HA4 := Lib.hid (HA1.out.below hb); have HS4 := Lib.hid (At.made hat hmp ((HMP.out.below HA1.out.fr).below hb)); clear hat hmp hb) | (go_at_call 78; refine (HDV.out _ _ _ HS4.out).mono ?_; rintro _ w5 ⟨v, rfl, hs5, hv5, hf5⟩; have HS5 := Lib.hid hs5; have HV5 := Lib.hid hv5; have HF5 := Lib.hid hf5; clear hs5 hf5 hv5))
      rcases HV5.out with ⟨h, _⟩ | ⟨_, hown⟩
      · exact absurd h HLN.out
      obtain ⟨va, vc, rfl⟩ := own_slice' hown
      obtain ⟨g, rfl⟩ := own_somep hown (List.length_pos_iff.2 HLN.out)
      exact bodyPost_ret (v := .tuple #[.pointer (some ⟨w1.heap.size + 2, 0, none⟩), .slice (some ⟨g, 0, none⟩) l.length vc, .int .i64 0]) (by simp [results, Try.results82, go_sem]) rfl ⟨(HA4.out.frm HF5.out (show w.heap.size ≤ w1.heap.size + 1 from Nat.le_succ_of_le HA1.out.fr.size) (List.forall_mem_cons.2 ⟨(by show w.heap.size ≠ w1.heap.size + 1; have := HA1.out.fr.size; omega), List.forall_mem_nil _⟩)).fr, .inr ⟨HTE4.out, _, _, g, vc, rfl, HS5.out.mono (by omega), hown, by have := HA1.out.fr.size; omega, by have := HA1.out.fr.size; omega⟩⟩
end Go.Proofs.Ytpnkgjkoophckaa
