/- Walk: divide$1. Printed by gen_yb.py. -/
import Derived.Test.YtpnkgjkoophckaaYA
namespace Go.Proofs.Ytpnkgjkoophckaa
open Go.RowKit Go.Shelf Go.Maps

theorem set_eql (W : World) (a : Option Addr) (n c : Nat) : (binOp .eql 136 (.slice a n c) (.slice none 0 0)).run Try.prog W = .ok (.bool a.isNone) W := Lib.run_eql_slice_nil W 136 124 a n c 0 0 Try.underlying136
theorem set_neq (W : World) (a : Option Addr) (n c : Nat) : (binOp .neq 136 (.slice a n c) (.slice none 0 0)).run Try.prog W = .ok (.bool (!a.isNone)) W := by
  simp only [binOp]
  simp [Op.equal, Op.maxDepth, Lib.run_equalIn_slice_nil W 9999 136 124 a n c 0 0 Try.underlying136]
theorem set_eqn (W : World) : (binOp .eql 136 (.slice none 0 0) (.slice none 0 0)).run Try.prog W = .ok (.bool true) W := set_eql W none 0 0
theorem set_eqs (W : World) (g n c : Nat) : (binOp .eql 136 (.slice (some ⟨g, 0, none⟩) n c) (.slice none 0 0)).run Try.prog W = .ok (.bool false) W := set_eql W (some ⟨g, 0, none⟩) n c
theorem Hold.cases {X : World} {v : Value} {l : List Nat} (h : Hold X v l) : (l = [] ∧ v = .slice none 0 0) ∨ (l ≠ [] ∧ ∃ g c, v = .slice (some ⟨g, 0, none⟩) l.length c) := by
  rcases h with h | ⟨h1, h2⟩
  · exact .inl h
  · obtain ⟨a, c, rfl⟩ := own_slice' h2
    obtain ⟨g, rfl⟩ := own_somep h2 (List.length_pos_iff.2 h1)
    exact .inr ⟨h1, g, c, rfl⟩
theorem Hold.nil {X : World} {v : Value} (h : Hold X v []) : v = .slice none 0 0 := by
  rcases h.cases with ⟨_, h⟩ | ⟨h, _⟩
  · exact h
  · exact absurd rfl h
set_option maxRecDepth 100000 in
set_option maxHeartbeats 8000000 in
theorem dv_none (x : MV) (m : Mp) (A bm Bb Ba Bl Bs BQ N n : Nat) (lim : Int) (Z : Nat → List Nat) (E : Nat → Value) (hN : 0 < N) (w W : World) (h : Dv w W A bm n x m Bb Ba Bl Bs BQ N lim Z E) (hZ : Z 0 = [] ∨ Z 0 = dv (okL m lim) 0) :
    Calls Try.prog 102 #[.int .i64 0, .pointer (some ⟨Bb, 0, none⟩), .pointer (some ⟨Ba, 0, none⟩), .pointer (some ⟨Bl, 0, none⟩), .pointer (some ⟨Bs, 0, none⟩)] W (GivesV w A bm n x m Bb Ba Bl Bs BQ N lim Z 0) := by
  have hz : Z 0 = [] := by rcases hZ with h | h; exact h; exact h
  have hE := h.ho 0 hN
  rw [hz] at hE
  have hE0 := hE.nil
  obtain ⟨c1, c2, c3, c4⟩ := h.cells
  have c5 := h.cell hN
  rw [hE0] at c5
  have HD := Lib.hid h
  have HZ := Lib.hid hz
  clear h hE hZ hz
  go_enter Try.func102, Try.ntmps102
  go_wp2_with fail
  go_ret
  exact ⟨_, Z, E, rfl, HD.out, .inl ⟨rfl, rfl⟩, fun k hk => .inl (by obtain rfl : k = 0 := by omega
                                                                     exact HZ.out), fun _ _ => rfl⟩
set_option maxRecDepth 100000 in
set_option maxHeartbeats 16000000 in
theorem dv_step {m : Mp} (ok : OkM m) (x : MV) (A bm Bb Ba Bl Bs BQ n0 p N : Nat) (lim : Int) (w : World) (h0 : At w A bm n0 x m) (hNN : N = 2 ^ m.nw)
    (ih : ∀ s', (plc s').length ≤ p → s' < N → ∀ n', n' + cD p ≤ 950000000000000000 → ∀ Z E W, Dv w W A bm n' x m Bb Ba Bl Bs BQ N lim Z E → (∀ k, k ≤ s' → Z k = [] ∨ Z k = dv (okL m lim) k) →
      Calls Try.prog 102 #[.int .i64 (s' : Int), .pointer (some ⟨Bb, 0, none⟩), .pointer (some ⟨Ba, 0, none⟩), .pointer (some ⟨Bl, 0, none⟩), .pointer (some ⟨Bs, 0, none⟩)] W (GivesV w A bm (n' + cD p) x m Bb Ba Bl Bs BQ N lim Z s'))
    (s : Nat) (hp : (plc s).length = p + 1) (hs : s < N) (n : Nat) (hn : n + cD (p + 1) ≤ 950000000000000000) (Z : Nat → List Nat) (E : Nat → Value) (W : World) (h : Dv w W A bm n x m Bb Ba Bl Bs BQ N lim Z E) (hZ : ∀ k, k ≤ s → Z k = [] ∨ Z k = dv (okL m lim) k) :
    Calls Try.prog 102 #[.int .i64 (s : Int), .pointer (some ⟨Bb, 0, none⟩), .pointer (some ⟨Ba, 0, none⟩), .pointer (some ⟨Bl, 0, none⟩), .pointer (some ⟨Bs, 0, none⟩)] W (GivesV w A bm (n + cD (p + 1)) x m Bb Ba Bl Bs BQ N lim Z s) := by
  obtain ⟨i0, hi0, hz0, hz1, hz2⟩ := info_parts Try.infoSet
  have hnw := ok.nw
  have hN8 : N ≤ 256 := by rw [hNN]; exact Nat.pow_le_pow_right (by decide) hnw.2
  have HNN := Lib.hid hNN
  clear hNN
  have hs8 : s < 256 := by omega
  have hs0 : s ≠ 0 := fun e => by rw [e, plc_nil] at hp; omega
  have s0 : ((s : Int) == 0) = false := by simp; omega
  have si : (0 : Int) ≤ (s : Int) := by omega
  have sN : (s : Int) < (N : Int) := by omega
  obtain ⟨c1, c2, c3, c4⟩ := h.cells
  have c5 := h.cell hs
  have hE := h.ho s hs
  have HZ := Lib.hid hZ
  have HD := Lib.hid h
  have H0 := Lib.hid h0
  clear h h0 hZ
  rcases hE.cases with ⟨hz, hE⟩ | ⟨hz, g, c, hE⟩
  · rw [hE] at c5
    obtain ⟨cc, hcc⟩ : ∃ cc, cc = 200000 + cD p := ⟨_, rfl⟩
    have HCC := Lib.hid hcc
    have HCD : Hid (cD (p + 1) = 2 ^ (p + 1) * cc) := by unfold Hid; rw [hcc]; rfl
    have HSL : Hid ((subs s).length ≤ 2 ^ (p + 1) - 1) := by have := subs_len ⟨s, hs8⟩; simp only at this; rw [hp] at this; exact this
    have HIH := Lib.hid ih
    have HSM : Hid (∀ q, q ∈ subs s → q &&& s = q ∧ 0 < q) := fun q hq => subsF_mem _ _ _ q (Nat.and_self _) hq
    have HLG := Lib.hid (fun q n' (hq : q < N) (hn' : n' ≤ 1000000000000000000) W (hW : At W A bm n' x m) => longest_any ok x A bm q n' (by rw [← HNN.out]; exact hq) hn' W hW)
    have HLB := Lib.hid (fun q (hq : q < N) => lgM_bd ok (s := q) (by rw [← HNN.out]; exact hq))
    have HZ0 := Lib.hid hz
    have HPP := Lib.hid (plc_part ⟨s, hs8⟩)
    have HBR := Lib.hid (bit_rest ⟨s, hs8⟩)
    have HBD := Lib.hid (bit_down ⟨s, hs8⟩)
    have h2p := Nat.one_le_two_pow (n := p + 1)
    unfold GivesI at HLG
    unfold GivesV at HIH ⊢
    clear hE hz ih hcc
    obtain ⟨F, hF⟩ : ∃ F, F = bits BinOp.and IntKind.i64 (s : Int) (IntKind.i64.wrap (-(s : Int))) := ⟨_, rfl⟩
    have HNO : Hid (∀ q, noF s q = (bits BinOp.and IntKind.i64 (q : Int) F == 0)) := by intro q; rw [hF]; rfl
    rw [show IntKind.i64.wrap (-(s : Int)) = -(s : Int) from IntWalk.i64_in _ (by omega)] at hF
    go_enter Try.func102, Try.ntmps102
    go_wp2_with fail
    rw [← hF]
    clear hF c1 c2 c3 c4 c5
    go_loopw [8] (fun i wr => ∃ (q k : Nat) (D : List Nat) (n' : Nat) (Z' : Nat → List Nat) (E' : Nat → Value), i = .int .i64 q ∧ q ≤ k ∧ q ≤ s ∧ q &&& s = q ∧ subs s = D ++ subsF k s q ∧ n' = n + D.length * cc ∧ Dv w wr A bm n' x m Bb Ba Bl Bs BQ N lim Z' E' ∧ Z' s = dvD (okL m lim) s D ∧ (∀ k, k < s → Z' k = [] ∨ Z' k = dv (okL m lim) k) ∧ ∀ k, s < k → Z' k = Z k) (fun i _ => (intOf i).toNat)
    case atStart => exact ⟨s, s, [], n, Z, E, rfl, Nat.le_refl _, Nat.le_refl _, Nat.and_self _, rfl, by simp, HD.out, HZ0.out, fun k hk => HZ.out k (Nat.le_of_lt hk), fun _ _ => rfl⟩
    case round =>
      clear HD HZ HZ0
      obtain ⟨q, k, D, n', Z', E', rfl, hqk, hqs, hqa, hsub, hn', hdv, hzs, hzl, hzg⟩ := hrel
      rename World => wx
      obtain ⟨c1, c2, c3, c4⟩ := hdv.cells
      have HD := Lib.hid hdv; have HSB := Lib.hid hsub; have HZS := Lib.hid hzs; have HZL := Lib.hid hzl; have HZG := Lib.hid hzg; have HQA := Lib.hid hqa
      clear hdv hsub hzs hzl hzg
      by_cases hq : q = 0
      · subst hq
        have hD : subs s = D := by
          have := HSB.out
          cases k with
          | zero => simpa [subsF] using this
          | succ k => simpa [subsF] using this
        have hZs : Z' s = dv (okL m lim) s := by rw [HZS.out, dv_eq, hD]; rfl
        have hcnt : n' ≤ n + cD (p + 1) := by
          have h1 := HSL.out
          rw [hD] at h1
          rw [hn', HCD.out]
          exact Nat.add_le_add_left (Nat.mul_le_mul_right _ (by omega)) _
        have hHold := HD.out.ho s hs
        rw [hZs] at hHold
        have c5 := HD.out.cell hs
        have HR : Hid (Dv w wx A bm (n + cD (p + 1)) x m Bb Ba Bl Bs BQ N lim Z' E' ∧ Hold wx (E' s) (dv (okL m lim) s) ∧ (∀ k, k ≤ s → Z' k = [] ∨ Z' k = dv (okL m lim) k) ∧ ∀ k, s < k → Z' k = Z k) := ⟨HD.out.mono hcnt, hHold, fun k hk => by
          rcases Nat.lt_or_ge k s with h | h
          · exact HZL.out k h
          · obtain rfl : k = s := by omega
            exact .inr hZs, HZG.out⟩
        clear HD HSB HZS HZL HZG hHold HIH HLG HLB HPP HBR HBD
        generalize E' s = u at *
        go_wp2_with fail
        go_ret
        exact ⟨_, Z', E', rfl, HR.out⟩
      · obtain ⟨k, rfl⟩ : ∃ k', k = k' + 1 := ⟨k - 1, by omega⟩
        have hsub2 : subs s = (D ++ [q]) ++ subsF k s ((q - 1) &&& s) := by
          have := HSB.out
          rw [subsF, if_neg hq] at this
          rw [this, List.append_assoc]; rfl
        have hlen : D.length + 1 ≤ 2 ^ (p + 1) - 1 := by
          have h1 := HSL.out
          rw [hsub2, List.length_append, List.length_append] at h1
          simp only [List.length_cons, List.length_nil] at h1
          omega
        have hcnt : n' + cc ≤ n + cD (p + 1) := by
          rw [hn', HCD.out, Nat.add_assoc, ← Nat.succ_mul]
          exact Nat.add_le_add_left (Nat.mul_le_mul_right _ (by omega)) _
        have hcc := HCC.out
        have qi : (0 : Int) < (q : Int) := by omega
        have hq8 : q < 256 := by omega
        have hw1 : IntKind.i64.wrap ((q : Int) - 1) = (q : Int) - 1 := IntWalk.i64_in _ (by omega)
        have hdn := HBD.out ⟨q, hq8⟩ (by simp only; omega)
        simp only at hdn
        have hle : (q - 1) &&& s ≤ q - 1 := Nat.and_le_left
        have hNX : Hid (∀ wr n2 Z2 E2, n2 ≤ n' + cc → Dv w wr A bm n2 x m Bb Ba Bl Bs BQ N lim Z2 E2 → Z2 s = dvStep (okL m lim) s (dv (okL m lim)) (dvD (okL m lim) s D) q → (∀ k, k < s → Z2 k = [] ∨ Z2 k = dv (okL m lim) k) → (∀ k, s < k → Z2 k = Z k) →
            ∃ (q2 k : Nat) (D : List Nat) (n' : Nat) (Z' : Nat → List Nat) (E' : Nat → Value), (Value.int .i64 (((q - 1) &&& s : Nat) : Int)) = .int .i64 q2 ∧ q2 ≤ k ∧ q2 ≤ s ∧ q2 &&& s = q2 ∧ subs s = D ++ subsF k s q2 ∧ n' = n + D.length * cc ∧ Dv w wr A bm n' x m Bb Ba Bl Bs BQ N lim Z' E' ∧ Z' s = dvD (okL m lim) s D ∧ (∀ k, k < s → Z' k = [] ∨ Z' k = dv (okL m lim) k) ∧ ∀ k, s < k → Z' k = Z k) := fun wr n2 Z2 E2 hn2 h1 h2 h3 h4 =>
          ⟨(q - 1) &&& s, k, D ++ [q], n' + cc, Z2, E2, rfl, by omega, by omega, by rw [Nat.and_assoc, Nat.and_self], hsub2, by rw [hn', List.length_append, List.length_cons, List.length_nil, Nat.add_assoc, ← Nat.succ_mul], h1.mono hn2, by rw [dvD_snoc]; exact h2, h3, h4⟩
        have hms : (((q - 1) &&& s : Nat) : Int).toNat < ((q : Nat) : Int).toNat := by omega
        have hN' := HNO.out q
        have HDM : Hid (∀ r, r ∈ D → r &&& s = r ∧ 0 < r) := fun r hr => HSM.out r (by rw [hsub2]; exact List.mem_append_left _ (List.mem_append_left _ hr))
        clear hsub2 HSB hn' HSL HBD HSM
        by_cases hno : noF s q = true
        · have h1 : dvStep (okL m lim) s (dv (okL m lim)) (dvD (okL m lim) s D) q = dvD (okL m lim) s D := by unfold dvStep; rw [if_pos (.inl hno)]
          rw [hno] at hN'
          have hN2 : bits BinOp.and IntKind.i64 (q : Int) F = 0 := by simpa using hN'.symm
          have HE := Lib.hid (fun X (hX : Dv w X A bm n' x m Bb Ba Bl Bs BQ N lim Z' E') => hNX.out X n' Z' E' (by omega) hX (by rw [h1]; exact HZS.out) HZL.out HZG.out)
          clear hNX h1 hN' HIH HLG HLB HPP HBR
          generalize (q - 1) &&& s = q2 at *
          go_upto_region 7 with fail
          have HBX : Hid (BF wx wx.drew []) := ⟨(Below.refl _ _).drew, fun _ _ _ h => by cases h⟩
          have HEX : Hid (Dv w wx.drew A bm n' x m Bb Ba Bl Bs BQ N lim Z' E') := HD.out.below HBX.out.fr
          refine wp_region_held_drew (S := fun _ => True) (by kernel_rfl) trivial (fun hS => ?_)
          refine tk [0, 1, 2, 3, 4] ?_
          repeat (refine tkH (oi := ⟨_, _, _, _, _, _⟩) (v := ?_) rfl (by kernel_rfl) (by rfl) (fun _ _ _ h => h) hS ?_ ?_; rotate_left; (· intro W' hSw; go_simp; try with_reducible rfl); try simp only [Act.put, putA, putZ, putS])
          refine tk0 ?_
          refine wpAnyH_take (i := 5) (oi := ⟨some 39, _, _, _, _, _⟩) (v := undef) rfl (by kernel_rfl) (by kernel_rfl) (by kernel_rfl) (fun _ _ _ h => h) (Or.inr ⟨by rfl, rfl⟩) hS ?_
          try simp only [Act.put, putA, putZ, putS]
          refine wpAnyH_take (i := 6) (oi := ⟨some 40, _, _, _, _, _⟩) (v := undef) rfl (by kernel_rfl) (by kernel_rfl) (by kernel_rfl) (fun _ _ _ h => h) (Or.inr ⟨by rfl, rfl⟩) hS ?_
          try simp only [Act.put, putA, putZ, putS]
          refine wpAnyH_take (i := 7) (oi := ⟨some 41, _, _, _, _, _⟩) (v := undef) rfl (by kernel_rfl) (by kernel_rfl) (by kernel_rfl) (fun _ _ _ h => h) (Or.inr ⟨by rfl, rfl⟩) hS ?_
          try simp only [Act.put, putA, putZ, putS]
          refine wpAnyH_take (i := 8) (oi := ⟨some 42, _, _, _, _, _⟩) (v := undef) rfl (by kernel_rfl) (by kernel_rfl) (by kernel_rfl) (fun _ _ _ h => h) (Or.inr ⟨by rfl, rfl⟩) hS ?_
          try simp only [Act.put, putA, putZ, putS]
          refine wpAnyH_take (i := 9) (oi := ⟨some 43, _, _, _, _, _⟩) (v := undef) rfl (by kernel_rfl) (by kernel_rfl) (by kernel_rfl) (fun _ _ _ h => h) (Or.inr ⟨by rfl, rfl⟩) hS ?_
          try simp only [Act.put, putA, putZ, putS]
          refine tH 10 (oi := ⟨_, _, _, _, _, _⟩) (v := ?_) rfl (by kernel_rfl) (by rfl) (fun _ _ _ h => h) hS ?_ ?_
          rotate_left
          · intro W' hSw; go_simp; try with_reducible rfl
          try simp only [Act.put, putA, putZ, putS]
          refine wpAnyH_done (by kernel_rfl) ?_ _
          go_wp2_with fail
          go_roundw
          case rel => exact HE.out _ HEX.out
          case measure => simp [intOf]; omega
        · have hno' : noF s q = false := by simpa using hno
          rw [hno'] at hN'
          have hN2 := hN'.symm
          have hqN : q < N := by omega
          have hlb := HLB.out q hqN
          have HL1 := Lib.hid (HLG.out q n' hqN (by omega))
          clear HLB HLG
          have HOK : Hid (okL m lim q = decide (lgM m q ≤ lim)) := rfl
          generalize lgM m q = lg at *
          by_cases hov : lim < lg
          · have h1 : dvStep (okL m lim) s (dv (okL m lim)) (dvD (okL m lim) s D) q = dvD (okL m lim) s D := by unfold dvStep; rw [if_pos (.inr (by rw [HOK.out]; simp; omega))]
            have HNE := Lib.hid (fun w2 n2 (hn2 : n2 ≤ n' + cc) (h2 : Dv w w2 A bm n2 x m Bb Ba Bl Bs BQ N lim Z' E') => hNX.out w2 n2 Z' E' hn2 h2 (by rw [h1]; exact HZS.out) HZL.out HZG.out)
            clear hNX h1 hN' HIH HPP HBR HZS HZL HZG
            generalize (q - 1) &&& s = q2 at *
            go_wp2
            go_region_held3 (fun X => X.cell? ⟨Bl, 0, none⟩ = some (.int .i64 lim) ∧ X.cell? ⟨Ba, 0, none⟩ = some (.pointer (some ⟨A, 0, none⟩))) (first | (constructor <;> assumption) | go_keep) (first | (go_at_call 70; refine (HL1.out _ (HD.out.st.below (Below.refl _ _).drew)).mono ?_; rintro _ w2 ⟨rfl, hs2, hf2⟩; have HD2 := Lib.hid ((HD.out.below (Below.refl _ _).drew).go hf2 hs2); obtain ⟨d1, d2, d3, d4⟩ := HD2.out.cells; clear hs2 hf2))
            go_wp2_with fail
            go_roundw
            case rel => exact HNE.out _ _ (by omega) HD2.out
            case measure => simp [intOf]; omega
          · have hle1 : lg ≤ lim := by omega
            have hqq := HQA.out
            have hqs2 : (plc (s - q)).length ≤ p := by have := HPP.out ⟨q, hq8⟩ (by simpa using hqq) (by simp only; omega); simp only at this; omega
            have hbr := HBR.out ⟨q, hq8⟩ (by simpa using hqq)
            simp only at hbr
            have HI1 := Lib.hid (HIH.out (s - q) hqs2 (by omega) (n' + 200000) (by omega))
            have HDS : Hid (dvStep (okL m lim) s (dv (okL m lim)) (dvD (okL m lim) s D) q = if s ≠ q ∧ dv (okL m lim) (s - q) = [] then dvD (okL m lim) s D else if dvD (okL m lim) s D = [] ∨ (dv (okL m lim) (s - q)).length + 1 < (dvD (okL m lim) s D).length then dv (okL m lim) (s - q) ++ [q] else dvD (okL m lim) s D) := by
              unfold Hid
              conv => lhs; unfold dvStep
              rw [if_neg (fun h => by rcases h with h | h; exact hno h; rw [HOK.out] at h; simp at h; omega)]
            have hll := dv_len (okL m lim) (s - q)
            have hbl : (dvD (okL m lim) s D).length ≤ s := dvD_len (fun r hr => by
              have := HDM.out r hr
              exact ⟨this.2, sub_le this.1⟩)
            have hl0 : s = q → dv (okL m lim) (s - q) = [] := fun e => by rw [e, Nat.sub_self, dv_zero]
            obtain ⟨l, hl⟩ : ∃ l, l = dv (okL m lim) (s - q) := ⟨_, rfl⟩
            obtain ⟨bb, hbb⟩ : ∃ bb, bb = dvD (okL m lim) s D := ⟨_, rfl⟩
            rw [← hl, ← hbb] at HDS
            rw [← hl] at hll hl0 HI1
            rw [← hbb] at hbl HZS hNX
            rw [HDS.out] at hNX
            clear hl hbb HDS HIH HPP HBR HDM HOK hN'
            generalize (q - 1) &&& s = q2 at *
            go_wp2
            go_region_held3 (fun X => X.cell? ⟨Bl, 0, none⟩ = some (.int .i64 lim) ∧ X.cell? ⟨Ba, 0, none⟩ = some (.pointer (some ⟨A, 0, none⟩))) (first | (constructor <;> assumption) | go_keep) (first | (go_at_call 70; refine (HL1.out _ (HD.out.st.below (Below.refl _ _).drew)).mono ?_; rintro _ w2 ⟨rfl, hs2, hf2⟩; have HD2 := Lib.hid ((HD.out.below (Below.refl _ _).drew).go hf2 hs2); obtain ⟨d1, d2, d3, d4⟩ := HD2.out.cells; unfold clo at d4; clear hs2 hf2))
            go_upto_region 9 with (first | (go_at_call 102; refine (HI1.out Z' E' _ HD2.out (fun k hk => HZL.out k (by omega))).mono ?_; rintro _ w3 ⟨v, Z2, E2, rfl, hd3, hv3, hle3, hgt3⟩; have HD3 := Lib.hid (hd3.mono (show n' + 200000 + cD p ≤ n' + cc by omega)); have HV3 := Lib.hid hv3; have HLE3 := Lib.hid hle3; have HGT3 := Lib.hid hgt3; clear hd3 hv3 hle3 hgt3))
            have hgs := HGT3.out s (by omega)
            rw [HZS.out] at hgs
            have hbE := HD3.out.ho s hs
            rw [hgs] at hbE
            have c5 := HD3.out.cell hs
            obtain ⟨c1, c2, c3, c4⟩ := HD3.out.cells
            have HZK : Hid (∀ k, k < s → Z2 k = [] ∨ Z2 k = dv (okL m lim) k) := fun k hk => by
              rcases Nat.lt_or_ge (s - q) k with h | h
              · rw [HGT3.out k h]; exact HZL.out k hk
              · exact HLE3.out k h
            have HZM : Hid (∀ k, s < k → Z2 k = Z k) := fun k hk => (HGT3.out k (by omega)).trans (HZG.out k hk)
            have HGS := Lib.hid hgs
            have HSTAY : Hid (∀ X, Dv w X A bm (n' + cc) x m Bb Ba Bl Bs BQ N lim Z2 E2 → (bb = if s ≠ q ∧ l = [] then bb else if bb = [] ∨ l.length + 1 < bb.length then l ++ [q] else bb) → _) := fun X hX hb => hNX.out X (n' + cc) Z2 E2 (Nat.le_refl _) hX (HGS.out.trans hb) HZK.out HZM.out
            have HPUT : Hid (∀ X v', Dv w X A bm (n' + cc) x m Bb Ba Bl Bs BQ N lim Z2 E2 → Hold X v' (l ++ [q]) → (l ++ [q] = if s ≠ q ∧ l = [] then bb else if bb = [] ∨ l.length + 1 < bb.length then l ++ [q] else bb) → _) := fun X v' hX hv hb => hNX.out (X.setCell ⟨BQ, s, none⟩ v') (n' + cc) _ _ (Nat.le_refl _) (hX.put H0.out hs hv) (by simp only [if_true]; exact hb) (fun k hk => by simp only [if_neg (show ¬ k = s by omega)]; exact HZK.out k hk) (fun k hk => by simp only [if_neg (show ¬ k = s by omega)]; exact HZM.out k hk)
            clear hNX HZS HZL HZG HLE3 HGT3 hgs d1 d2 d3 d4 HD2 HD HGS HI1 HL1
            have hlw : IntKind.i64.wrap ((l.length : Int) + 1) = (l.length : Int) + 1 := IntWalk.i64_in _ (by omega)
            have hv := HV3.out
            by_cases hsq : s = q
            · have hl := hl0 hsq
              subst hl
              have hvn := hv.nil
              subst hvn
              have HSQ := Lib.hid hsq
              have hne : ((s : Int) != (q : Int)) = false := by simp [hsq]
              clear hsq hl0
              rcases hbE.cases with ⟨hbz, hE2⟩ | ⟨hbz, g, c, hE2⟩
              · rw [hE2] at c5
                have hnilE := set_eqn
                have HBV : Hid (([] : List Nat) ++ [q] = if s ≠ q ∧ ([] : List Nat) = [] then bb else if bb = [] ∨ ([] : List Nat).length + 1 < bb.length then ([] : List Nat) ++ [q] else bb) := by unfold Hid; rw [if_neg (fun h => h.1 HSQ.out), if_pos (.inl hbz)]
                clear hbE hv HSTAY
                go_upto_region 11 with fail
                have HBX : Hid (BF w3 w3.drew []) := ⟨(Below.refl _ _).drew, fun _ _ _ h => by cases h⟩
                refine wp_region_Z (S := fun X => X.cell? ⟨Bb, 0, none⟩ = some (.slice (some ⟨BQ, 0, none⟩) N N)) (by kernel_rfl) ((HD3.out.below HBX.out.fr).cells.1) (fun hS => ?_)
                generalize w3.drew = X at *
                refine tk [0, 1, 2, 4] ?_
                repeat (refine tkZ (oi := ⟨_, _, _, _, _, _⟩) (v := ?_) rfl (by kernel_rfl) (by rfl) (fun _ _ _ h => h) hS ?_ ?_; rotate_left; (· intro W' hSw; (try dsimp only at hSw); go_simp; try with_reducible rfl); try simp only [Act.put, putA, putZ, putS])
                refine tk0 ?_
                refine wpAnyZ_next (rs := [3, 5]) (by kernel_rfl) (by simp) ?_
                refine NextZ.cons (o := ⟨some 76, _, _, _, _, _⟩) rfl (fun K hK => ?_) ?_
                ·
                 go_simp
                 refine (clone_any (.slice none 0 0) (([] : List Nat)) (by (try simp only [List.length_nil]); omega) X (HV3.out.fr (Fr.below HBX.out.fr (fun _ => False)) (fun _ _ _ h => h))).mono ?_
                 rintro _ X0 ⟨v0, rfl, how, hb0⟩
                 (try go_wp2_with fail)
                 have HO0 : Hid (X0.ownsRow w3.heap.size 124 1 v0 0 (nL (([] : List Nat)))) := own_mono how HBX.out.fr.size
                 have HA0 := Lib.hid (HBX.out.below hb0)
                 refine hK.out _ _ ((HD3.out.below HA0.out.fr).cells.1) (fun hS => ?_)
                 clear hK K
                 try simp only [Act.put, putA, putZ, putS]
                 clear hb0 how
                 refine wpAnyZ_next (rs := [5]) (by kernel_rfl) (by simp) ?_
                 refine NextZ.cons (o := ⟨some 78, _, _, _, _, _⟩) rfl (fun K hK => ?_) NextZ.nil
                 go_simp
                 have HA1 := Lib.hid (HA0.out.alloc #[.int .i64 (q : Int)] 124)
                 have HO1 := Lib.hid (own_below HO0.out (below_alloc X0 (.cells #[.int .i64 (q : Int)] 124)))
                 refine hK.out _ _ ((HD3.out.below HA1.out.fr).cells.1) (fun hS => ?_)
                 clear hK K
                 try simp only [Act.put, putA, putZ, putS]
                 generalize X0.heap.size = J at *
                 generalize (X0.alloc (.cells #[.int .i64 (q : Int)] 124)) = X1 at *
                 refine wpAnyZ_next (rs := [6]) (by kernel_rfl) (by simp) ?_
                 refine NextZ.cons (o := ⟨some 79, _, _, _, _, _⟩) rfl (fun K hK => ?_) NextZ.nil
                 refine step_append_src X1 (by rfl) (.tmp 76) (.tmp 78) 136 (by rfl) w3.heap.size 124 i0 (.int .i64 0) 1 8 Try.underlying136 hi0 hz0 hz1 hz2 rfl (by decide) v0 0 (nL (([] : List Nat))) (by rfl) HO1.out (some ⟨J, 0, none⟩) 1 1 [.int .i64 (q : Int)] (by rfl) ⟨rfl, fun j u hu => ⟨_, rfl, World.news_of_block (HA1.out.bk _ _ _ (.head _)).2 j u hu⟩⟩ (by simp [Value.oneCell']) (by unfold maxLen; (try simp only [List.length_nil]); omega) (by (try simp only [List.length_nil]); omega) HA1.out.fr.size ?_
                 intro v2 X2 hown hgr hl2
                 have HB2 : Hid (BF w3 X2 []) := ⟨grown_below HA1.out.fr HO1.out hgr, fun _ _ _ h => by cases h⟩
                 have HO2 := Lib.hid hown
                 obtain ⟨pa, pc, rfl⟩ := own_slice' hown
                 clear hown hgr hl2
                 refine hK.out _ _ ((HD3.out.below HB2.out.fr).cells.1) (fun hS => ?_)
                 clear hK K
                 try simp only [Act.put, putA, putZ, putS]
                 refine tZ 7 (oi := ⟨_, _, _, _, _, _⟩) (v := ?_) rfl (by kernel_rfl) (by rfl) (fun _ _ _ h => h) hS ?_ ?_
                 rotate_left
                 · intro W' hSw; (try dsimp only at hSw); go_simp; try with_reducible rfl
                 try simp only [Act.put, putA, putZ, putS]
                 refine wpAnyZ_next (rs := [8]) (by kernel_rfl) (by simp) ?_
                 refine NextZ.last (o := ⟨none, _, _, _, _, _⟩) rfl (by kernel_rfl) (fun K hK => ?_)
                 have HDN := Lib.hid (HD3.out.below HB2.out.fr)
                 have e0 := HDN.out.cell hs
                 have f0 := HDN.out.thaw s
                 rw [hE2] at e0
                 have HHN : Hid (Hold X2 (.slice pa (0 + 1) pc) ((([] : List Nat)) ++ [q])) := .inr ⟨by simp, own_mono (own_cast HO2.out (by simp) (by simp [nL])) (Nat.zero_le _)⟩
                 go_simp
                 refine hK.out _ _ ?_
                 clear hK K
                 (try simp only [Act.put])
                 clear e0 f0
                 refine wpAnyZ_done (by kernel_rfl) ?_ _
                 go_wp2_with fail
                 go_roundw
                 case rel => exact HPUT.out _ _ HDN.out HHN.out HBV.out
                 case measure => simp [intOf]; omega
                refine NextZ.cons (o := ⟨some 78, _, _, _, _, _⟩) rfl (fun K hK => ?_) NextZ.nil
                go_simp
                have HA4 := Lib.hid (HBX.out.alloc #[.int .i64 (q : Int)] 124)
                refine hK.out _ _ ((HD3.out.below HA4.out.fr).cells.1) (fun hS => ?_)
                clear hK K
                try simp only [Act.put, putA, putZ, putS]
                generalize X.heap.size = J at *
                generalize (X.alloc (.cells #[.int .i64 (q : Int)] 124)) = X4 at *
                refine wpAnyZ_next (rs := [3]) (by kernel_rfl) (by simp) ?_
                refine NextZ.cons (o := ⟨some 76, _, _, _, _, _⟩) rfl (fun K hK => ?_) NextZ.nil
                go_simp
                refine (clone_any (.slice none 0 0) (([] : List Nat)) (by (try simp only [List.length_nil]); omega) X4 (HV3.out.fr (Fr.below HA4.out.fr (fun _ => False)) (fun _ _ _ h => h))).mono ?_
                rintro _ X5 ⟨v5, rfl, how, hb5⟩
                (try go_wp2_with fail)
                have HO5 : Hid (X5.ownsRow w3.heap.size 124 1 v5 0 (nL (([] : List Nat)))) := own_mono how HA4.out.fr.size
                have HA5 := Lib.hid (HA4.out.below hb5)
                refine hK.out _ _ ((HD3.out.below HA5.out.fr).cells.1) (fun hS => ?_)
                clear hK K
                try simp only [Act.put, putA, putZ, putS]
                clear hb5 how
                refine wpAnyZ_next (rs := [6]) (by kernel_rfl) (by simp) ?_
                refine NextZ.cons (o := ⟨some 79, _, _, _, _, _⟩) rfl (fun K hK => ?_) NextZ.nil
                refine step_append_src X5 (by rfl) (.tmp 76) (.tmp 78) 136 (by rfl) w3.heap.size 124 i0 (.int .i64 0) 1 8 Try.underlying136 hi0 hz0 hz1 hz2 rfl (by decide) v5 0 (nL (([] : List Nat))) (by rfl) HO5.out (some ⟨J, 0, none⟩) 1 1 [.int .i64 (q : Int)] (by rfl) ⟨rfl, fun j u hu => ⟨_, rfl, World.news_of_block (HA5.out.bk _ _ _ (.head _)).2 j u hu⟩⟩ (by simp [Value.oneCell']) (by unfold maxLen; (try simp only [List.length_nil]); omega) (by (try simp only [List.length_nil]); omega) HA5.out.fr.size ?_
                intro v6 X6 hown hgr hl6
                have HB6 : Hid (BF w3 X6 []) := ⟨grown_below HA5.out.fr HO5.out hgr, fun _ _ _ h => by cases h⟩
                have HO6 := Lib.hid hown
                obtain ⟨pa, pc, rfl⟩ := own_slice' hown
                clear hown hgr hl6
                refine hK.out _ _ ((HD3.out.below HB6.out.fr).cells.1) (fun hS => ?_)
                clear hK K
                try simp only [Act.put, putA, putZ, putS]
                refine tZ 7 (oi := ⟨_, _, _, _, _, _⟩) (v := ?_) rfl (by kernel_rfl) (by rfl) (fun _ _ _ h => h) hS ?_ ?_
                rotate_left
                · intro W' hSw; (try dsimp only at hSw); go_simp; try with_reducible rfl
                try simp only [Act.put, putA, putZ, putS]
                refine wpAnyZ_next (rs := [8]) (by kernel_rfl) (by simp) ?_
                refine NextZ.last (o := ⟨none, _, _, _, _, _⟩) rfl (by kernel_rfl) (fun K hK => ?_)
                have HDN := Lib.hid (HD3.out.below HB6.out.fr)
                have e0 := HDN.out.cell hs
                have f0 := HDN.out.thaw s
                rw [hE2] at e0
                have HHN : Hid (Hold X6 (.slice pa (0 + 1) pc) ((([] : List Nat)) ++ [q])) := .inr ⟨by simp, own_mono (own_cast HO6.out (by simp) (by simp [nL])) (Nat.zero_le _)⟩
                go_simp
                refine hK.out _ _ ?_
                clear hK K
                (try simp only [Act.put])
                clear e0 f0
                refine wpAnyZ_done (by kernel_rfl) ?_ _
                go_wp2_with fail
                go_roundw
                case rel => exact HPUT.out _ _ HDN.out HHN.out HBV.out
                case measure => simp [intOf]; omega
              · rw [hE2] at c5
                have hnilE := fun W => set_eqs W g bb.length c
                by_cases hlt : 1 < bb.length
                · have hlt2 : (1 : Int) < (bb.length : Int) := by omega
                  have HBV : Hid (([] : List Nat) ++ [q] = if s ≠ q ∧ ([] : List Nat) = [] then bb else if bb = [] ∨ ([] : List Nat).length + 1 < bb.length then ([] : List Nat) ++ [q] else bb) := by unfold Hid; rw [if_neg (fun h => h.1 HSQ.out), if_pos (.inr (by simpa using hlt))]
                  clear hbE hv HSTAY
                  go_upto_region 11 with fail
                  have HBX : Hid (BF w3 w3.drew []) := ⟨(Below.refl _ _).drew, fun _ _ _ h => by cases h⟩
                  refine wp_region_Z (S := fun X => X.cell? ⟨Bb, 0, none⟩ = some (.slice (some ⟨BQ, 0, none⟩) N N)) (by kernel_rfl) ((HD3.out.below HBX.out.fr).cells.1) (fun hS => ?_)
                  generalize w3.drew = X at *
                  refine tk [0, 1, 2, 4] ?_
                  repeat (refine tkZ (oi := ⟨_, _, _, _, _, _⟩) (v := ?_) rfl (by kernel_rfl) (by rfl) (fun _ _ _ h => h) hS ?_ ?_; rotate_left; (· intro W' hSw; (try dsimp only at hSw); go_simp; try with_reducible rfl); try simp only [Act.put, putA, putZ, putS])
                  refine tk0 ?_
                  refine wpAnyZ_next (rs := [3, 5]) (by kernel_rfl) (by simp) ?_
                  refine NextZ.cons (o := ⟨some 76, _, _, _, _, _⟩) rfl (fun K hK => ?_) ?_
                  ·
                   go_simp
                   refine (clone_any (.slice none 0 0) (([] : List Nat)) (by (try simp only [List.length_nil]); omega) X (HV3.out.fr (Fr.below HBX.out.fr (fun _ => False)) (fun _ _ _ h => h))).mono ?_
                   rintro _ X0 ⟨v0, rfl, how, hb0⟩
                   (try go_wp2_with fail)
                   have HO0 : Hid (X0.ownsRow w3.heap.size 124 1 v0 0 (nL (([] : List Nat)))) := own_mono how HBX.out.fr.size
                   have HA0 := Lib.hid (HBX.out.below hb0)
                   refine hK.out _ _ ((HD3.out.below HA0.out.fr).cells.1) (fun hS => ?_)
                   clear hK K
                   try simp only [Act.put, putA, putZ, putS]
                   clear hb0 how
                   refine wpAnyZ_next (rs := [5]) (by kernel_rfl) (by simp) ?_
                   refine NextZ.cons (o := ⟨some 78, _, _, _, _, _⟩) rfl (fun K hK => ?_) NextZ.nil
                   go_simp
                   have HA1 := Lib.hid (HA0.out.alloc #[.int .i64 (q : Int)] 124)
                   have HO1 := Lib.hid (own_below HO0.out (below_alloc X0 (.cells #[.int .i64 (q : Int)] 124)))
                   refine hK.out _ _ ((HD3.out.below HA1.out.fr).cells.1) (fun hS => ?_)
                   clear hK K
                   try simp only [Act.put, putA, putZ, putS]
                   generalize X0.heap.size = J at *
                   generalize (X0.alloc (.cells #[.int .i64 (q : Int)] 124)) = X1 at *
                   refine wpAnyZ_next (rs := [6]) (by kernel_rfl) (by simp) ?_
                   refine NextZ.cons (o := ⟨some 79, _, _, _, _, _⟩) rfl (fun K hK => ?_) NextZ.nil
                   refine step_append_src X1 (by rfl) (.tmp 76) (.tmp 78) 136 (by rfl) w3.heap.size 124 i0 (.int .i64 0) 1 8 Try.underlying136 hi0 hz0 hz1 hz2 rfl (by decide) v0 0 (nL (([] : List Nat))) (by rfl) HO1.out (some ⟨J, 0, none⟩) 1 1 [.int .i64 (q : Int)] (by rfl) ⟨rfl, fun j u hu => ⟨_, rfl, World.news_of_block (HA1.out.bk _ _ _ (.head _)).2 j u hu⟩⟩ (by simp [Value.oneCell']) (by unfold maxLen; (try simp only [List.length_nil]); omega) (by (try simp only [List.length_nil]); omega) HA1.out.fr.size ?_
                   intro v2 X2 hown hgr hl2
                   have HB2 : Hid (BF w3 X2 []) := ⟨grown_below HA1.out.fr HO1.out hgr, fun _ _ _ h => by cases h⟩
                   have HO2 := Lib.hid hown
                   obtain ⟨pa, pc, rfl⟩ := own_slice' hown
                   clear hown hgr hl2
                   refine hK.out _ _ ((HD3.out.below HB2.out.fr).cells.1) (fun hS => ?_)
                   clear hK K
                   try simp only [Act.put, putA, putZ, putS]
                   refine tZ 7 (oi := ⟨_, _, _, _, _, _⟩) (v := ?_) rfl (by kernel_rfl) (by rfl) (fun _ _ _ h => h) hS ?_ ?_
                   rotate_left
                   · intro W' hSw; (try dsimp only at hSw); go_simp; try with_reducible rfl
                   try simp only [Act.put, putA, putZ, putS]
                   refine wpAnyZ_next (rs := [8]) (by kernel_rfl) (by simp) ?_
                   refine NextZ.last (o := ⟨none, _, _, _, _, _⟩) rfl (by kernel_rfl) (fun K hK => ?_)
                   have HDN := Lib.hid (HD3.out.below HB2.out.fr)
                   have e0 := HDN.out.cell hs
                   have f0 := HDN.out.thaw s
                   rw [hE2] at e0
                   have HHN : Hid (Hold X2 (.slice pa (0 + 1) pc) ((([] : List Nat)) ++ [q])) := .inr ⟨by simp, own_mono (own_cast HO2.out (by simp) (by simp [nL])) (Nat.zero_le _)⟩
                   go_simp
                   refine hK.out _ _ ?_
                   clear hK K
                   (try simp only [Act.put])
                   clear e0 f0
                   refine wpAnyZ_done (by kernel_rfl) ?_ _
                   go_wp2_with fail
                   go_roundw
                   case rel => exact HPUT.out _ _ HDN.out HHN.out HBV.out
                   case measure => simp [intOf]; omega
                  refine NextZ.cons (o := ⟨some 78, _, _, _, _, _⟩) rfl (fun K hK => ?_) NextZ.nil
                  go_simp
                  have HA4 := Lib.hid (HBX.out.alloc #[.int .i64 (q : Int)] 124)
                  refine hK.out _ _ ((HD3.out.below HA4.out.fr).cells.1) (fun hS => ?_)
                  clear hK K
                  try simp only [Act.put, putA, putZ, putS]
                  generalize X.heap.size = J at *
                  generalize (X.alloc (.cells #[.int .i64 (q : Int)] 124)) = X4 at *
                  refine wpAnyZ_next (rs := [3]) (by kernel_rfl) (by simp) ?_
                  refine NextZ.cons (o := ⟨some 76, _, _, _, _, _⟩) rfl (fun K hK => ?_) NextZ.nil
                  go_simp
                  refine (clone_any (.slice none 0 0) (([] : List Nat)) (by (try simp only [List.length_nil]); omega) X4 (HV3.out.fr (Fr.below HA4.out.fr (fun _ => False)) (fun _ _ _ h => h))).mono ?_
                  rintro _ X5 ⟨v5, rfl, how, hb5⟩
                  (try go_wp2_with fail)
                  have HO5 : Hid (X5.ownsRow w3.heap.size 124 1 v5 0 (nL (([] : List Nat)))) := own_mono how HA4.out.fr.size
                  have HA5 := Lib.hid (HA4.out.below hb5)
                  refine hK.out _ _ ((HD3.out.below HA5.out.fr).cells.1) (fun hS => ?_)
                  clear hK K
                  try simp only [Act.put, putA, putZ, putS]
                  clear hb5 how
                  refine wpAnyZ_next (rs := [6]) (by kernel_rfl) (by simp) ?_
                  refine NextZ.cons (o := ⟨some 79, _, _, _, _, _⟩) rfl (fun K hK => ?_) NextZ.nil
                  refine step_append_src X5 (by rfl) (.tmp 76) (.tmp 78) 136 (by rfl) w3.heap.size 124 i0 (.int .i64 0) 1 8 Try.underlying136 hi0 hz0 hz1 hz2 rfl (by decide) v5 0 (nL (([] : List Nat))) (by rfl) HO5.out (some ⟨J, 0, none⟩) 1 1 [.int .i64 (q : Int)] (by rfl) ⟨rfl, fun j u hu => ⟨_, rfl, World.news_of_block (HA5.out.bk _ _ _ (.head _)).2 j u hu⟩⟩ (by simp [Value.oneCell']) (by unfold maxLen; (try simp only [List.length_nil]); omega) (by (try simp only [List.length_nil]); omega) HA5.out.fr.size ?_
                  intro v6 X6 hown hgr hl6
                  have HB6 : Hid (BF w3 X6 []) := ⟨grown_below HA5.out.fr HO5.out hgr, fun _ _ _ h => by cases h⟩
                  have HO6 := Lib.hid hown
                  obtain ⟨pa, pc, rfl⟩ := own_slice' hown
                  clear hown hgr hl6
                  refine hK.out _ _ ((HD3.out.below HB6.out.fr).cells.1) (fun hS => ?_)
                  clear hK K
                  try simp only [Act.put, putA, putZ, putS]
                  refine tZ 7 (oi := ⟨_, _, _, _, _, _⟩) (v := ?_) rfl (by kernel_rfl) (by rfl) (fun _ _ _ h => h) hS ?_ ?_
                  rotate_left
                  · intro W' hSw; (try dsimp only at hSw); go_simp; try with_reducible rfl
                  try simp only [Act.put, putA, putZ, putS]
                  refine wpAnyZ_next (rs := [8]) (by kernel_rfl) (by simp) ?_
                  refine NextZ.last (o := ⟨none, _, _, _, _, _⟩) rfl (by kernel_rfl) (fun K hK => ?_)
                  have HDN := Lib.hid (HD3.out.below HB6.out.fr)
                  have e0 := HDN.out.cell hs
                  have f0 := HDN.out.thaw s
                  rw [hE2] at e0
                  have HHN : Hid (Hold X6 (.slice pa (0 + 1) pc) ((([] : List Nat)) ++ [q])) := .inr ⟨by simp, own_mono (own_cast HO6.out (by simp) (by simp [nL])) (Nat.zero_le _)⟩
                  go_simp
                  refine hK.out _ _ ?_
                  clear hK K
                  (try simp only [Act.put])
                  clear e0 f0
                  refine wpAnyZ_done (by kernel_rfl) ?_ _
                  go_wp2_with fail
                  go_roundw
                  case rel => exact HPUT.out _ _ HDN.out HHN.out HBV.out
                  case measure => simp [intOf]; omega
                · have hlt2 : ¬ ((1 : Int) < (bb.length : Int)) := by omega
                  have HBV : Hid (bb = if s ≠ q ∧ ([] : List Nat) = [] then bb else if bb = [] ∨ ([] : List Nat).length + 1 < bb.length then ([] : List Nat) ++ [q] else bb) := by unfold Hid; rw [if_neg (fun h => h.1 HSQ.out), if_neg (fun h => by rcases h with h | h; exact hbz h; exact hlt (by simpa using h))]
                  clear hbE hv HPUT
                  go_wp2_with fail
                  go_roundw
                  case rel => exact HSTAY.out _ HD3.out HBV.out
                  case measure => simp [intOf]; omega
            · have hne : ((s : Int) != (q : Int)) = true := by simp; omega
              clear hl0
              rcases hv.cases with ⟨hl, hvn⟩ | ⟨hl, vg, vc, hvn⟩
              · subst hl hvn
                have hnil := set_eqn
                have HBV : Hid (bb = if s ≠ q ∧ ([] : List Nat) = [] then bb else if bb = [] ∨ ([] : List Nat).length + 1 < bb.length then ([] : List Nat) ++ [q] else bb) := by unfold Hid; rw [if_pos ⟨hsq, rfl⟩]
                clear hbE hv HPUT
                go_wp2_with fail
                go_roundw
                case rel => exact HSTAY.out _ HD3.out HBV.out
                case measure => simp [intOf]; omega
              · subst hvn
                have hnil := fun W => set_eqs W vg l.length vc
                have HLN : Hid (l.length ≠ 0) := fun e => hl (List.eq_nil_of_length_eq_zero e)
                rcases hbE.cases with ⟨hbz, hE2⟩ | ⟨hbz, g, c, hE2⟩
                · rw [hE2] at c5
                  have hnilE := set_eqn
                  have HBV : Hid (l ++ [q] = if s ≠ q ∧ l = [] then bb else if bb = [] ∨ l.length + 1 < bb.length then l ++ [q] else bb) := by unfold Hid; rw [if_neg (fun h => hl h.2), if_pos (.inl hbz)]
                  clear hbE hv HSTAY
                  go_upto_region 11 with fail
                  have HBX : Hid (BF w3 w3.drew []) := ⟨(Below.refl _ _).drew, fun _ _ _ h => by cases h⟩
                  refine wp_region_Z (S := fun X => X.cell? ⟨Bb, 0, none⟩ = some (.slice (some ⟨BQ, 0, none⟩) N N)) (by kernel_rfl) ((HD3.out.below HBX.out.fr).cells.1) (fun hS => ?_)
                  generalize w3.drew = X at *
                  refine tk [0, 1, 2, 4] ?_
                  repeat (refine tkZ (oi := ⟨_, _, _, _, _, _⟩) (v := ?_) rfl (by kernel_rfl) (by rfl) (fun _ _ _ h => h) hS ?_ ?_; rotate_left; (· intro W' hSw; (try dsimp only at hSw); go_simp; try with_reducible rfl); try simp only [Act.put, putA, putZ, putS])
                  refine tk0 ?_
                  refine wpAnyZ_next (rs := [3, 5]) (by kernel_rfl) (by simp) ?_
                  refine NextZ.cons (o := ⟨some 76, _, _, _, _, _⟩) rfl (fun K hK => ?_) ?_
                  ·
                   go_simp
                   refine (clone_any (.slice (some ⟨vg, 0, none⟩) l.length vc) (l) (by (try simp only [List.length_nil]); omega) X (HV3.out.fr (Fr.below HBX.out.fr (fun _ => False)) (fun _ _ _ h => h))).mono ?_
                   rintro _ X0 ⟨v0, rfl, how, hb0⟩
                   (try go_wp2_with fail)
                   have HO0 : Hid (X0.ownsRow w3.heap.size 124 1 v0 l.length (nL (l))) := own_mono how HBX.out.fr.size
                   have HA0 := Lib.hid (HBX.out.below hb0)
                   refine hK.out _ _ ((HD3.out.below HA0.out.fr).cells.1) (fun hS => ?_)
                   clear hK K
                   try simp only [Act.put, putA, putZ, putS]
                   clear hb0 how
                   refine wpAnyZ_next (rs := [5]) (by kernel_rfl) (by simp) ?_
                   refine NextZ.cons (o := ⟨some 78, _, _, _, _, _⟩) rfl (fun K hK => ?_) NextZ.nil
                   go_simp
                   have HA1 := Lib.hid (HA0.out.alloc #[.int .i64 (q : Int)] 124)
                   have HO1 := Lib.hid (own_below HO0.out (below_alloc X0 (.cells #[.int .i64 (q : Int)] 124)))
                   refine hK.out _ _ ((HD3.out.below HA1.out.fr).cells.1) (fun hS => ?_)
                   clear hK K
                   try simp only [Act.put, putA, putZ, putS]
                   generalize X0.heap.size = J at *
                   generalize (X0.alloc (.cells #[.int .i64 (q : Int)] 124)) = X1 at *
                   refine wpAnyZ_next (rs := [6]) (by kernel_rfl) (by simp) ?_
                   refine NextZ.cons (o := ⟨some 79, _, _, _, _, _⟩) rfl (fun K hK => ?_) NextZ.nil
                   refine step_append_src X1 (by rfl) (.tmp 76) (.tmp 78) 136 (by rfl) w3.heap.size 124 i0 (.int .i64 0) 1 8 Try.underlying136 hi0 hz0 hz1 hz2 rfl (by decide) v0 l.length (nL (l)) (by rfl) HO1.out (some ⟨J, 0, none⟩) 1 1 [.int .i64 (q : Int)] (by rfl) ⟨rfl, fun j u hu => ⟨_, rfl, World.news_of_block (HA1.out.bk _ _ _ (.head _)).2 j u hu⟩⟩ (by simp [Value.oneCell']) (by unfold maxLen; (try simp only [List.length_nil]); omega) (by (try simp only [List.length_nil]); omega) HA1.out.fr.size ?_
                   intro v2 X2 hown hgr hl2
                   have HB2 : Hid (BF w3 X2 []) := ⟨grown_below HA1.out.fr HO1.out hgr, fun _ _ _ h => by cases h⟩
                   have HO2 := Lib.hid hown
                   obtain ⟨pa, pc, rfl⟩ := own_slice' hown
                   clear hown hgr hl2
                   refine hK.out _ _ ((HD3.out.below HB2.out.fr).cells.1) (fun hS => ?_)
                   clear hK K
                   try simp only [Act.put, putA, putZ, putS]
                   refine tZ 7 (oi := ⟨_, _, _, _, _, _⟩) (v := ?_) rfl (by kernel_rfl) (by rfl) (fun _ _ _ h => h) hS ?_ ?_
                   rotate_left
                   · intro W' hSw; (try dsimp only at hSw); go_simp; try with_reducible rfl
                   try simp only [Act.put, putA, putZ, putS]
                   refine wpAnyZ_next (rs := [8]) (by kernel_rfl) (by simp) ?_
                   refine NextZ.last (o := ⟨none, _, _, _, _, _⟩) rfl (by kernel_rfl) (fun K hK => ?_)
                   have HDN := Lib.hid (HD3.out.below HB2.out.fr)
                   have e0 := HDN.out.cell hs
                   have f0 := HDN.out.thaw s
                   rw [hE2] at e0
                   have HHN : Hid (Hold X2 (.slice pa (l.length + 1) pc) ((l) ++ [q])) := .inr ⟨by simp, own_mono (own_cast HO2.out (by simp) (by simp [nL])) (Nat.zero_le _)⟩
                   go_simp
                   refine hK.out _ _ ?_
                   clear hK K
                   (try simp only [Act.put])
                   clear e0 f0
                   refine wpAnyZ_done (by kernel_rfl) ?_ _
                   go_wp2_with fail
                   go_roundw
                   case rel => exact HPUT.out _ _ HDN.out HHN.out HBV.out
                   case measure => simp [intOf]; omega
                  refine NextZ.cons (o := ⟨some 78, _, _, _, _, _⟩) rfl (fun K hK => ?_) NextZ.nil
                  go_simp
                  have HA4 := Lib.hid (HBX.out.alloc #[.int .i64 (q : Int)] 124)
                  refine hK.out _ _ ((HD3.out.below HA4.out.fr).cells.1) (fun hS => ?_)
                  clear hK K
                  try simp only [Act.put, putA, putZ, putS]
                  generalize X.heap.size = J at *
                  generalize (X.alloc (.cells #[.int .i64 (q : Int)] 124)) = X4 at *
                  refine wpAnyZ_next (rs := [3]) (by kernel_rfl) (by simp) ?_
                  refine NextZ.cons (o := ⟨some 76, _, _, _, _, _⟩) rfl (fun K hK => ?_) NextZ.nil
                  go_simp
                  refine (clone_any (.slice (some ⟨vg, 0, none⟩) l.length vc) (l) (by (try simp only [List.length_nil]); omega) X4 (HV3.out.fr (Fr.below HA4.out.fr (fun _ => False)) (fun _ _ _ h => h))).mono ?_
                  rintro _ X5 ⟨v5, rfl, how, hb5⟩
                  (try go_wp2_with fail)
                  have HO5 : Hid (X5.ownsRow w3.heap.size 124 1 v5 l.length (nL (l))) := own_mono how HA4.out.fr.size
                  have HA5 := Lib.hid (HA4.out.below hb5)
                  refine hK.out _ _ ((HD3.out.below HA5.out.fr).cells.1) (fun hS => ?_)
                  clear hK K
                  try simp only [Act.put, putA, putZ, putS]
                  clear hb5 how
                  refine wpAnyZ_next (rs := [6]) (by kernel_rfl) (by simp) ?_
                  refine NextZ.cons (o := ⟨some 79, _, _, _, _, _⟩) rfl (fun K hK => ?_) NextZ.nil
                  refine step_append_src X5 (by rfl) (.tmp 76) (.tmp 78) 136 (by rfl) w3.heap.size 124 i0 (.int .i64 0) 1 8 Try.underlying136 hi0 hz0 hz1 hz2 rfl (by decide) v5 l.length (nL (l)) (by rfl) HO5.out (some ⟨J, 0, none⟩) 1 1 [.int .i64 (q : Int)] (by rfl) ⟨rfl, fun j u hu => ⟨_, rfl, World.news_of_block (HA5.out.bk _ _ _ (.head _)).2 j u hu⟩⟩ (by simp [Value.oneCell']) (by unfold maxLen; (try simp only [List.length_nil]); omega) (by (try simp only [List.length_nil]); omega) HA5.out.fr.size ?_
                  intro v6 X6 hown hgr hl6
                  have HB6 : Hid (BF w3 X6 []) := ⟨grown_below HA5.out.fr HO5.out hgr, fun _ _ _ h => by cases h⟩
                  have HO6 := Lib.hid hown
                  obtain ⟨pa, pc, rfl⟩ := own_slice' hown
                  clear hown hgr hl6
                  refine hK.out _ _ ((HD3.out.below HB6.out.fr).cells.1) (fun hS => ?_)
                  clear hK K
                  try simp only [Act.put, putA, putZ, putS]
                  refine tZ 7 (oi := ⟨_, _, _, _, _, _⟩) (v := ?_) rfl (by kernel_rfl) (by rfl) (fun _ _ _ h => h) hS ?_ ?_
                  rotate_left
                  · intro W' hSw; (try dsimp only at hSw); go_simp; try with_reducible rfl
                  try simp only [Act.put, putA, putZ, putS]
                  refine wpAnyZ_next (rs := [8]) (by kernel_rfl) (by simp) ?_
                  refine NextZ.last (o := ⟨none, _, _, _, _, _⟩) rfl (by kernel_rfl) (fun K hK => ?_)
                  have HDN := Lib.hid (HD3.out.below HB6.out.fr)
                  have e0 := HDN.out.cell hs
                  have f0 := HDN.out.thaw s
                  rw [hE2] at e0
                  have HHN : Hid (Hold X6 (.slice pa (l.length + 1) pc) ((l) ++ [q])) := .inr ⟨by simp, own_mono (own_cast HO6.out (by simp) (by simp [nL])) (Nat.zero_le _)⟩
                  go_simp
                  refine hK.out _ _ ?_
                  clear hK K
                  (try simp only [Act.put])
                  clear e0 f0
                  refine wpAnyZ_done (by kernel_rfl) ?_ _
                  go_wp2_with fail
                  go_roundw
                  case rel => exact HPUT.out _ _ HDN.out HHN.out HBV.out
                  case measure => simp [intOf]; omega
                · rw [hE2] at c5
                  have hnilE := fun W => set_eqs W g bb.length c
                  by_cases hlt : l.length + 1 < bb.length
                  · have hlt2 : (l.length : Int) + 1 < (bb.length : Int) := by omega
                    have HBV : Hid (l ++ [q] = if s ≠ q ∧ l = [] then bb else if bb = [] ∨ l.length + 1 < bb.length then l ++ [q] else bb) := by unfold Hid; rw [if_neg (fun h => hl h.2), if_pos (.inr hlt)]
                    clear hbE hv HSTAY
                    go_upto_region 11 with fail
                    have HBX : Hid (BF w3 w3.drew []) := ⟨(Below.refl _ _).drew, fun _ _ _ h => by cases h⟩
                    refine wp_region_Z (S := fun X => X.cell? ⟨Bb, 0, none⟩ = some (.slice (some ⟨BQ, 0, none⟩) N N)) (by kernel_rfl) ((HD3.out.below HBX.out.fr).cells.1) (fun hS => ?_)
                    generalize w3.drew = X at *
                    refine tk [0, 1, 2, 4] ?_
                    repeat (refine tkZ (oi := ⟨_, _, _, _, _, _⟩) (v := ?_) rfl (by kernel_rfl) (by rfl) (fun _ _ _ h => h) hS ?_ ?_; rotate_left; (· intro W' hSw; (try dsimp only at hSw); go_simp; try with_reducible rfl); try simp only [Act.put, putA, putZ, putS])
                    refine tk0 ?_
                    refine wpAnyZ_next (rs := [3, 5]) (by kernel_rfl) (by simp) ?_
                    refine NextZ.cons (o := ⟨some 76, _, _, _, _, _⟩) rfl (fun K hK => ?_) ?_
                    ·
                     go_simp
                     refine (clone_any (.slice (some ⟨vg, 0, none⟩) l.length vc) (l) (by (try simp only [List.length_nil]); omega) X (HV3.out.fr (Fr.below HBX.out.fr (fun _ => False)) (fun _ _ _ h => h))).mono ?_
                     rintro _ X0 ⟨v0, rfl, how, hb0⟩
                     (try go_wp2_with fail)
                     have HO0 : Hid (X0.ownsRow w3.heap.size 124 1 v0 l.length (nL (l))) := own_mono how HBX.out.fr.size
                     have HA0 := Lib.hid (HBX.out.below hb0)
                     refine hK.out _ _ ((HD3.out.below HA0.out.fr).cells.1) (fun hS => ?_)
                     clear hK K
                     try simp only [Act.put, putA, putZ, putS]
                     clear hb0 how
                     refine wpAnyZ_next (rs := [5]) (by kernel_rfl) (by simp) ?_
                     refine NextZ.cons (o := ⟨some 78, _, _, _, _, _⟩) rfl (fun K hK => ?_) NextZ.nil
                     go_simp
                     have HA1 := Lib.hid (HA0.out.alloc #[.int .i64 (q : Int)] 124)
                     have HO1 := Lib.hid (own_below HO0.out (below_alloc X0 (.cells #[.int .i64 (q : Int)] 124)))
                     refine hK.out _ _ ((HD3.out.below HA1.out.fr).cells.1) (fun hS => ?_)
                     clear hK K
                     try simp only [Act.put, putA, putZ, putS]
                     generalize X0.heap.size = J at *
                     generalize (X0.alloc (.cells #[.int .i64 (q : Int)] 124)) = X1 at *
                     refine wpAnyZ_next (rs := [6]) (by kernel_rfl) (by simp) ?_
                     refine NextZ.cons (o := ⟨some 79, _, _, _, _, _⟩) rfl (fun K hK => ?_) NextZ.nil
                     refine step_append_src X1 (by rfl) (.tmp 76) (.tmp 78) 136 (by rfl) w3.heap.size 124 i0 (.int .i64 0) 1 8 Try.underlying136 hi0 hz0 hz1 hz2 rfl (by decide) v0 l.length (nL (l)) (by rfl) HO1.out (some ⟨J, 0, none⟩) 1 1 [.int .i64 (q : Int)] (by rfl) ⟨rfl, fun j u hu => ⟨_, rfl, World.news_of_block (HA1.out.bk _ _ _ (.head _)).2 j u hu⟩⟩ (by simp [Value.oneCell']) (by unfold maxLen; (try simp only [List.length_nil]); omega) (by (try simp only [List.length_nil]); omega) HA1.out.fr.size ?_
                     intro v2 X2 hown hgr hl2
                     have HB2 : Hid (BF w3 X2 []) := ⟨grown_below HA1.out.fr HO1.out hgr, fun _ _ _ h => by cases h⟩
                     have HO2 := Lib.hid hown
                     obtain ⟨pa, pc, rfl⟩ := own_slice' hown
                     clear hown hgr hl2
                     refine hK.out _ _ ((HD3.out.below HB2.out.fr).cells.1) (fun hS => ?_)
                     clear hK K
                     try simp only [Act.put, putA, putZ, putS]
                     refine tZ 7 (oi := ⟨_, _, _, _, _, _⟩) (v := ?_) rfl (by kernel_rfl) (by rfl) (fun _ _ _ h => h) hS ?_ ?_
                     rotate_left
                     · intro W' hSw; (try dsimp only at hSw); go_simp; try with_reducible rfl
                     try simp only [Act.put, putA, putZ, putS]
                     refine wpAnyZ_next (rs := [8]) (by kernel_rfl) (by simp) ?_
                     refine NextZ.last (o := ⟨none, _, _, _, _, _⟩) rfl (by kernel_rfl) (fun K hK => ?_)
                     have HDN := Lib.hid (HD3.out.below HB2.out.fr)
                     have e0 := HDN.out.cell hs
                     have f0 := HDN.out.thaw s
                     rw [hE2] at e0
                     have HHN : Hid (Hold X2 (.slice pa (l.length + 1) pc) ((l) ++ [q])) := .inr ⟨by simp, own_mono (own_cast HO2.out (by simp) (by simp [nL])) (Nat.zero_le _)⟩
                     go_simp
                     refine hK.out _ _ ?_
                     clear hK K
                     (try simp only [Act.put])
                     clear e0 f0
                     refine wpAnyZ_done (by kernel_rfl) ?_ _
                     go_wp2_with fail
                     go_roundw
                     case rel => exact HPUT.out _ _ HDN.out HHN.out HBV.out
                     case measure => simp [intOf]; omega
                    refine NextZ.cons (o := ⟨some 78, _, _, _, _, _⟩) rfl (fun K hK => ?_) NextZ.nil
                    go_simp
                    have HA4 := Lib.hid (HBX.out.alloc #[.int .i64 (q : Int)] 124)
                    refine hK.out _ _ ((HD3.out.below HA4.out.fr).cells.1) (fun hS => ?_)
                    clear hK K
                    try simp only [Act.put, putA, putZ, putS]
                    generalize X.heap.size = J at *
                    generalize (X.alloc (.cells #[.int .i64 (q : Int)] 124)) = X4 at *
                    refine wpAnyZ_next (rs := [3]) (by kernel_rfl) (by simp) ?_
                    refine NextZ.cons (o := ⟨some 76, _, _, _, _, _⟩) rfl (fun K hK => ?_) NextZ.nil
                    go_simp
                    refine (clone_any (.slice (some ⟨vg, 0, none⟩) l.length vc) (l) (by (try simp only [List.length_nil]); omega) X4 (HV3.out.fr (Fr.below HA4.out.fr (fun _ => False)) (fun _ _ _ h => h))).mono ?_
                    rintro _ X5 ⟨v5, rfl, how, hb5⟩
                    (try go_wp2_with fail)
                    have HO5 : Hid (X5.ownsRow w3.heap.size 124 1 v5 l.length (nL (l))) := own_mono how HA4.out.fr.size
                    have HA5 := Lib.hid (HA4.out.below hb5)
                    refine hK.out _ _ ((HD3.out.below HA5.out.fr).cells.1) (fun hS => ?_)
                    clear hK K
                    try simp only [Act.put, putA, putZ, putS]
                    clear hb5 how
                    refine wpAnyZ_next (rs := [6]) (by kernel_rfl) (by simp) ?_
                    refine NextZ.cons (o := ⟨some 79, _, _, _, _, _⟩) rfl (fun K hK => ?_) NextZ.nil
                    refine step_append_src X5 (by rfl) (.tmp 76) (.tmp 78) 136 (by rfl) w3.heap.size 124 i0 (.int .i64 0) 1 8 Try.underlying136 hi0 hz0 hz1 hz2 rfl (by decide) v5 l.length (nL (l)) (by rfl) HO5.out (some ⟨J, 0, none⟩) 1 1 [.int .i64 (q : Int)] (by rfl) ⟨rfl, fun j u hu => ⟨_, rfl, World.news_of_block (HA5.out.bk _ _ _ (.head _)).2 j u hu⟩⟩ (by simp [Value.oneCell']) (by unfold maxLen; (try simp only [List.length_nil]); omega) (by (try simp only [List.length_nil]); omega) HA5.out.fr.size ?_
                    intro v6 X6 hown hgr hl6
                    have HB6 : Hid (BF w3 X6 []) := ⟨grown_below HA5.out.fr HO5.out hgr, fun _ _ _ h => by cases h⟩
                    have HO6 := Lib.hid hown
                    obtain ⟨pa, pc, rfl⟩ := own_slice' hown
                    clear hown hgr hl6
                    refine hK.out _ _ ((HD3.out.below HB6.out.fr).cells.1) (fun hS => ?_)
                    clear hK K
                    try simp only [Act.put, putA, putZ, putS]
                    refine tZ 7 (oi := ⟨_, _, _, _, _, _⟩) (v := ?_) rfl (by kernel_rfl) (by rfl) (fun _ _ _ h => h) hS ?_ ?_
                    rotate_left
                    · intro W' hSw; (try dsimp only at hSw); go_simp; try with_reducible rfl
                    try simp only [Act.put, putA, putZ, putS]
                    refine wpAnyZ_next (rs := [8]) (by kernel_rfl) (by simp) ?_
                    refine NextZ.last (o := ⟨none, _, _, _, _, _⟩) rfl (by kernel_rfl) (fun K hK => ?_)
                    have HDN := Lib.hid (HD3.out.below HB6.out.fr)
                    have e0 := HDN.out.cell hs
                    have f0 := HDN.out.thaw s
                    rw [hE2] at e0
                    have HHN : Hid (Hold X6 (.slice pa (l.length + 1) pc) ((l) ++ [q])) := .inr ⟨by simp, own_mono (own_cast HO6.out (by simp) (by simp [nL])) (Nat.zero_le _)⟩
                    go_simp
                    refine hK.out _ _ ?_
                    clear hK K
                    (try simp only [Act.put])
                    clear e0 f0
                    refine wpAnyZ_done (by kernel_rfl) ?_ _
                    go_wp2_with fail
                    go_roundw
                    case rel => exact HPUT.out _ _ HDN.out HHN.out HBV.out
                    case measure => simp [intOf]; omega
                  · have hlt2 : ¬ ((l.length : Int) + 1 < (bb.length : Int)) := by omega
                    have HBV : Hid (bb = if s ≠ q ∧ l = [] then bb else if bb = [] ∨ l.length + 1 < bb.length then l ++ [q] else bb) := by unfold Hid; rw [if_neg (fun h => hl h.2), if_neg (fun h => by rcases h with h | h; exact hbz h; exact hlt h)]
                    clear hbE hv HPUT
                    go_wp2_with fail
                    go_roundw
                    case rel => exact HSTAY.out _ HD3.out HBV.out
                    case measure => simp [intOf]; omega
  · have hzz : Z s = dv (okL m lim) s := by rcases HZ.out s (Nat.le_refl _) with h | h; exact absurd h hz; exact h
    rw [hzz] at hE
    have HR : Hid (Dv w W A bm (n + cD (p + 1)) x m Bb Ba Bl Bs BQ N lim Z E) := HD.out.mono (by omega)
    have hho := HD.out.ho s hs
    rw [hzz, hE] at hho
    have HHO := Lib.hid hho
    rw [hE] at c5
    unfold GivesV
    have hneq := fun W => set_neq W (some ⟨g, 0, none⟩) (dv (okL m lim) s).length c
    clear hE hho HD
    go_enter Try.func102, Try.ntmps102
    go_wp2_with fail
    go_ret
    exact ⟨_, Z, E, rfl, HR.out, HHO.out, HZ.out, fun _ _ => rfl⟩
theorem dv_ind {m : Mp} (ok : OkM m) (x : MV) (A bm Bb Ba Bl Bs BQ n0 N : Nat) (lim : Int) (w : World) (h0 : At w A bm n0 x m) (hNN : N = 2 ^ m.nw) : ∀ p s, (plc s).length ≤ p → s < N → ∀ n, n + cD p ≤ 950000000000000000 → ∀ Z E W, Dv w W A bm n x m Bb Ba Bl Bs BQ N lim Z E → (∀ k, k ≤ s → Z k = [] ∨ Z k = dv (okL m lim) k) →
      Calls Try.prog 102 #[.int .i64 (s : Int), .pointer (some ⟨Bb, 0, none⟩), .pointer (some ⟨Ba, 0, none⟩), .pointer (some ⟨Bl, 0, none⟩), .pointer (some ⟨Bs, 0, none⟩)] W (GivesV w A bm (n + cD p) x m Bb Ba Bl Bs BQ N lim Z s)
  | p, s, hp, hs, n, hn, Z, E, W, h, hZ => by
    have hN8 : N ≤ 256 := by rw [hNN]; exact Nat.pow_le_pow_right (by decide) ok.nw.2
    have key : ∀ {q : Nat}, q ≤ p → ∀ {e W'}, GivesV w A bm (n + cD q) x m Bb Ba Bl Bs BQ N lim Z s e W' → GivesV w A bm (n + cD p) x m Bb Ba Bl Bs BQ N lim Z s e W' := fun {_} hq {_ _} hg => by
      obtain ⟨v, Z', E', h1, h2, h3⟩ := hg
      exact ⟨v, Z', E', h1, h2.mono (Nat.add_le_add_left (cD_mono hq) _), h3⟩
    obtain ⟨q, hq⟩ : ∃ q, (plc s).length = q := ⟨_, rfl⟩
    cases q with
    | zero =>
      have e0 := plc_zero ⟨s, by omega⟩ hq
      simp only at e0
      subst e0
      exact (dv_none x m A bm Bb Ba Bl Bs BQ N n lim Z E (by omega) w W h (hZ 0 (Nat.le_refl _))).mono fun e W' hg => key (Nat.zero_le p) hg
    | succ q =>
      have hqp : cD (q + 1) ≤ cD p := cD_mono (by omega)
      refine (dv_step ok x A bm Bb Ba Bl Bs BQ n0 q N lim w h0 hNN (fun s' hp' hs' n' hn' Z E W hD hZ' => ?_) s hq hs n (by omega) Z E W h hZ).mono fun e W' hg => key (by omega) hg
      exact dv_ind ok x A bm Bb Ba Bl Bs BQ n0 N lim w h0 hNN q s' hp' hs' n' hn' Z E W hD hZ'
termination_by p => p
theorem split_any {m : Mp} (ok : OkM m) (x : MV) (A bm Bb Ba Bl Bs BQ n0 n s N : Nat) (lim : Int) (w : World) (h0 : At w A bm n0 x m) (hNN : N = 2 ^ m.nw) (hs : s < N) (hn : n ≤ 900000000000000000) (Z : Nat → List Nat) (E : Nat → Value) (W : World) (h : Dv w W A bm n x m Bb Ba Bl Bs BQ N lim Z E) (hZ : ∀ k, k ≤ s → Z k = [] ∨ Z k = dv (okL m lim) k) :
      Calls Try.prog 102 #[.int .i64 (s : Int), .pointer (some ⟨Bb, 0, none⟩), .pointer (some ⟨Ba, 0, none⟩), .pointer (some ⟨Bl, 0, none⟩), .pointer (some ⟨Bs, 0, none⟩)] W (GivesV w A bm (n + 30000000000000000) x m Bb Ba Bl Bs BQ N lim Z s) := by
  have h8 : (plc s).length ≤ 8 := plcN_len 8 s
  have hc := cD_le 8
  simp only [show ((8 : Fin 9) : Nat) = 8 from rfl] at hc
  refine (dv_ind ok x A bm Bb Ba Bl Bs BQ n0 N lim w h0 hNN 8 s h8 hs n (by omega) Z E W h hZ).mono fun e W' hg => ?_
  obtain ⟨v, Z', E', h1, h2, h3⟩ := hg
  exact ⟨v, Z', E', h1, h2.mono (by omega), h3⟩
end Go.Proofs.Ytpnkgjkoophckaa
