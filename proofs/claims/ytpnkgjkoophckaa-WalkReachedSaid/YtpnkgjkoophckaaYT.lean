/- Walk: the law's some. -/
import Derived.Test.YtpnkgjkoophckaaYQ
namespace Go.Proofs.Ytpnkgjkoophckaa
open Go.RowKit Go.Shelf Go.Maps

theorem bit_two : ∀ s : Fin 256, ∀ n : Fin 8, ((((s : Nat) : Int) / 2 ^ (n : Nat)).tmod 2 == 1) = (s : Nat).testBit n := by decide +kernel
def zL (L : List Nat) (j : Nat) : Int := ((L.getD j 0 : Nat) : Int)
theorem orL_bit {z : Nat → Int} : ∀ (k i : Nat), (orL z k).testBit i = true ↔ ∃ j, j < k ∧ (z j).toNat = i
  | 0, i => by simp [orL]
  | k + 1, i => by
    simp only [orL]
    rw [Nat.testBit_or, Bool.or_eq_true, orL_bit k i, Nat.testBit_two_pow, decide_eq_true_eq]
    constructor
    · rintro (⟨j, h1, h2⟩ | h)
      · exact ⟨j, by omega, h2⟩
      · exact ⟨k, by omega, h⟩
    · rintro ⟨j, h1, h2⟩
      rcases Nat.lt_succ_iff_lt_or_eq.1 h1 with h | rfl
      · exact .inl ⟨j, h, h2⟩
      · exact .inr h2
theorem zL_get {L : List Nat} {j : Nat} (h : j < L.length) : zL L j = ((L[j] : Nat) : Int) := by
  unfold zL; rw [List.getD_eq_getElem?_getD, List.getElem?_eq_getElem h]; rfl
theorem plcN_mem {k s i : Nat} : i ∈ plcN k s ↔ i < k ∧ s.testBit i = true := by
  unfold plcN; rw [List.mem_filter, List.mem_range]
theorem orL_list {L : List Nat} {i : Nat} : (orL (zL L) L.length).testBit i = true ↔ i ∈ L := by
  rw [orL_bit]
  constructor
  · rintro ⟨j, h1, h2⟩
    rw [zL_get h1, Int.toNat_natCast] at h2
    rw [← h2]
    exact List.getElem_mem _
  · intro h
    obtain ⟨j, h1, h2⟩ := List.mem_iff_getElem.1 h
    exact ⟨j, h1, by rw [zL_get h1, Int.toNat_natCast, h2]⟩
theorem orL_plc (k s : Nat) : orL (zL (plcN k s)) (plcN k s).length = s % 2 ^ k := by
  refine Nat.eq_of_testBit_eq fun i => ?_
  rw [Bool.eq_iff_iff, orL_list, plcN_mem, Nat.testBit_mod_two_pow]
  simp
theorem rises_list {L : List Nat} (h : L.Pairwise (· < ·)) : risesB (zL L) L.length = true := by
  unfold risesB
  refine allB_true (fun q hq => ?_)
  rw [decide_eq_true_eq, zL_get (by omega), zL_get (by omega)]
  have := List.pairwise_iff_getElem.1 h q (q + 1) (by omega) (by omega) (by omega)
  omega
theorem places_plc {m : Mp} (s : Nat) : placesB m (zL (plcN m.nw s)) (plcN m.nw s).length = true := by
  unfold placesB
  have hp : (plcN m.nw s).Pairwise (· < ·) := List.pairwise_lt_range.filter _
  rw [rises_list hp, Bool.true_and]
  refine allB_true (fun q hq => ?_)
  rw [zL_get hq]
  have := (plcN_mem.1 (List.getElem_mem hq)).1
  simp only [inB, Bool.and_eq_true, decide_eq_true_eq]
  omega
theorem BF.grow1 {w X Y : World} {L : List (Nat × Array Value × TypeId)} {base sz n : Nat} {T : TypeId} {v : Value} {xs : List Value} (hA : BF w X L) (ho : X.ownsRow base T sz v n xs) (hT : ∀ p, p ∈ L → p.2.2 ≠ T) (hw : w.heap.size ≤ base) (hg : X.grownBy Y v.ownBlock) : BF w Y L :=
  hA.fro (Fr.grown hg) (fun q hq e => by have := (ho.lt q e).1; omega) (fun p hp e => own_type_ne ho (hA.bk p.1 p.2.1 p.2.2 hp).2 (hT p hp) e)
set_option maxRecDepth 100000 in
set_option maxHeartbeats 8000000 in
theorem some_any (x : MV) (m : Mp) (s : Nat) (w : World) (h8 : m.nw ≤ 8) (hs : s < 256) :
    Calls Try.prog 36 #[.agg #[.slice x.wa m.nw x.wc, .slice x.ra m.nr x.rc], .int .i64 (s : Int)] w fun e w' => ∃ a c, e = .returned (.slice a (plcN m.nw s).length c) ∧ IntsIn w' (.slice a (plcN m.nw s).length c) (plcN m.nw s).length (zL (plcN m.nw s)) ∧ Below w.heap.size w w' := by
  obtain ⟨i0, hi0, hz0, hz1, hz2⟩ := info_parts Try.infoInt
  obtain ⟨RL, HRL⟩ : ∃ RL : Nat → List Nat, Hid (∀ k, plcN k s = RL k) := ⟨fun k => plcN k s, fun _ => rfl⟩
  rw [HRL.out]
  have HRS : Hid (∀ k, RL (k + 1) = if s.testBit k = true then RL k ++ [k] else RL k) := fun k => by rw [← HRL.out, ← HRL.out]; exact plcN_succ k s
  have HRN : Hid (∀ k, (RL k).length ≤ k) := fun k => by rw [← HRL.out]; exact plcN_len k s
  have HR0 : Hid (RL 0 = []) := by unfold Hid; rw [← HRL.out]; rfl
  clear HRL
  have HA0 : Hid (BF w (w.alloc (.cells #[.slice x.wa m.nw x.wc, .slice x.ra m.nr x.rc] 25)) [(w.heap.size, #[.slice x.wa m.nw x.wc, .slice x.ra m.nr x.rc], 25)]) := (BF.base w).alloc _ _
  go_enter Try.func36, Try.ntmps36
  go_wp2_with fail
  generalize w.alloc (.cells #[.slice x.wa m.nw x.wc, .slice x.ra m.nr x.rc] 25) = w0 at *
  go_loopw [5, 6] (fun v i wr => ∃ (k : Nat) (va : Option Addr) (vc : Nat), i = .int .i64 k ∧ k ≤ m.nw ∧ v = .slice va (RL k).length vc ∧ BF w wr [(w.heap.size, #[.slice x.wa m.nw x.wc, .slice x.ra m.nr x.rc], 25)] ∧ wr.ownsRow w.heap.size 3 1 (.slice va (RL k).length vc) (RL k).length (nL (RL k))) (fun _ i _ => m.nw - (intOf i).toNat)
  case atStart => exact ⟨0, none, 0, rfl, Nat.zero_le _, by rw [HR0.out]; rfl, HA0.out, by rw [HR0.out]; exact World.ownsRow_nil _ _ _ _⟩
  case round =>
    clear HA0
    obtain ⟨k, va, vc, rfl, hk, rfl, hbf, how⟩ := hrel
    have HA1 := Lib.hid hbf; have HO1 := Lib.hid how
    clear hbf how
    have c0 := HA1.out.cell (.head _) 0
    have c1 := HA1.out.cell (.head _) 1
    by_cases hlt : k < m.nw
    · have HRK := Lib.hid (HRS.out k)
      have HRKN := Lib.hid (HRN.out k)
      have ki : (0 : Int) ≤ (k : Int) := by omega
      have kn : (k : Int) < (m.nw : Int) := by omega
      have k8 : (k : Int) < 8 := by omega
      have hb2 : ((((s : Nat) : Int) / 2 ^ k).tmod 2 == 1) = s.testBit k := bit_two ⟨s, hs⟩ ⟨k, by omega⟩
      obtain ⟨L, hL⟩ : ∃ L, L = RL k := ⟨_, rfl⟩
      rw [← hL] at HRK HRKN HO1 ⊢
      clear hL
      have hln := HRKN.out
      obtain ⟨n, hn⟩ : ∃ n, L.length = n := ⟨_, rfl⟩
      have HN := Lib.hid hn
      rw [hn] at HO1 hln ⊢
      clear hn
      cases hbb : s.testBit k
      · have HRK2 : Hid (RL (k + 1) = L) := by have h := HRK.out; rw [hbb] at h; exact h
        rw [hbb] at hb2
        clear hbb
        have HEV : Hid (Value.slice va n vc = Value.slice va (RL (k + 1)).length vc) := by unfold Hid; rw [HRK2.out, HN.out]
        have HO6 : Hid (wr.ownsRow w.heap.size 3 1 (.slice va (RL (k + 1)).length vc) (RL (k + 1)).length (nL (RL (k + 1)))) := by rw [HRK2.out, HN.out]; exact HO1.out
        go_wp2_with fail
        go_roundw
        case rel => exact ⟨k + 1, va, vc, by go_num, by omega, HEV.out, HA1.out, HO6.out⟩
        case measure => simp [intOf]; omega
      · have HRK2 : Hid (RL (k + 1) = L ++ [k]) := by have h := HRK.out; rw [hbb] at h; exact h
        rw [hbb] at hb2
        clear hbb
        go_wp2_with (at_builtin; refine wpList_append_src _ rfl (.tmp 20) (.tmp 22) 26 rfl w.heap.size 3 i0 (.int .i64 0) 1 8 Try.underlying26 hi0 hz0 hz1 hz2 rfl (by decide) (.slice va n vc) n (nL L) rfl (own_below HO1.out (below_alloc _ _)) (some ⟨wr.heap.size, 0, none⟩) 1 1 [.int .i64 (k : Int)] rfl ⟨rfl, fun j u hu => ⟨_, rfl, World.news_of_block (heap_alloc_new wr _) j u hu⟩⟩ (by simp [Value.oneCell']) ?a1 ?a2 ?a3 ?_)
        case a1 => unfold maxLen; omega
        case a2 => omega
        case a3 => have := HA1.out.fr.size; simp; omega
        intro v2 w6 hown hgr hlt1
        obtain ⟨ea, ec, rfl⟩ := own_slice' hown
        have HA2 := Lib.hid (HA1.out.below (below_alloc wr (.cells #[.int .i64 (k : Int)] 3)))
        have HA6 := Lib.hid (HA2.out.grow1 (own_below HO1.out (below_alloc _ _)) (List.forall_mem_cons.2 ⟨(show 25 ≠ 3 by decide), List.forall_mem_nil _⟩) (Nat.le_refl _) hgr)
        have HO6 : Hid (w6.ownsRow w.heap.size 3 1 (.slice ea (RL (k + 1)).length ec) (RL (k + 1)).length (nL (RL (k + 1)))) := by rw [HRK2.out, nL_snoc, List.length_append, HN.out]; exact hown
        have HEV : Hid (Value.slice ea (n + 1) ec = Value.slice ea (RL (k + 1)).length ec) := by unfold Hid; rw [HRK2.out, List.length_append, HN.out]; rfl
        clear hown hgr hlt1 HA2
        go_wp2_with fail
        go_roundw
        case rel => exact ⟨k + 1, ea, ec, by go_num, by omega, HEV.out, HA6.out, HO6.out⟩
        case measure => simp [intOf]; omega
    · obtain rfl : k = m.nw := by omega
      go_wp2_with fail
      go_ret
      exact ⟨va, vc, rfl, nL_ints HO1.out, HA1.out.fr⟩
end Go.Proofs.Ytpnkgjkoophckaa
