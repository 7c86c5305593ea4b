/- Walk: sets of places; list. -/
import Derived.Test.YtpnkgjkoophckaaWI
namespace Go.Proofs.Ytpnkgjkoophckaa
open Go.RowKit Go.Shelf

theorem bit_has : ∀ s : Fin 256, ∀ n : Fin 8, (bits BinOp.and IntKind.i64 (((s : Nat) : Int) / 2 ^ (n : Nat)) 1 == 1) = (s : Nat).testBit n := by decide +kernel
theorem bit_off : ∀ s : Fin 256, ∀ n : Fin 8, (s : Nat).testBit n = true → bits BinOp.andNot IntKind.i64 ((s : Nat) : Int) (IntKind.i64.wrap (2 ^ (n : Nat))) = (((s : Nat) - 2 ^ (n : Nat) : Nat) : Int) := by decide +kernel
theorem bit_or : ∀ s : Fin 256, ∀ n : Fin 8, bits BinOp.or IntKind.i64 ((s : Nat) : Int) (wrap64 (2 ^ (n : Nat))) = (((s : Nat) ||| 2 ^ (n : Nat) : Nat) : Int) := by decide +kernel
theorem bit_whole : ∀ n : Fin 9, wrap64 (wrap64 (2 ^ (n : Nat)) - 1) = ((2 ^ (n : Nat) - 1 : Nat) : Int) := by decide +kernel
theorem testBit_le {s n : Nat} (h : s.testBit n = true) : 2 ^ n ≤ s := Nat.ge_two_pow_of_testBit h
/-- The places of a set, rising, below k. -/
def plcN (k s : Nat) : List Nat := (List.range k).filter fun n => s.testBit n
def plc (s : Nat) : List Nat := plcN 8 s
def nL (L : List Nat) : List Value := L.map fun (n : Nat) => .int .i64 (n : Int)
theorem nL_length (L : List Nat) : (nL L).length = L.length := by simp [nL]
theorem nL_get {L : List Nat} {j : Nat} (h : j < L.length) : (nL L)[j]? = some (.int .i64 ((L.getD j 0 : Nat) : Int)) := by
  unfold nL
  rw [List.getElem?_map, List.getElem?_eq_getElem h, List.getD_eq_getElem?_getD, List.getElem?_eq_getElem h]; rfl
theorem nL_one (L : List Nat) : ∀ u ∈ nL L, u.oneCell' = true := by
  intro u hu
  unfold nL at hu
  rw [List.mem_map] at hu
  obtain ⟨n, _, rfl⟩ := hu
  rfl
theorem plcN_succ (k s : Nat) : plcN (k + 1) s = if s.testBit k = true then plcN k s ++ [k] else plcN k s := by
  unfold plcN
  rw [List.range_succ, List.filter_append]
  cases h : s.testBit k <;> simp [h]
theorem plcN_len (k s : Nat) : (plcN k s).length ≤ k := by
  unfold plcN
  exact Nat.le_trans (List.length_filter_le _ _) (by simp)
theorem plc_mem {s n : Nat} : n ∈ plc s ↔ n < 8 ∧ s.testBit n = true := by
  unfold plc plcN
  rw [List.mem_filter, List.mem_range]
theorem nL_ints {X : World} {base : Nat} {v : Value} {L : List Nat} (h : X.ownsRow base 3 1 v L.length (nL L)) : IntsIn X v L.length (fun j => ((L.getD j 0 : Nat) : Int)) := by
  rcases h.2 with ⟨rfl, h0⟩ | ⟨g, cap, cur, rfl, _, hg, _⟩
  · exact .inl ⟨none, 0, rfl, h0⟩
  · refine .inr ⟨g, 0, cap, rfl, (Array.getElem?_eq_some_iff.1 hg).1, fun j hj => ?_⟩
    rw [Nat.zero_add]
    exact (h.cellAt j (by omega)).trans (nL_get hj)
set_option maxHeartbeats 1000000 in
theorem hasS_any (s n : Nat) (hs : s < 256) (hn : n < 8) (w : World) :
    Calls Try.prog 114 #[.int .i64 (s : Int), .int .i64 (n : Int)] w fun e w' => e = .returned (.bool (s.testBit n)) ∧ w = w' := by
  have hn0 : (0 : Int) ≤ (n : Int) := by omega
  have HB := Lib.hid (bit_has ⟨s, hs⟩ ⟨n, hn⟩)
  go_enter Try.func114, Try.ntmps114
  go_wp2
  go_ret
  exact ⟨ret_bool HB.out, rfl⟩
set_option maxHeartbeats 1000000 in
theorem whole_any (v : Value) (n c : Nat) (a : Option Addr) (hn : n < 9) (w : World) :
    Calls Try.prog 77 #[.agg #[.slice a n c, v]] w fun e w' => e = .returned (.int .i64 ((2 ^ n - 1 : Nat) : Int)) ∧ Below w.heap.size w w' := by
  have hn0 : (0 : Int) ≤ (n : Int) := by omega
  have HB := Lib.hid (bit_whole ⟨n, hn⟩)
  go_enter Try.func77, Try.ntmps77
  go_wp2
  go_ret
  exact ⟨ret_int HB.out, below_alloc _ _⟩
set_option maxRecDepth 100000 in
set_option maxHeartbeats 4000000 in
theorem list_any (s : Nat) (hs : s < 256) (w : World) :
    Calls Try.prog 99 #[.int .i64 (s : Int)] w fun e w' => ∃ a c, e = .returned (.slice a (plc s).length c) ∧ w'.ownsRow w.heap.size 3 1 (.slice a (plc s).length c) (plc s).length (nL (plc s)) ∧ Below w.heap.size w w' := by
  obtain ⟨i0, hi0, hz0, hz1, hz2⟩ := info_parts Try.infoInt
  go_enter Try.func99, Try.ntmps99
  go_wp2_with fail
  go_loopw [2, 4] (fun v i wr => ∃ k : Nat, k ≤ 8 ∧ i = .int .i64 k ∧ Below w.heap.size w wr ∧ wr.ownsRow w.heap.size 3 1 v (plcN k s).length (nL (plcN k s))) (fun _ i _ => 8 - (intOf i).toNat)
  case atStart => exact ⟨0, Nat.zero_le _, rfl, Below.refl _ _, World.ownsRow_nil _ _ _ _⟩
  case round =>
    obtain ⟨k, hk, rfl, hbx, how⟩ := hrel
    rename World => wx
    have HBX := Lib.hid hbx; have HOW := Lib.hid how
    obtain ⟨va, vc, rfl⟩ := own_slice' how
    have hlen := plcN_len k s
    clear hbx how
    have ki : (0 : Int) ≤ (k : Int) := by omega
    by_cases hlt : k < 8
    · have kj : (k : Int) < 8 := by omega
      have HSU := Lib.hid (plcN_succ k s)
      have HHS := Lib.hid (fun W => hasS_any s k hs hlt W)
      cases hb : s.testBit k
      · have HS2 : Hid (plcN (k + 1) s = plcN k s) := by rw [hb] at HSU; exact HSU.out
        rw [hb] at HHS
        clear hb HSU
        go_wp2_with (go_at_call 114; refine (HHS.out _).mono ?_; rintro e w' ⟨rfl, rfl⟩)
        go_roundw
        case rel => exact ⟨k + 1, by omega, by go_num, HBX.out, by rw [HS2.out]; exact HOW.out⟩
        case measure => simp [intOf]; omega
      · have HS2 : Hid (plcN (k + 1) s = plcN k s ++ [k]) := by rw [hb] at HSU; exact HSU.out
        rw [hb] at HHS
        clear hb HSU
        obtain ⟨q, HQ⟩ : ∃ q, Hid ((plcN k s).length = q) := ⟨_, rfl⟩
        obtain ⟨xs, HXS⟩ : ∃ xs, Hid (nL (plcN k s) = xs) := ⟨_, rfl⟩
        have HXN : Hid (nL (plcN (k + 1) s) = xs ++ [.int .i64 (k : Int)]) := by unfold Hid; rw [HS2.out, ← HXS.out]; simp [nL]
        have HQN : Hid ((plcN (k + 1) s).length = q + 1) := by unfold Hid; rw [HS2.out, ← HQ.out, List.length_append]; rfl
        rw [HQ.out, HXS.out] at HOW
        rw [HQ.out] at hlen
        rw [HQ.out]
        have HO2 := Lib.hid (own_below HOW.out (below_alloc wx (.cells #[.int .i64 (k : Int)] 3)))
        go_wp2_with (first | (go_at_call 114; refine (HHS.out _).mono ?_; rintro e w' ⟨rfl, rfl⟩) | (at_builtin; refine wpList_append_src _ rfl (.tmp 10) (.tmp 12) 26 rfl w.heap.size 3 i0 (.int .i64 0) 1 8 Try.underlying26 hi0 hz0 hz1 hz2 rfl (by decide) (.slice va q vc) q xs rfl HO2.out (some ⟨wx.heap.size, 0, none⟩) 1 1 [.int .i64 (k : Int)] rfl ⟨rfl, fun j u hu => ⟨_, rfl, World.news_of_block (heap_alloc_new wx _) j u hu⟩⟩ (by simp [Value.oneCell']) ?a1 ?a2 ?a3 ?_))
        case a1 => unfold maxLen; omega
        case a2 => omega
        case a3 => have := HBX.out.size; simp; omega
        intro v2 w3 hown hgr hlt1
        obtain ⟨ea, ec, rfl⟩ := own_slice' hown
        have HB3 : Hid (Below w.heap.size w w3) := (below_step HBX.out (below_alloc wx (.cells #[.int .i64 (k : Int)] 3))).trans ((Fr.grown hgr).low (by have := HBX.out.size; simp; omega) (fun q hq e => by have := own_low HO2.out e; omega))
        have HO3 := Lib.hid hown
        clear hown hgr hlt1 HO2 HOW HBX
        go_wp2_with fail
        go_roundw
        case rel => exact ⟨k + 1, by omega, by go_num, HB3.out, by rw [HQN.out, HXN.out]; exact HO3.out⟩
        case measure => simp [intOf]; omega
    · obtain rfl : k = 8 := by omega
      go_wp2_with fail
      go_ret
      exact ⟨va, vc, rfl, HOW.out, HBX.out⟩
end Go.Proofs.Ytpnkgjkoophckaa
