/- Leave. -/
import Derived.Test.YtagfcfojfjkmbaaC8
import Derived.Laws.EntriesVeiled
namespace Go.Proofs.Ytagfcfojfjkmbaa
open Go.RowKit Go.Shelf

theorem alloc3 (W : World) (o1 o2 o3 : Obj) : (((W.alloc o1).alloc o2).alloc o3).heap.size = W.heap.size + 3 ∧ Below W.heap.size W (((W.alloc o1).alloc o2).alloc o3) ∧
    (((W.alloc o1).alloc o2).alloc o3).heap[W.heap.size]? = some o1 ∧ (((W.alloc o1).alloc o2).alloc o3).heap[W.heap.size + 1]? = some o2 ∧ (((W.alloc o1).alloc o2).alloc o3).heap[W.heap.size + 2]? = some o3 := by
  have s1 := World.size_alloc W o1
  have s2 := World.size_alloc (W.alloc o1) o2
  have s3 := World.size_alloc ((W.alloc o1).alloc o2) o3
  refine ⟨by omega, ((below_alloc W o1).alloc (by omega) o2).alloc (by omega) o3, ?_, ?_, ?_⟩
  · rw [Below.heap_alloc _ _ _ (by omega), Below.heap_alloc _ _ _ (by omega)]; exact World.alloc_heap_new W o1
  · rw [Below.heap_alloc _ _ _ (by omega), ← s1]; exact World.alloc_heap_new _ o2
  · rw [show W.heap.size + 2 = ((W.alloc o1).alloc o2).heap.size from by omega]; exact World.alloc_heap_new _ o3

theorem lvS_step {f : Nat → Option (List Int)} {n k : Nat} (hk : k < n) : lvS f (n - k) k = match f k with | some l => some l | none => lvS f (n - (k + 1)) (k + 1) := by
  obtain ⟨d, hd⟩ : ∃ d, n - k = d + 1 := ⟨n - k - 1, by omega⟩
  rw [hd, lvS, show n - (k + 1) = d from by omega]
  cases f k <;> rfl

set_option maxRecDepth 100000 in
set_option maxHeartbeats 4000000 in
theorem leave_any (v : Value) (p : Pers) (w : World) (h : PersAt w v p) (hn : p.nr ≤ 100000) (hc : p.nc ≤ 100000) :
    Calls Try.prog 33 #[v] w (GivesI w p.leave p.fault) := by
  have HP := Lib.hid h
  obtain ⟨rv, cv, rfl, _, hRc⟩ := h
  obtain ⟨ca, cc, rfl⟩ := hRc.slice
  clear hRc
  by_cases hf : p.fault = 0
  · have hlv : p.leave = (lvS (fun m => lvF p.nc p.okOut m [] 0) (p.nc + 1 - 0) 0).getD [] := by unfold Pers.leave; rw [if_pos hf]; rfl
    have HLV := Lib.hid hlv; clear hlv
    have hnc := (Pers.ok_facts hf).2.1
    have hq : (p.fault != 0) = false := by simp [hf]
    have HF := Lib.hid hf; clear hf
    go_enter Try.func33, Try.ntmps33
    go_wp2
    go_step3
    go_wp2_with (first
      | (go_at_call 42; refine (check_any _ p _ (HP.out.below (below_alloc _ _)) hn hc).mono ?_; rintro e w1 ⟨rfl, hb1⟩; obtain ⟨hc1, hf1⟩ := bcell hb1; have hs1 : w.heap.size + 1 ≤ w1.heap.size := by (have := hb1.size; simp at this; omega))
      | (go_at_call 71; refine (file_any _ p _ ((HP.out.below (below_alloc _ _)).below hb1) HF.out).mono ?_; rintro e w2 ⟨F, rfl, hF, hb2⟩; have HF2 := Lib.hid hF; have hbx : w2.heap[w.heap.size]? = some (.cells #[.int .i64 p.lo, .int .i64 p.hi, rv, .slice ca p.nc cc] 45 (0, 0)) := (hb2.block _ (by omega)).trans ((hb1.block _ (by simp)).trans (heap_alloc_new w _)); have hc3 : w2.cell? ⟨w.heap.size, 3, none⟩ = some (.slice ca p.nc cc) := cell_of_row _ _ 3 _ _ _ hbx; have hs2 : w.heap.size + 1 ≤ w2.heap.size := (Nat.le_trans hs1 hb2.size); have HB2 : Hid (Below w.heap.size w w2) := ((below_alloc w _).trans (hb1.mono (by simp))).trans (hb2.mono (by omega)); clear hF hbx hc1 hf1 hb1 hb2))
    obtain ⟨hz, hb3, b0, b1, b2⟩ := alloc3 w2 (.cells #[.pointer (some ⟨F, 0, none⟩)] 118) (.cells #[.slice none 0 0] 22) (.cells #[.func (.func 72) #[] #[.pointer (some ⟨w2.heap.size, 0, none⟩), .pointer (some ⟨w2.heap.size + 1, 0, none⟩), .pointer (some ⟨w2.heap.size + 1 + 1, 0, none⟩)]] 120)
    have henv : LvEnv (((w2.alloc (.cells #[.pointer (some ⟨F, 0, none⟩)] 118)).alloc (.cells #[.slice none 0 0] 22)).alloc (.cells #[.func (.func 72) #[] #[.pointer (some ⟨w2.heap.size, 0, none⟩), .pointer (some ⟨w2.heap.size + 1, 0, none⟩), .pointer (some ⟨w2.heap.size + 1 + 1, 0, none⟩)]] 120)) p F w2.heap.size (w2.heap.size + 1) (w2.heap.size + 1 + 1) :=
      ⟨HF2.out.fr (Fr.below hb3 (fun _ => False)) (fun _ _ _ h => h.elim), b0, ⟨_, b1⟩, b2⟩
    generalize (((w2.alloc (.cells #[.pointer (some ⟨F, 0, none⟩)] 118)).alloc (.cells #[.slice none 0 0] 22)).alloc (.cells #[.func (.func 72) #[] #[.pointer (some ⟨w2.heap.size, 0, none⟩), .pointer (some ⟨w2.heap.size + 1, 0, none⟩), .pointer (some ⟨w2.heap.size + 1 + 1, 0, none⟩)]] 120)) = W3 at *
    have d3 : W3.cell? ⟨w.heap.size, 3, none⟩ = some (.slice ca p.nc cc) := (hb3.cell (p := ⟨w.heap.size, _, none⟩) (by show w.heap.size < _; omega)).trans hc3
    have HENV := Lib.hid henv
    have HB3 : Hid (Below w.heap.size w W3) := HB2.out.trans (hb3.mono (by omega))
    have HB1 := Lib.hid b1
    have hW3 : w2.heap.size + 3 ≤ W3.heap.size := by omega
    clear henv hb3 b0 b1 b2 hc3 hz
    go_step3
    go_wp2
    go_loopw [21] (fun i wr => ∃ k : Nat, k ≤ p.nc + 1 ∧ i = .int .i64 k ∧ lvS (fun m => lvF p.nc p.okOut m [] 0) (p.nc + 1 - 0) 0 = lvS (fun m => lvF p.nc p.okOut m [] 0) (p.nc + 1 - k) k ∧ LvEnv wr p F w2.heap.size (w2.heap.size + 1) (w2.heap.size + 1 + 1) ∧ wr.heap[w2.heap.size + 1]? = some (.cells #[.slice none 0 0] 22 (0, 0)) ∧ Below w.heap.size w wr ∧ w2.heap.size + 3 ≤ wr.heap.size) (fun i _ => p.nc + 1 - (intOf i).toNat)
    case atStart => exact ⟨0, Nat.zero_le _, rfl, rfl, HENV.out, HB1.out, HB3.out, hW3⟩
    case round =>
      obtain ⟨k, hk, rfl, hres, henv, hbd, hbl, hsz⟩ := hrel
      have HE := Lib.hid henv; have HBD := Lib.hid hbd; have HBL := Lib.hid hbl; have HRES := Lib.hid hres
      obtain ⟨_, _, _, e4⟩ := henv
      have c5 : wr.cell? ⟨w2.heap.size + 1 + 1, 0, none⟩ = some (.func (.func 72) #[] #[.pointer (some ⟨w2.heap.size, 0, none⟩), .pointer (some ⟨w2.heap.size + 1, 0, none⟩), .pointer (some ⟨w2.heap.size + 1 + 1, 0, none⟩)]) := cell_of_row _ _ 0 _ _ _ e4
      have c4 : wr.cell? ⟨w2.heap.size + 1, 0, none⟩ = some (.slice none 0 0) := cell_of_row _ _ 0 _ _ _ hbd
      clear hbd hbl hres e4
      by_cases hlt : k < p.nc + 1
      · have hst := HRES.out.trans (lvS_step hlt)
        have HST := Lib.hid hst; clear hst
        have hcall := lv_any p F w2.heap.size (w2.heap.size + 1) (w2.heap.size + 1 + 1) HF.out k 0 (.slice none 0 0) [] wr HE.out (IL.nil _) (by simp; omega) (fun h => absurd rfl h) (by omega)
        rw [show ((0 : Nat) : Int) = 0 from rfl] at hcall
        have HCALL := Lib.hid hcall; clear hcall
        have hfr : ∀ W2 : World, Fr (fun q => q = w2.heap.size + 1 ∨ (Value.slice none 0 0).ownBlock = some q) wr W2 → Below w.heap.size w W2 ∧ w2.heap.size + 3 ≤ W2.heap.size := fun W2 hf => ⟨HBL.out.trans (hf.low (by omega) (fun q hq e => by rcases e with e | e; omega; cases e)), Nat.le_trans hsz hf.size⟩
        have HFR := Lib.hid hfr; clear hfr
        cases hr : lvF p.nc p.okOut k [] 0 with
        | none =>
          have HR := Lib.hid hr; clear hr
          go_wp2_with (go_at_call 72; refine HCALL.out.mono ?_; rintro e W2 hp; obtain ⟨rfl, q1, q2, q3⟩ := lvPost_none HR.out hp; have HQ1 := Lib.hid (HFR.out W2 q2); have HQ2 := Lib.hid (q3.trans HBD.out); have HQ3 := Lib.hid (HE.out.fr q2 (IL.ex HE.out (IL.nil _)) ⟨_, q3.trans HBD.out⟩); clear q1 q2 q3 hp)
          go_roundw
          case rel => exact ⟨k + 1, by omega, by go_num, by have := HST.out; simp only [HR.out] at this; exact this, HQ3.out, HQ2.out, HQ1.out.1, HQ1.out.2⟩
          case measure => simp [intOf]; omega
        | some l =>
          have HR := Lib.hid hr; clear hr
          go_wp2_with (go_at_call 72; refine HCALL.out.mono ?_; rintro e W2 hp; obtain ⟨rfl, q1, q2, fv, q3, q4⟩ := lvPost_some HR.out hp; have HQ1 := Lib.hid (HFR.out W2 q2); have HQ2 := Lib.hid q4; obtain ⟨fa, fc, rfl⟩ := q4.ints.len; have c6 : W2.cell? ⟨w2.heap.size + 1, 0, none⟩ = some (.slice fa l.length fc) := cell_of_row _ _ 0 _ _ _ q3; clear q1 q2 q3 q4 hp)
          have HL : Hid (p.leave = l) := by
            have := HST.out; simp only [HR.out] at this; unfold Hid; rw [HLV.out, this]; rfl
          rw [Exit.noGoto_ret]
          go_ret2
          exact ⟨_, ret_err HF.out.symm, by rw [HL.out]; exact HQ2.out, HQ1.out.1⟩
      · obtain rfl : k = p.nc + 1 := by omega
        have HL : Hid (p.leave = []) := by
          unfold Hid; rw [HLV.out, HRES.out, Nat.sub_self]; rfl
        go_wp2
        rw [Exit.noGoto_ret]
        go_ret2
        exact ⟨_, ret_err HF.out.symm, by rw [HL.out]; exact IL.nil _, HBL.out⟩
  · have hlv : p.leave = [] := by unfold Pers.leave; rw [if_neg hf]
    rw [hlv]
    have hq : (p.fault != 0) = true := by simp [hf]
    clear hf hlv
    go_enter Try.func33, Try.ntmps33
    go_wp2
    go_step3
    go_wp2_with (go_at_call 42; refine (check_any _ p _ (HP.out.below (below_alloc _ _)) hn hc).mono ?_; rintro e w1 ⟨rfl, hb1⟩)
    rw [Exit.noGoto_ret]
    go_ret2
    exact ⟨_, rfl, IL.nil _, (below_alloc w _).trans (hb1.mono (by simp))⟩
end Go.Proofs.Ytagfcfojfjkmbaa
