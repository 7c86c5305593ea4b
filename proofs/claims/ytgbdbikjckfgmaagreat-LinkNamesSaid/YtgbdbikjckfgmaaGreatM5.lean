/- Link: limited, valid; all of entries and of moves. Printed by gen_mk.py. | Link: entries as cells of a row; Grow, Concat, entries of a file. | Link: Grow, Concat, entries of a file. | Link: Concat, entries of a file, CheckFile. | Link: entries of a file, CheckFile. | Link: CheckFile. -/
import Derived.Test.YtgbdbikjckfgmaaGreatM3
import Derived.Test.YtgbdbikjckfgmaaGreatM4
import Derived.Lib.AppendZerosOnto
namespace Go.Proofs.YtgbdbikjckfgmaaGreat
open Go.RowKit Go.Shelf

set_option maxHeartbeats 1000000 in
theorem limited_any (e : En) (rv cv nv : Value) (w : World) (h : QP w rv cv nv e) : Calls Tryz.prog 58 #[enV e rv cv nv] w fun r w' => r = .returned (.bool e.lim) ∧ Below w.heap.size w w' := by
  obtain ⟨a, c, rfl⟩ := h.2.2.1.slice
  have HE : Hid (e.lim = decide ((e.nn : Int) ≤ 4)) := by unfold Hid En.lim; rw [Bool.eq_iff_iff, decide_eq_true_eq, decide_eq_true_eq]; omega
  clear h
  unfold enV
  generalize e.nn = n at *
  go_enter Tryz.func58, Tryz.ntmps58
  go_wp2
  go_ret
  exact ⟨ret_bool HE.out.symm, below_alloc _ _⟩
set_option maxHeartbeats 2000000 in
theorem evalid_any (e : En) (rv cv nv : Value) (w : World) (h : QP w rv cv nv e) : Calls Tryz.prog 60 #[enV e rv cv nv] w fun r w' => r = .returned (.bool e.ok) ∧ Below w.heap.size w w' := by
  have hn := h.2.2.2.2.2
  have HN := Lib.hid h.2.2.1
  obtain ⟨a, c, rfl⟩ := h.2.2.1.slice
  have HE : Hid (e.ok = (inB e.sex 0 2 && decide (0 < e.nn) && risesB e.z e.nn 100 && inB e.pl 0 9)) := rfl
  clear h
  unfold enV
  generalize e.nn = n at *
  generalize e.sex = sx at *
  generalize e.pl = pl at *
  generalize e.z = z at *
  have HB : Hid (Below w.heap.size w (w.alloc (.cells #[.int .i64 e.p.lo, .int .i64 e.p.hi, rv, cv, .int .i64 sx, .slice a n c, .int .i64 pl] 100))) := below_alloc _ _
  have HR := Lib.hid (fun W (hW : Below w.heap.size w W) => rises_any a n c z 100 W hn (by omega) (by omega) (HN.out.below hW))
  clear HN hn
  cases hs : inB sx 0 2
  · go_enter Tryz.func60, Tryz.ntmps60
    go_wp2_with (first | (go_at_call 75; refine (lwithin_any _ _ _ _).mono ?_; rintro _ _ ⟨rfl, rfl⟩))
    go_ret
    exact ⟨ret_bool (by rw [HE.out, hs]; rfl), HB.out⟩
  · by_cases hn0 : 0 < n
    · have hni : (0 : Int) < (n : Int) := by omega
      cases hr : risesB z n 100
      · rw [hr] at HR
        go_enter Tryz.func60, Tryz.ntmps60
        go_wp2_with (first | (go_at_call 75; refine (lwithin_any _ _ _ _).mono ?_; rintro _ _ ⟨rfl, rfl⟩) | (go_at_call 85; refine (HR.out _ HB.out).mono ?_; rintro _ _ ⟨rfl, rfl⟩))
        go_ret
        exact ⟨ret_bool (by rw [HE.out, hs, hr]; simp), HB.out⟩
      · rw [hr] at HR
        go_enter Tryz.func60, Tryz.ntmps60
        go_wp2_with (first | (go_at_call 75; refine (lwithin_any _ _ _ _).mono ?_; rintro _ _ ⟨rfl, rfl⟩) | (go_at_call 85; refine (HR.out _ HB.out).mono ?_; rintro _ _ ⟨rfl, rfl⟩) | (go_at_call 101; refine (place_any _ _).mono ?_; rintro _ _ ⟨rfl, rfl⟩))
        go_ret
        exact ⟨ret_bool (by rw [HE.out, hs, hr]; simp [hn0]), HB.out⟩
    · have hni : ¬ (0 : Int) < (n : Int) := by omega
      have hnz : n = 0 := by omega
      have HN0 := Lib.hid hnz
      clear hnz
      go_enter Tryz.func60, Tryz.ntmps60
      go_wp2_with (first | (go_at_call 75; refine (lwithin_any _ _ _ _).mono ?_; rintro _ _ ⟨rfl, rfl⟩))
      go_ret
      exact ⟨ret_bool (by rw [HE.out, hs]; simp [hn0]), HB.out⟩
def mvB (p q : Int) : Bool := inB p 0 9 && inB q 0 9
theorem mvalid_any (p q : Int) (w : World) : Calls Tryz.prog 62 #[.agg #[.int .i64 p, .int .i64 q]] w fun r w' => r = .returned (.bool (mvB p q)) ∧ Below w.heap.size w w' := by
  have HE : Hid (mvB p q = (inB p 0 9 && inB q 0 9)) := rfl
  cases h1 : inB p 0 9 <;> cases h2 : inB q 0 9
  all_goals
    go_enter Tryz.func62, Tryz.ntmps62
    go_wp2_with (go_at_call 101; refine (place_any _ _).mono ?_; rintro _ _ ⟨rfl, rfl⟩)
    go_ret
    exact ⟨ret_bool (by rw [HE.out, h1, h2]; rfl), below_alloc _ _⟩
set_option maxHeartbeats 1000000 in
theorem closure_lim (c : Nat) (e : En) (rv cv nv : Value) (w : World) (hl : c < w.heap.size) (hc : w.cell? ⟨c, 0, none⟩ = some (.func (.func 58) #[] #[])) (h : QP w rv cv nv e) :
    Calls Tryz.prog 94 #[enV e rv cv nv, .pointer (some ⟨c, 0, none⟩)] w fun r w' => r = .returned (.bool (!e.lim)) ∧ Below w.heap.size w w' := by
  unfold enV
  go_enter Tryz.func94, Tryz.ntmps94
  go_wp2_with (go_at_call 58; refine (limited_any e rv cv nv _ (QP.k _ _ _ _ _ _ h (below_alloc _ _))).mono ?_; rintro _ w2 ⟨rfl, hb⟩)
  go_ret
  have HBZ := Lib.hid ((below_alloc w _).trans (hb.mono (by simp)))
  exact ⟨rfl, HBZ.out⟩
set_option maxHeartbeats 1000000 in
theorem indexFunc_lim (c n : Nat) (a : Option Addr) (cap : Nat) (E : Nat → En) (w : World) (hlen : n ≤ 100000) (hl : c < w.heap.size) (hc : w.cell? ⟨c, 0, none⟩ = some (.func (.func 58) #[] #[])) (hz : EsQ QP w (.slice a n cap) n E) :
    Calls Tryz.prog 120 #[.slice a n cap, .func (.func 94) #[] #[.pointer (some ⟨c, 0, none⟩)]] w (IdxP (fun j => (E j).lim) n w) := by
  have HZ := Lib.hid hz; clear hz
  have HC := Lib.hid (fun W (hW : Below w.heap.size w W) => (hW.cell (p := ⟨c, 0, none⟩) hl).trans hc); clear hc
  have HV := Lib.hid (fun W (hW : Below w.heap.size w W) (e : En) (rv cv nv : Value) (h : QP W rv cv nv e) => closure_lim c e rv cv nv W (Nat.lt_of_lt_of_le hl hW.size) (HC.out W hW) h)
  go_enter Tryz.func120, Tryz.ntmps120
  go_wp2
  go_loopw [8] (fun i wr => ∃ k : Nat, k ≤ n ∧ i = .int .i64 k ∧ (∀ j, j < k → (E j).lim = true) ∧ Below w.heap.size w wr) (fun i _ => n - (intOf i).toNat)
  case atStart => exact ⟨0, Nat.zero_le _, rfl, fun q h => absurd h (Nat.not_lt_zero _), Below.refl _ _⟩
  case round =>
    obtain ⟨k, hk, rfl, hall, hbl⟩ := hrel
    have HA := Lib.hid hall; clear hall
    have HB := Lib.hid hbl; clear hbl
    by_cases hlt : k < n
    · obtain ⟨b, off, rv, cv, nv, rfl, hb, x7, hq⟩ := (EsQ.below QP.k HZ.out HB.out).at hlt
      obtain ⟨x0, x1, x2, x3, x4, x5, x6⟩ := x7
      have HVK := Lib.hid (HV.out wr HB.out (E k) rv cv nv hq)
      have HPK : Hid ((E k).lim = (E k).lim) := rfl
      cases hin : (E k).lim
      · have HI := Lib.hid hin
        rw [hin] at HVK
        clear hin
        unfold enV at HVK
        go_wp2_with (go_at_call 94; refine HVK.out.mono ?_; rintro r w2 ⟨rfl, hb2⟩)
        go_ret
        exact ⟨_, rfl, by rw [allB_false hlt HI.out]; simp, HB.out.trans (hb2.mono HB.out.size)⟩
      · have HI := Lib.hid hin
        rw [hin] at HVK
        clear hin
        unfold enV at HVK
        go_wp2_with (go_at_call 94; refine HVK.out.mono ?_; rintro r w2 ⟨rfl, hb2⟩)
        go_roundw
        case rel => exact ⟨k + 1, by omega, by go_num, (fun q hq => by rcases Nat.lt_succ_iff_lt_or_eq.1 hq with h | rfl; exact HA.out q h; exact HI.out), HB.out.trans (hb2.mono HB.out.size)⟩
        case measure => simp [intOf]; omega
    · obtain rfl : k = n := by omega
      go_wp2
      go_ret
      exact ⟨_, rfl, by rw [allB_true HA.out]; rfl, HB.out⟩
set_option maxHeartbeats 1000000 in
theorem containsFunc_lim (c n : Nat) (a : Option Addr) (cap : Nat) (E : Nat → En) (w : World) (hlen : n ≤ 100000) (hl : c < w.heap.size) (hc : w.cell? ⟨c, 0, none⟩ = some (.func (.func 58) #[] #[])) (hz : EsQ QP w (.slice a n cap) n E) :
    Calls Tryz.prog 93 #[.slice a n cap, .func (.func 94) #[] #[.pointer (some ⟨c, 0, none⟩)]] w fun e w' => e = .returned (.bool (!allB (fun j => (E j).lim) n)) ∧ Below w.heap.size w w' := by
  have HI := Lib.hid (indexFunc_lim c n a cap E w hlen hl hc hz); clear hc hz
  go_enter Tryz.func93, Tryz.ntmps93
  go_wp2_with (go_at_call 120; refine HI.out.mono ?_; rintro e w' ⟨r, rfl, hr, hb⟩; have HR := Lib.hid hr; clear hr)
  go_ret
  exact ⟨ret_bool HR.out, hb⟩
set_option maxHeartbeats 1000000 in
theorem all_lim (n : Nat) (a : Option Addr) (cap : Nat) (E : Nat → En) (w : World) (hlen : n ≤ 100000) (hz : EsQ QP w (.slice a n cap) n E) :
    Calls Tryz.prog 56 #[.slice a n cap, .func (.func 58) #[] #[]] w fun e w' => e = .returned (.bool (allB (fun j => (E j).lim) n)) ∧ Below w.heap.size w w' := by
  have HI := Lib.hid (fun c W (hW : Below w.heap.size w W) (hl : c < W.heap.size) (hc : W.cell? ⟨c, 0, none⟩ = some (.func (.func 58) #[] #[])) => containsFunc_lim c n a cap E W hlen hl hc (EsQ.below QP.k hz hW)); clear hz
  go_enter Tryz.func56, Tryz.ntmps56
  go_wp2_with (go_at_call 93; refine (HI.out _ _ (below_alloc _ _) (by simp) (box_cell _ _ _)).mono ?_; rintro e w' ⟨rfl, hb⟩)
  go_ret
  exact ⟨ret_bool (by simp), (below_alloc _ _).trans (hb.mono (by simp))⟩

set_option maxHeartbeats 1000000 in
theorem closure_val (c : Nat) (e : En) (rv cv nv : Value) (w : World) (hl : c < w.heap.size) (hc : w.cell? ⟨c, 0, none⟩ = some (.func (.func 60) #[] #[])) (h : QP w rv cv nv e) :
    Calls Tryz.prog 94 #[enV e rv cv nv, .pointer (some ⟨c, 0, none⟩)] w fun r w' => r = .returned (.bool (!e.ok)) ∧ Below w.heap.size w w' := by
  unfold enV
  go_enter Tryz.func94, Tryz.ntmps94
  go_wp2_with (go_at_call 60; refine (evalid_any e rv cv nv _ (QP.k _ _ _ _ _ _ h (below_alloc _ _))).mono ?_; rintro _ w2 ⟨rfl, hb⟩)
  go_ret
  have HBZ := Lib.hid ((below_alloc w _).trans (hb.mono (by simp)))
  exact ⟨rfl, HBZ.out⟩
set_option maxHeartbeats 1000000 in
theorem indexFunc_val (c n : Nat) (a : Option Addr) (cap : Nat) (E : Nat → En) (w : World) (hlen : n ≤ 100000) (hl : c < w.heap.size) (hc : w.cell? ⟨c, 0, none⟩ = some (.func (.func 60) #[] #[])) (hz : EsQ QP w (.slice a n cap) n E) :
    Calls Tryz.prog 120 #[.slice a n cap, .func (.func 94) #[] #[.pointer (some ⟨c, 0, none⟩)]] w (IdxP (fun j => (E j).ok) n w) := by
  have HZ := Lib.hid hz; clear hz
  have HC := Lib.hid (fun W (hW : Below w.heap.size w W) => (hW.cell (p := ⟨c, 0, none⟩) hl).trans hc); clear hc
  have HV := Lib.hid (fun W (hW : Below w.heap.size w W) (e : En) (rv cv nv : Value) (h : QP W rv cv nv e) => closure_val c e rv cv nv W (Nat.lt_of_lt_of_le hl hW.size) (HC.out W hW) h)
  go_enter Tryz.func120, Tryz.ntmps120
  go_wp2
  go_loopw [8] (fun i wr => ∃ k : Nat, k ≤ n ∧ i = .int .i64 k ∧ (∀ j, j < k → (E j).ok = true) ∧ Below w.heap.size w wr) (fun i _ => n - (intOf i).toNat)
  case atStart => exact ⟨0, Nat.zero_le _, rfl, fun q h => absurd h (Nat.not_lt_zero _), Below.refl _ _⟩
  case round =>
    obtain ⟨k, hk, rfl, hall, hbl⟩ := hrel
    have HA := Lib.hid hall; clear hall
    have HB := Lib.hid hbl; clear hbl
    by_cases hlt : k < n
    · obtain ⟨b, off, rv, cv, nv, rfl, hb, x7, hq⟩ := (EsQ.below QP.k HZ.out HB.out).at hlt
      obtain ⟨x0, x1, x2, x3, x4, x5, x6⟩ := x7
      have HVK := Lib.hid (HV.out wr HB.out (E k) rv cv nv hq)
      have HPK : Hid ((E k).ok = (E k).ok) := rfl
      cases hin : (E k).ok
      · have HI := Lib.hid hin
        rw [hin] at HVK
        clear hin
        unfold enV at HVK
        go_wp2_with (go_at_call 94; refine HVK.out.mono ?_; rintro r w2 ⟨rfl, hb2⟩)
        go_ret
        exact ⟨_, rfl, by rw [allB_false hlt HI.out]; simp, HB.out.trans (hb2.mono HB.out.size)⟩
      · have HI := Lib.hid hin
        rw [hin] at HVK
        clear hin
        unfold enV at HVK
        go_wp2_with (go_at_call 94; refine HVK.out.mono ?_; rintro r w2 ⟨rfl, hb2⟩)
        go_roundw
        case rel => exact ⟨k + 1, by omega, by go_num, (fun q hq => by rcases Nat.lt_succ_iff_lt_or_eq.1 hq with h | rfl; exact HA.out q h; exact HI.out), HB.out.trans (hb2.mono HB.out.size)⟩
        case measure => simp [intOf]; omega
    · obtain rfl : k = n := by omega
      go_wp2
      go_ret
      exact ⟨_, rfl, by rw [allB_true HA.out]; rfl, HB.out⟩
set_option maxHeartbeats 1000000 in
theorem containsFunc_val (c n : Nat) (a : Option Addr) (cap : Nat) (E : Nat → En) (w : World) (hlen : n ≤ 100000) (hl : c < w.heap.size) (hc : w.cell? ⟨c, 0, none⟩ = some (.func (.func 60) #[] #[])) (hz : EsQ QP w (.slice a n cap) n E) :
    Calls Tryz.prog 93 #[.slice a n cap, .func (.func 94) #[] #[.pointer (some ⟨c, 0, none⟩)]] w fun e w' => e = .returned (.bool (!allB (fun j => (E j).ok) n)) ∧ Below w.heap.size w w' := by
  have HI := Lib.hid (indexFunc_val c n a cap E w hlen hl hc hz); clear hc hz
  go_enter Tryz.func93, Tryz.ntmps93
  go_wp2_with (go_at_call 120; refine HI.out.mono ?_; rintro e w' ⟨r, rfl, hr, hb⟩; have HR := Lib.hid hr; clear hr)
  go_ret
  exact ⟨ret_bool HR.out, hb⟩
set_option maxHeartbeats 1000000 in
theorem all_val (n : Nat) (a : Option Addr) (cap : Nat) (E : Nat → En) (w : World) (hlen : n ≤ 100000) (hz : EsQ QP w (.slice a n cap) n E) :
    Calls Tryz.prog 56 #[.slice a n cap, .func (.func 60) #[] #[]] w fun e w' => e = .returned (.bool (allB (fun j => (E j).ok) n)) ∧ Below w.heap.size w w' := by
  have HI := Lib.hid (fun c W (hW : Below w.heap.size w W) (hl : c < W.heap.size) (hc : W.cell? ⟨c, 0, none⟩ = some (.func (.func 60) #[] #[])) => containsFunc_val c n a cap E W hlen hl hc (EsQ.below QP.k hz hW)); clear hz
  go_enter Tryz.func56, Tryz.ntmps56
  go_wp2_with (go_at_call 93; refine (HI.out _ _ (below_alloc _ _) (by simp) (box_cell _ _ _)).mono ?_; rintro e w' ⟨rfl, hb⟩)
  go_ret
  exact ⟨ret_bool (by simp), (below_alloc _ _).trans (hb.mono (by simp))⟩

set_option maxHeartbeats 1000000 in
theorem closure_move (c : Nat) (p q : Int) (w : World) (hl : c < w.heap.size) (hc : w.cell? ⟨c, 0, none⟩ = some (.func (.func 62) #[] #[])) :
    Calls Tryz.prog 103 #[.agg #[.int .i64 p, .int .i64 q], .pointer (some ⟨c, 0, none⟩)] w fun r w' => r = .returned (.bool (!mvB p q)) ∧ Below w.heap.size w w' := by
  go_enter Tryz.func103, Tryz.ntmps103
  go_wp2_with (go_at_call 62; refine (mvalid_any p q _).mono ?_; rintro _ w2 ⟨rfl, hb⟩)
  go_ret
  have HBZ := Lib.hid ((below_alloc w _).trans (hb.mono (by simp)))
  exact ⟨rfl, HBZ.out⟩
set_option maxHeartbeats 1000000 in
theorem indexFunc_move (c n : Nat) (a : Option Addr) (cap : Nat) (p q : Nat → Int) (w : World) (hlen : n ≤ 100000) (hl : c < w.heap.size) (hc : w.cell? ⟨c, 0, none⟩ = some (.func (.func 62) #[] #[])) (hz : RsIn w (.slice a n cap) n p q) :
    Calls Tryz.prog 128 #[.slice a n cap, .func (.func 103) #[] #[.pointer (some ⟨c, 0, none⟩)]] w (IdxP (fun j => mvB (p j) (q j)) n w) := by
  have HZ := Lib.hid hz; clear hz
  have HC := Lib.hid (fun W (hW : Below w.heap.size w W) => (hW.cell (p := ⟨c, 0, none⟩) hl).trans hc); clear hc
  have HV := Lib.hid (fun W (hW : Below w.heap.size w W) (x y : Int) => closure_move c x y W (Nat.lt_of_lt_of_le hl hW.size) (HC.out W hW))
  go_enter Tryz.func128, Tryz.ntmps128
  go_wp2
  go_loopw [8] (fun i wr => ∃ k : Nat, k ≤ n ∧ i = .int .i64 k ∧ (∀ j, j < k → mvB (p j) (q j) = true) ∧ Below w.heap.size w wr) (fun i _ => n - (intOf i).toNat)
  case atStart => exact ⟨0, Nat.zero_le _, rfl, fun q h => absurd h (Nat.not_lt_zero _), Below.refl _ _⟩
  case round =>
    obtain ⟨k, hk, rfl, hall, hbl⟩ := hrel
    have HA := Lib.hid hall; clear hall
    have HB := Lib.hid hbl; clear hbl
    by_cases hlt : k < n
    · obtain ⟨b, off, rfl, hb, x0, x1⟩ := (HZ.out.below HB.out).at hlt
      have HVK := Lib.hid (HV.out wr HB.out (p k) (q k))
      have HPK : Hid (mvB (p k) (q k) = mvB (p k) (q k)) := rfl
      cases hin : mvB (p k) (q k)
      · have HI := Lib.hid hin
        rw [hin] at HVK
        clear hin
        
        go_wp2_with (go_at_call 103; refine HVK.out.mono ?_; rintro r w2 ⟨rfl, hb2⟩)
        go_ret
        exact ⟨_, rfl, by rw [allB_false hlt HI.out]; simp, HB.out.trans (hb2.mono HB.out.size)⟩
      · have HI := Lib.hid hin
        rw [hin] at HVK
        clear hin
        
        go_wp2_with (go_at_call 103; refine HVK.out.mono ?_; rintro r w2 ⟨rfl, hb2⟩)
        go_roundw
        case rel => exact ⟨k + 1, by omega, by go_num, (fun q hq => by rcases Nat.lt_succ_iff_lt_or_eq.1 hq with h | rfl; exact HA.out q h; exact HI.out), HB.out.trans (hb2.mono HB.out.size)⟩
        case measure => simp [intOf]; omega
    · obtain rfl : k = n := by omega
      go_wp2
      go_ret
      exact ⟨_, rfl, by rw [allB_true HA.out]; rfl, HB.out⟩
set_option maxHeartbeats 1000000 in
theorem containsFunc_move (c n : Nat) (a : Option Addr) (cap : Nat) (p q : Nat → Int) (w : World) (hlen : n ≤ 100000) (hl : c < w.heap.size) (hc : w.cell? ⟨c, 0, none⟩ = some (.func (.func 62) #[] #[])) (hz : RsIn w (.slice a n cap) n p q) :
    Calls Tryz.prog 102 #[.slice a n cap, .func (.func 103) #[] #[.pointer (some ⟨c, 0, none⟩)]] w fun e w' => e = .returned (.bool (!allB (fun j => mvB (p j) (q j)) n)) ∧ Below w.heap.size w w' := by
  have HI := Lib.hid (indexFunc_move c n a cap p q w hlen hl hc hz); clear hc hz
  go_enter Tryz.func102, Tryz.ntmps102
  go_wp2_with (go_at_call 128; refine HI.out.mono ?_; rintro e w' ⟨r, rfl, hr, hb⟩; have HR := Lib.hid hr; clear hr)
  go_ret
  exact ⟨ret_bool HR.out, hb⟩
set_option maxHeartbeats 1000000 in
theorem all_move (n : Nat) (a : Option Addr) (cap : Nat) (p q : Nat → Int) (w : World) (hlen : n ≤ 100000) (hz : RsIn w (.slice a n cap) n p q) :
    Calls Tryz.prog 61 #[.slice a n cap, .func (.func 62) #[] #[]] w fun e w' => e = .returned (.bool (allB (fun j => mvB (p j) (q j)) n)) ∧ Below w.heap.size w w' := by
  have HI := Lib.hid (fun c W (hW : Below w.heap.size w W) (hl : c < W.heap.size) (hc : W.cell? ⟨c, 0, none⟩ = some (.func (.func 62) #[] #[])) => containsFunc_move c n a cap p q W hlen hl hc (hz.below hW)); clear hz
  go_enter Tryz.func61, Tryz.ntmps61
  go_wp2_with (go_at_call 102; refine (HI.out _ _ (below_alloc _ _) (by simp) (box_cell _ _ _)).mono ?_; rintro e w' ⟨rfl, hb⟩)
  go_ret
  exact ⟨ret_bool (by simp), (below_alloc _ _).trans (hb.mono (by simp))⟩

end Go.Proofs.YtgbdbikjckfgmaaGreat

namespace Go.Proofs.YtgbdbikjckfgmaaGreat
open Go.RowKit Go.Shelf

abbrev V3 := Nat → Value × Value × Value
def e7 (e : En) (v : Value × Value × Value) : List Value := [.int .i64 e.p.lo, .int .i64 e.p.hi, v.1, v.2.1, .int .i64 e.sex, v.2.2, .int .i64 e.pl]
def eF (E : Nat → En) (V : V3) (n : Nat) : List Value := (List.range n).flatMap fun j => e7 (E j) (V j)
theorem eF_succ (E : Nat → En) (V : V3) (n : Nat) : eF E V (n + 1) = eF E V n ++ e7 (E n) (V n) := by
  unfold eF; rw [List.range_succ, List.flatMap_append]; simp
theorem eF_length (E : Nat → En) (V : V3) (n : Nat) : (eF E V n).length = n * 7 := by
  induction n with
  | zero => rfl
  | succ n ih => rw [eF_succ, List.length_append, ih]; simp [e7]; omega
theorem eF_get (E : Nat → En) (V : V3) (n k c : Nat) (h : k < n) (hc : c < 7) : (eF E V n)[k * 7 + c]? = (e7 (E k) (V k))[c]? := by
  induction n with
  | zero => omega
  | succ n ih =>
    rw [eF_succ]
    have hl := eF_length E V n
    rcases Nat.lt_succ_iff_lt_or_eq.1 h with h | rfl
    · rw [List.getElem?_append_left (by omega)]; exact ih h
    · rw [List.getElem?_append_right (by omega), hl, show k * 7 + c - k * 7 = c by omega]
theorem eF_congr {E E' : Nat → En} {V V' : V3} {n : Nat} (h : ∀ j, j < n → E j = E' j ∧ V j = V' j) : eF E V n = eF E' V' n := by
  induction n with
  | zero => rfl
  | succ n ih => rw [eF_succ, eF_succ, ih (fun j hj => h j (by omega)), (h n (by omega)).1, (h n (by omega)).2]
def catE {α : Type} (A B : Nat → α) (n : Nat) (j : Nat) : α := if j < n then A j else B (j - n)
theorem eF_append (E E' : Nat → En) (V V' : V3) (n m : Nat) : eF E V n ++ eF E' V' m = eF (catE E E' n) (catE V V' n) (n + m) := by
  induction m with
  | zero => rw [Nat.add_zero, show eF E' V' 0 = [] from rfl, List.append_nil]; exact eF_congr fun j hj => ⟨(if_pos hj).symm, (if_pos hj).symm⟩
  | succ m ih =>
    rw [eF_succ, ← List.append_assoc, ih, show n + (m + 1) = (n + m) + 1 from rfl, eF_succ]
    congr 1
    unfold catE
    rw [if_neg (by omega), if_neg (by omega), show n + m - n = m by omega]
theorem En7.get {w : World} {b o : Nat} {e : En} {rv cv nv : Value} (h : En7 w b o e rv cv nv) : ∀ c u, (e7 e (rv, cv, nv))[c]? = some u → w.cell? ⟨b, o + c, none⟩ = some u := by
  obtain ⟨h0, h1, h2, h3, h4, h5, h6⟩ := h
  intro c u hu
  match c, hu with
  | 0, hu => cases hu; exact h0
  | 1, hu => cases hu; exact h1
  | 2, hu => cases hu; exact h2
  | 3, hu => cases hu; exact h3
  | 4, hu => cases hu; exact h4
  | 5, hu => cases hu; exact h5
  | 6, hu => cases hu; exact h6
theorem En7.of {w : World} {b o : Nat} {e : En} {v : Value × Value × Value} (h : ∀ c u, (e7 e v)[c]? = some u → w.cell? ⟨b, o + c, none⟩ = some u) : En7 w b o e v.1 v.2.1 v.2.2 :=
  ⟨h 0 _ rfl, h 1 _ rfl, h 2 _ rfl, h 3 _ rfl, h 4 _ rfl, h 5 _ rfl, h 6 _ rfl⟩
/-- Where the lists of entries lie. -/
theorem EsQ.pick {Q : QT} {w : World} {a : Option Addr} {n cap : Nat} {E : Nat → En} (h : EsQ Q w (.slice a n cap) n E) : ∃ V : V3, (∀ j, j < n → Q w (V j).1 (V j).2.1 (V j).2.2 (E j)) ∧ Src w a 7 n (eF E V n) := by
  rcases h with ⟨_, _, _, rfl⟩ | ⟨b, off, c, e, _, hz⟩
  · exact ⟨fun _ => (undef, undef, undef), fun j hj => absurd hj (Nat.not_lt_zero _), ⟨rfl, fun j u hu => by cases hu⟩⟩
  · cases e
    have hch : ∀ j, ∃ v : Value × Value × Value, j < n → En7 w b (off + j * 7) (E j) v.1 v.2.1 v.2.2 ∧ Q w v.1 v.2.1 v.2.2 (E j) := fun j => by
      by_cases hj : j < n
      · obtain ⟨rv, cv, nv, h1, h2⟩ := hz j hj; exact ⟨(rv, cv, nv), fun _ => ⟨h1, h2⟩⟩
      · exact ⟨(undef, undef, undef), fun h => absurd h hj⟩
    refine ⟨fun j => (hch j).choose, fun j hj => ((hch j).choose_spec hj).2, ⟨by rw [eF_length], fun j u hu => ?_⟩⟩
    have hj : j < n * 7 := by have := (List.getElem?_eq_some_iff.1 hu).1; rw [eF_length] at this; exact this
    have hk : j / 7 < n := by omega
    have e : j = j / 7 * 7 + j % 7 := by omega
    rw [e, eF_get _ _ _ _ _ hk (by omega)] at hu
    refine ⟨_, rfl, ?_⟩
    rw [addr_add]
    have := ((hch (j / 7)).choose_spec hk).1.get _ _ hu
    rw [show off + j = off + j / 7 * 7 + j % 7 by omega]
    exact this
theorem EsQ.own {Q : QT} {W : World} {base : Nat} {T : TypeId} {v : Value} {n : Nat} {E : Nat → En} {V : V3} (h : W.ownsRow base T 7 v n (eF E V n)) (hQ : ∀ j, j < n → Q W (V j).1 (V j).2.1 (V j).2.2 (E j)) : EsQ Q W v n E := by
  obtain ⟨a, c, rfl⟩ := own_slice' h
  rcases Nat.eq_zero_or_pos n with rfl | hn
  · exact .inl ⟨_, _, rfl, rfl⟩
  obtain ⟨g, rfl⟩ := own_somep h hn
  refine .inr ⟨g, 0, c, rfl, own_lt h rfl, fun j hj => ⟨_, _, _, En7.of fun k u hu => ?_, hQ j hj⟩⟩
  have hk : k < 7 := by have := (List.getElem?_eq_some_iff.1 hu).1; simpa [e7] using this
  have := h.cells (g := g) rfl (j * 7 + k) u (by rw [eF_get _ _ _ _ _ hj hk]; exact hu)
  rw [addr_add] at this
  rw [show 0 + j * 7 + k = 0 + (j * 7 + k) by omega]
  exact this
theorem QP.one {w : World} {rv cv nv : Value} {e : En} (h : QP w rv cv nv e) : rv.oneCell' = true ∧ cv.oneCell' = true ∧ nv.oneCell' = true := by
  obtain ⟨h1, h2, h3, _⟩ := h
  obtain ⟨_, _, rfl⟩ := h1.slice
  obtain ⟨_, _, rfl⟩ := h2.slice
  obtain ⟨_, _, rfl⟩ := h3.slice
  exact ⟨rfl, rfl, rfl⟩
theorem eF_one {w : World} {E : Nat → En} {V : V3} {n : Nat} (h : ∀ j, j < n → QP w (V j).1 (V j).2.1 (V j).2.2 (E j)) : ∀ u ∈ eF E V n, u.oneCell' = true := by
  intro u hu
  unfold eF at hu
  obtain ⟨j, hj, hu⟩ := List.mem_flatMap.1 hu
  obtain ⟨a, b, c⟩ := (h j (List.mem_range.1 hj)).one
  simp only [e7, List.mem_cons, List.not_mem_nil, or_false] at hu
  rcases hu with rfl | rfl | rfl | rfl | rfl | rfl | rfl
  · rfl
  · rfl
  · exact a
  · exact b
  · rfl
  · exact c
  · rfl
theorem Tryz.infoEntry : (Tryz.prog.info? 100).map (fun i => (i.zero, i.size, i.bytes)) = some (some (.agg #[.int .i64 0, .int .i64 0, .slice none 0 0, .slice none 0 0, .int .i64 0, .slice none 0 0, .int .i64 0]), 7, 104) := by kernel_rfl
end Go.Proofs.YtgbdbikjckfgmaaGreat

namespace Go.Proofs.YtgbdbikjckfgmaaGreat
open Go.RowKit Go.Shelf

set_option maxRecDepth 100000 in
set_option maxHeartbeats 4000000 in
theorem grow_any (n : Nat) (w : World) (hn : n ≤ 1000) : Calls Tryz.prog 121 #[.slice none 0 0, .int .i64 (n : Int)] w fun e w' => ∃ v, e = .returned v ∧ w'.ownsRow w.heap.size 100 7 v 0 [] ∧ Below w.heap.size w w' := by
  obtain ⟨i0, hi0, hz0, hz1, hz2⟩ := info_parts Tryz.infoEntry
  by_cases h0 : n = 0
  · subst h0
    have HO : Hid (w.ownsRow w.heap.size 100 7 (.slice none 0 0) 0 []) := World.ownsRow_nil _ _ _ _
    go_enter Tryz.func121, Tryz.ntmps121
    go_wp2_with fail
    go_ret
    exact ⟨_, rfl, HO.out, Below.refl _ _⟩
  · have hold : (Builtin.firstCells i0.size 0 (.slice none 0 0)).run Tryz.prog w.drew = .ok (([] : List Value).toArray) w.drew := run_firstCells_none w.drew i0.size 0 0 0
    have hr := Lib.run_append_grow_zeros w 30 3 30 100 i0 _ .i64 .i64 Tryz.underlying30 Tryz.underlying3 hi0 hz0 none 0 0 [] hold n (by omega) (by rw [hz1]; omega) (by omega) (by omega) (by rw [hz2]; omega) (growslice_fits (by omega) (by rw [hz2]; omega))
    rw [Nat.zero_add] at hr
    have hG := grownCap_ge w n 0 100
    have hG2 := grownCap_le_maxLen w n 0 100 (by unfold maxLen; omega)
    have HO := Lib.hid (World.ownsRow_made (base := w.heap.size) (e := 100) (size := 7) w.drew (([] : List Value).toArray ++ Builtin.zeroCells (Value.agg #[.int .i64 0, .int .i64 0, .slice none 0 0, .slice none 0 0, .int .i64 0, .slice none 0 0, .int .i64 0]).cells n ++ Builtin.zeroCells (Value.agg #[.int .i64 0, .int .i64 0, .slice none 0 0, .slice none 0 0, .int .i64 0, .slice none 0 0, .int .i64 0]).cells (grownCap w n 0 100 - n)) (grownCap w n 0 100) (Nat.le_refl _) hG2 (by
      rw [Array.size_append, Array.size_append, size_zeroCells, size_zeroCells]
      simp [Value.cells]; omega))
    have HB : Hid (Below w.heap.size w (w.drew.alloc (.cells (([] : List Value).toArray ++ Builtin.zeroCells (Value.agg #[.int .i64 0, .int .i64 0, .slice none 0 0, .slice none 0 0, .int .i64 0, .slice none 0 0, .int .i64 0]).cells n ++ Builtin.zeroCells (Value.agg #[.int .i64 0, .int .i64 0, .slice none 0 0, .slice none 0 0, .int .i64 0, .slice none 0 0, .int .i64 0]).cells (grownCap w n 0 100 - n)) 100))) := (Below.refl _ _).drew.alloc (Nat.le_refl _) _
    unfold maxLen at hG2
    have hn0 : (0 : Int) < (n : Int) := by omega
    generalize (w.drew.alloc (.cells (([] : List Value).toArray ++ Builtin.zeroCells (Value.agg #[.int .i64 0, .int .i64 0, .slice none 0 0, .slice none 0 0, .int .i64 0, .slice none 0 0, .int .i64 0]).cells n ++ Builtin.zeroCells (Value.agg #[.int .i64 0, .int .i64 0, .slice none 0 0, .slice none 0 0, .int .i64 0, .slice none 0 0, .int .i64 0]).cells (grownCap w n 0 100 - n)) 100)) = w1 at *
    generalize grownCap w n 0 100 = G at *
    have HR := Lib.hid hr
    clear hr hold h0
    go_enter Tryz.func121, Tryz.ntmps121
    go_wp2_with (at_builtin; refine Lib.wpList_append_run _ rfl _ _ _ _ rfl _ _ rfl rfl _ _ HR.out ?_)
    go_ret
    exact ⟨_, rfl, HO.out, HB.out⟩
end Go.Proofs.YtgbdbikjckfgmaaGreat

namespace Go.Proofs.YtgbdbikjckfgmaaGreat
open Go.RowKit Go.Shelf

theorem Src.below {w w' : World} {src : Option Addr} {size m : Nat} {news : List Value} (h : Src w src size m news) (hb : ∀ a v, w.cell? a = some v → w'.cell? a = some v) : Src w' src size m news :=
  ⟨h.1, fun j u hu => by
    obtain ⟨a, h1, h2⟩ := h.2 j u hu
    exact ⟨a, h1, hb _ _ h2⟩⟩
theorem below_cell {w w' : World} (hB : Below w.heap.size w w') (a : Addr) (v : Value) (h : w.cell? a = some v) : w'.cell? a = some v :=
  (World.cell?_of_block (hB.block _ (World.block_lt_of_cell? _ _ h))).trans h
set_option maxRecDepth 100000 in
set_option maxHeartbeats 4000000 in
theorem concat_any (SB : Nat) (A : Nat → Option Addr) (Ln C sz : Nat → Nat) (xs : Nat → List Value) (E : Nat → En) (V : V3) (w : World) (hs0 : sz 0 = 0) (hs : ∀ k, k < 2 → sz (k + 1) = sz k + Ln k) (hs2 : sz 2 ≤ 1000) (hl : ∀ k, k < 2 → sz k ≤ 1000 ∧ Ln k ≤ 1000)
    (hc : ∀ k, k < 2 → w.cell? ⟨SB, k, none⟩ = some (.slice (A k) (Ln k) (C k))) (hx : ∀ k, k < 2 → eF E V (sz (k + 1)) = eF E V (sz k) ++ xs k) (hsrc : ∀ k, k < 2 → Src w (A k) 7 (Ln k) (xs k)) (hQ : ∀ j, j < sz 2 → QP w (V j).1 (V j).2.1 (V j).2.2 (E j)) :
    Calls Tryz.prog 95 #[.slice (some ⟨SB, 0, none⟩) 2 2] w fun e w' => ∃ a c, e = .returned (.slice a (sz 2) c) ∧ EsQ QP w' (.slice a (sz 2) c) (sz 2) E ∧ Below w.heap.size w w' := by
  obtain ⟨i0, hi0, hz0, hz1, hz2⟩ := info_parts Tryz.infoEntry
  have HS := Lib.hid hs; have HC := Lib.hid hc; have HX := Lib.hid hx; have HSR := Lib.hid hsrc; have HQ := Lib.hid hQ; have HL := Lib.hid hl; have HS0 := Lib.hid hs0
  have HONE := Lib.hid (eF_one (n := sz 2) hQ)
  have hb : SB < w.heap.size := World.block_lt_of_cell? _ _ (hc 0 (by omega))
  have HXM : Hid (∀ k, k < 2 → ∀ u, u ∈ xs k → u.oneCell' = true) := fun k hk u hu => HONE.out u (by
    have h2 : ∀ k, k ≤ 2 → ∀ u, u ∈ eF E V (sz k) → u ∈ eF E V (sz 2) := fun k hk u hu => by
      have e1 := hx 1 (by omega)
      have e0 := hx 0 (by omega)
      match k, hk with
      | 0, _ => rw [e1, e0]; exact List.mem_append_left _ (List.mem_append_left _ hu)
      | 1, _ => rw [e1]; exact List.mem_append_left _ hu
      | 2, _ => exact hu
    exact h2 (k + 1) (by omega) u (by rw [hx k hk]; exact List.mem_append_right _ hu))
  clear hs hc hx hsrc hQ hl hs0
  go_enter Tryz.func95, Tryz.ntmps95
  go_wp2_with fail
  go_loop [3, 11] (fun z i => ∃ k : Nat, i = .int .i64 k ∧ k ≤ 2 ∧ z = .int .i64 (sz k : Int)) (fun _ i => 2 - (intOf i).toNat)
  case atStart => exact ⟨0, rfl, Nat.zero_le _, by rw [HS0.out]; rfl⟩
  case round =>
    obtain ⟨k, rfl, hk, rfl⟩ := hrel
    by_cases hlt : k < 2
    · have c0 := HC.out k hlt
      obtain ⟨l1, l2⟩ := HL.out k hlt
      have HSK := Lib.hid (HS.out k hlt)
      have ki : (0 : Int) ≤ (k : Int) := by omega
      have kj : (k : Int) < 2 := by omega
      generalize sz k = sk at *
      generalize Ln k = lk at *
      go_wp2_with fail
      go_round
      case rel => exact ⟨k + 1, by go_num, by omega, by rw [HSK.out]; go_num⟩
      case measure => simp [intOf]; omega
    · have hk2 : k = 2 := by omega
      have hk2i : (k : Int) = 2 := by omega
      rw [hk2i, hk2]
      clear hk2i hk2 hk hlt
      go_wp2_with fail
      refine (grow_any (sz 2) _ hs2).mono ?_
      rintro _ w1 ⟨v, rfl, hown, hbl⟩
      have HO := Lib.hid hown; have HB := Lib.hid hbl
      clear hown hbl
      go_wp2_with fail
      go_loopw [6, 27] (fun v i wr => ∃ k : Nat, i = .int .i64 k ∧ k ≤ 2 ∧ wr.ownsRow w.heap.size 100 7 v (sz k) (eF E V (sz k)) ∧ Below w.heap.size w wr) (fun _ i _ => 2 - (intOf i).toNat)
      case atStart => exact ⟨0, rfl, Nat.zero_le _, by rw [HS0.out]; exact HO.out, HB.out⟩
      case round =>
        clear HO HB
        obtain ⟨k, rfl, hk, hown, hbl⟩ := hrel
        rename World => wx
        obtain ⟨a, c, rfl⟩ := own_slice' hown
        have HO := Lib.hid hown; have HB := Lib.hid hbl
        clear hown hbl
        by_cases hlt : k < 2
        · have c0 := kept HB.out hb (HC.out k hlt)
          obtain ⟨l1, l2⟩ := HL.out k hlt
          have HSK := Lib.hid (HS.out k hlt)
          have HXK := Lib.hid (HX.out k hlt)
          have HSRK := Lib.hid ((HSR.out k hlt).below (below_cell HB.out))
          have HO1 := Lib.hid (HXM.out k hlt)
          have hsz := HB.out.size
          have ki : (0 : Int) ≤ (k : Int) := by omega
          have kj : (k : Int) < 2 := by omega
          rw [HSK.out] at HXK
          generalize sz k = sk at *
          generalize Ln k = lk at *
          go_wp2_with (at_builtin; refine wpList_append_src _ rfl (.tmp 31) (.tmp 32) 30 rfl w.heap.size 100 i0 (.agg #[.int .i64 0, .int .i64 0, .slice none 0 0, .slice none 0 0, .int .i64 0, .slice none 0 0, .int .i64 0]) 7 104 Tryz.underlying30 hi0 hz0 hz1 hz2 rfl (by decide) (.slice a sk c) sk (eF E V sk) rfl HO.out (A k) lk (C k) (xs k) rfl HSRK.out HO1.out ?c1 ?c2 ?c3 ?_)
          case c1 => unfold maxLen; omega
          case c2 => omega
          case c3 => exact hsz
          intro v' X hown hgrow _
          rw [← HXK.out] at hown
          have HB2 := Lib.hid (HB.out.trans ((Fr.grown hgrow).low hsz (fun q hq e => by have := own_low HO.out e; omega)))
          have HO2 := Lib.hid hown
          clear hown hgrow
          go_wp2_with fail
          go_roundw
          case rel => exact ⟨k + 1, by go_num, by omega, by rw [HSK.out]; exact HO2.out, HB2.out⟩
          case measure => simp [intOf]; omega
        · obtain rfl : k = 2 := by omega
          have HE := Lib.hid (EsQ.own (Q := QP) HO.out (fun j hj => QP.k _ _ _ _ _ _ (HQ.out j hj) HB.out))
          go_wp2_with fail
          go_ret
          exact ⟨_, _, rfl, HE.out, HB.out⟩
end Go.Proofs.YtgbdbikjckfgmaaGreat

namespace Go.Proofs.YtgbdbikjckfgmaaGreat
open Go.RowKit Go.Shelf

theorem fl_E (f : Fl) : f.E = catE f.O f.N f.no := rfl
set_option maxRecDepth 100000 in
set_option maxHeartbeats 4000000 in
theorem entries_any (x : FV) (f : Fl) (w : World) (h : FlQ QP w x f) (h1 : f.no ≤ 8) (h2 : f.nw ≤ 8) :
    Calls Tryz.prog 57 #[.agg #[.slice x.oa f.no x.oc, .slice x.na f.nw x.nc, .slice x.ma f.nm x.mc]] w fun e w' => ∃ a c, e = .returned (.slice a (f.no + f.nw) c) ∧ EsQ QP w' (.slice a (f.no + f.nw) c) (f.no + f.nw) f.E ∧ Below w.heap.size w w' := by
  have HA := Lib.hid (((BF.base w).alloc #[.slice x.oa f.no x.oc, .slice x.na f.nw x.nc, .slice x.ma f.nm x.mc] 33).alloc #[.slice x.oa f.no x.oc, .slice x.na f.nw x.nc] 30)
  rw [World.size_alloc] at HA
  obtain ⟨VO, hO, sO⟩ := (h.o.below QP.k HA.out.fr).pick
  obtain ⟨VN, hN, sN⟩ := (h.n.below QP.k HA.out.fr).pick
  have HC := Lib.hid (concat_any (w.heap.size + 1) (fun k => if k = 0 then x.oa else x.na) (fun k => if k = 0 then f.no else f.nw) (fun k => if k = 0 then x.oc else x.nc) (fun k => if k = 0 then 0 else if k = 1 then f.no else f.no + f.nw)
    (fun k => if k = 0 then eF f.O VO f.no else eF f.N VN f.nw) f.E (catE VO VN f.no) ((w.alloc (.cells #[.slice x.oa f.no x.oc, .slice x.na f.nw x.nc, .slice x.ma f.nm x.mc] 33)).alloc (.cells #[.slice x.oa f.no x.oc, .slice x.na f.nw x.nc] 30)) rfl
    (fun k hk => by rcases (show k = 0 ∨ k = 1 by omega) with rfl | rfl <;> simp) (by simp; omega) (fun k hk => by rcases (show k = 0 ∨ k = 1 by omega) with rfl | rfl <;> simp <;> omega)
    (fun k hk => by
      rcases (show k = 0 ∨ k = 1 by omega) with rfl | rfl
      · exact HA.out.cell (.head _) 0
      · exact HA.out.cell (.head _) 1)
    (fun k hk => by
      rcases (show k = 0 ∨ k = 1 by omega) with rfl | rfl
      · simp only [if_true, Nat.zero_add]
        rw [show eF f.E (catE VO VN f.no) 0 = [] from rfl, List.nil_append]
        exact eF_congr fun j hj => ⟨if_pos hj, if_pos hj⟩
      · simp only [show (1 : Nat) = 0 ↔ False by simp, show (1 + 1 : Nat) = 0 ↔ False by simp, show (1 + 1 : Nat) = 1 ↔ False by simp, if_false, if_true]
        rw [fl_E, ← eF_append]
        congr 1
        exact eF_congr fun j hj => ⟨(if_pos hj).symm, (if_pos hj).symm⟩)
    (fun k hk => by
      rcases (show k = 0 ∨ k = 1 by omega) with rfl | rfl
      · exact sO
      · exact sN)
    (fun j hj => by
      have hj2 : j < f.no + f.nw := hj
      by_cases c : j < f.no
      · rw [show catE VO VN f.no j = VO j from if_pos c, show f.E j = f.O j from if_pos c]; exact hO j c
      · rw [show catE VO VN f.no j = VN (j - f.no) from if_neg c, show f.E j = f.N (j - f.no) from if_neg c]; exact hN _ (by omega)))
  have HB := Lib.hid HA.out.fr
  clear h hO sO hN sN HA
  simp only [show (2 : Nat) = 0 ↔ False by simp, show (2 : Nat) = 1 ↔ False by simp, if_false] at HC
  generalize f.no = no at *
  generalize f.nw = nw at *
  generalize f.nm = nm at *
  go_enter Tryz.func57, Tryz.ntmps57
  go_wp2_with fail
  refine HC.out.mono ?_
  rintro _ w1 ⟨a, c, rfl, he, hb⟩
  have HE := Lib.hid he
  have HB2 := Lib.hid (HB.out.trans (hb.mono HB.out.size))
  clear he hb
  go_wp2_with fail
  go_ret
  exact ⟨_, _, rfl, HE.out, HB2.out⟩
end Go.Proofs.YtgbdbikjckfgmaaGreat

namespace Go.Proofs.YtgbdbikjckfgmaaGreat
open Go.RowKit Go.Shelf

theorem Fl.big_of {f : Fl} (h : 8 < f.no ∨ 8 < f.nw ∨ 16 < f.nm) : f.fault = 3 := by
  unfold Fl.fault
  rw [if_pos]
  unfold Fl.big
  simp only [Bool.or_eq_true, decide_eq_true_eq]
  rcases h with h | h | h
  · exact .inl (.inl (.inl h))
  · exact .inl (.inl (.inr h))
  · exact .inl (.inr h)
theorem Fl.big_lim {f : Fl} (h : allB (fun j => (f.E j).lim) (f.no + f.nw) = false) : f.fault = 3 := by
  unfold Fl.fault
  rw [if_pos]
  unfold Fl.big
  simp [h]
theorem Fl.not_big {f : Fl} (h0 : f.no ≤ 8) (h1 : f.nw ≤ 8) (h2 : f.nm ≤ 16) (h : allB (fun j => (f.E j).lim) (f.no + f.nw) = true) : f.fault = if f.pf ≠ 0 then f.pf else if f.fine = true then 0 else 1 := by
  unfold Fl.fault
  rw [if_neg]
  unfold Fl.big
  simp [h]; omega
set_option maxRecDepth 100000 in
set_option maxHeartbeats 8000000 in
theorem checkFile_any (x : FV) (f : Fl) (w : World) (h : FlQ QP w x f) (h1 : f.no ≤ 100000) (h2 : f.nw ≤ 100000) (h3 : f.nm ≤ 100000) :
    Calls Tryz.prog 20 #[.agg #[.slice x.oa f.no x.oc, .slice x.na f.nw x.nc, .slice x.ma f.nm x.mc]] w fun e w' => e = .returned (.int .i64 f.fault) ∧ Below w.heap.size w w' := by
  by_cases c1 : 8 < f.no
  · have HF := Lib.hid (Fl.big_of (.inl c1))
    have c1i : (8 : Int) < (f.no : Int) := by omega
    generalize f.fault = ft at *
    generalize f.no = no at *
    generalize f.nw = nw at *
    generalize f.nm = nm at *
    clear h
    go_enter Tryz.func20, Tryz.ntmps20
    go_wp2_with fail
    go_ret
    exact ⟨ret_int HF.out.symm, below_alloc _ _⟩
  by_cases c2 : 8 < f.nw
  · have HF := Lib.hid (Fl.big_of (.inr (.inl c2)))
    have c1i : ¬ (8 : Int) < (f.no : Int) := by omega
    have c2i : (8 : Int) < (f.nw : Int) := by omega
    generalize f.fault = ft at *
    generalize f.no = no at *
    generalize f.nw = nw at *
    generalize f.nm = nm at *
    clear h
    go_enter Tryz.func20, Tryz.ntmps20
    go_wp2_with fail
    go_ret
    exact ⟨ret_int HF.out.symm, below_alloc _ _⟩
  by_cases c3 : 16 < f.nm
  · have HF := Lib.hid (Fl.big_of (.inr (.inr c3)))
    have c1i : ¬ (8 : Int) < (f.no : Int) := by omega
    have c2i : ¬ (8 : Int) < (f.nw : Int) := by omega
    have c3i : (16 : Int) < (f.nm : Int) := by omega
    generalize f.fault = ft at *
    generalize f.no = no at *
    generalize f.nw = nw at *
    generalize f.nm = nm at *
    clear h
    go_enter Tryz.func20, Tryz.ntmps20
    go_wp2_with fail
    go_ret
    exact ⟨ret_int HF.out.symm, below_alloc _ _⟩
  have c1i : ¬ (8 : Int) < (f.no : Int) := by omega
  have c2i : ¬ (8 : Int) < (f.nw : Int) := by omega
  have c3i : ¬ (16 : Int) < (f.nm : Int) := by omega
  have HEN := Lib.hid (fun W (hW : Below w.heap.size w W) => entries_any x f W (h.below QP.k hW) (by omega) (by omega))
  have HMV := Lib.hid (fun W (hW : Below w.heap.size w W) => all_move f.nm x.ma x.mc f.mf f.mt W h3 (h.m.below hW))
  have HLIM := Lib.hid (Fl.big_lim (f := f))
  have HNB := Lib.hid (fun hl => Fl.not_big (f := f) (by omega) (by omega) (by omega) hl)
  have HPF : Hid (f.pf = firstE (fun j => (f.E j).p.fault) (f.no + f.nw)) := rfl
  have HFI : Hid (f.fine = (allB (fun j => (f.E j).ok) (f.no + f.nw) && allB (fun j => mvB (f.mf j) (f.mt j)) f.nm)) := rfl
  have hn16 : f.no + f.nw ≤ 16 := by omega
  clear h c1 c2 c3 h1 h2 h3
  generalize f.E = E at *
  generalize f.pf = pf at *
  generalize f.fine = fi at *
  generalize f.fault = ft at *
  generalize f.no = no at *
  generalize f.nw = nw at *
  generalize f.nm = nm at *
  have HA0 := Lib.hid ((BF.base w).alloc #[.slice x.oa no x.oc, .slice x.na nw x.nc, .slice x.ma nm x.mc] 33)
  go_enter Tryz.func20, Tryz.ntmps20
  go_wp2_with fail
  refine (HEN.out _ HA0.out.fr).mono ?_
  rintro _ w1 ⟨a1, d1, rfl, he, hb⟩
  have HE1 := Lib.hid he
  have HA1 := Lib.hid (HA0.out.below hb)
  clear he hb HA0
  have k0 := HA1.out.cell (.head _) 0
  have k1 := HA1.out.cell (.head _) 1
  have k2 := HA1.out.cell (.head _) 2
  have hnI : ((no + nw : Nat) : Int) ≤ 16 := by omega
  go_wp2_with fail
  refine (all_lim (no + nw) a1 d1 E _ (by omega) HE1.out).mono ?_
  rintro _ w2 ⟨rfl, hb⟩
  have HA2 := Lib.hid (HA1.out.below hb)
  clear hb HA1 HE1 k0 k1 k2
  have k0 := HA2.out.cell (.head _) 0
  have k1 := HA2.out.cell (.head _) 1
  have k2 := HA2.out.cell (.head _) 2
  cases hl : allB (fun j => (E j).lim) (no + nw)
  · have HF := Lib.hid (HLIM.out hl)
    clear hl HLIM HNB
    go_wp2_with fail
    go_ret
    exact ⟨ret_int HF.out.symm, HA2.out.fr⟩
  have HF := Lib.hid (HNB.out hl)
  clear hl HLIM HNB
  go_wp2_with fail
  refine (HEN.out _ HA2.out.fr).mono ?_
  rintro _ w3 ⟨a3, d3, rfl, he, hb⟩
  have HE3 := Lib.hid he
  have HA3 := Lib.hid (HA2.out.below hb)
  clear he hb HA2 k0 k1 k2
  obtain ⟨N, hN⟩ : ∃ N, no + nw = N := ⟨_, rfl⟩
  have HN := Lib.hid hN
  rw [hN] at HE3 HPF HFI hn16 HEN
  have hns : ((no : Int) + (nw : Int)) = (N : Int) := by omega
  go_wp2_with fail
  clear hN hns hnI
  go_loopw [31] (fun i wr => ∃ k : Nat, i = .int .i64 k ∧ k ≤ N ∧ (∀ q, q < k → (E q).p.fault = 0) ∧ Below w3.heap.size w3 wr) (fun i _ => N - (intOf i).toNat)
  case atStart => exact ⟨0, rfl, Nat.zero_le _, fun q h => absurd h (Nat.not_lt_zero _), Below.refl _ _⟩
  case round =>
    obtain ⟨k, rfl, hk, hall, hbl⟩ := hrel
    rename World => wx
    have HALL := Lib.hid hall
    have HB := Lib.hid hbl
    clear hall hbl
    have HA4 := Lib.hid (HA3.out.below HB.out)
    by_cases hlt : k < N
    · obtain ⟨b, off, rv, cv, nv, rfl, hb, x7, hq⟩ := (EsQ.below QP.k HE3.out HB.out).at hlt
      obtain ⟨x0, x1, x2, x3, x4, x5, x6⟩ := x7
      obtain ⟨na, nd, rfl⟩ := hq.2.2.1.slice
      obtain ⟨ra, rd, rfl⟩ := hq.1.slice
      obtain ⟨ca, cd, rfl⟩ := hq.2.1.slice
      have ki : (0 : Int) ≤ (k : Int) := by omega
      have kj : (k : Int) < (N : Int) := by omega
      have hq1 := hq.2.2.2.1
      have hq2 := hq.2.2.2.2.1
      have HCP := Lib.hid (fun W (hW : Below wx.heap.size wx W) => check_any _ (E k).p W (hq.pers.below hW) hq1 hq2)
      clear hq hq1 hq2
      generalize hft : (E k).p.fault = fk at *
      have HFT := Lib.hid hft
      clear hft
      generalize (E k).p.lo = lo at *
      generalize (E k).p.hi = hi at *
      generalize (E k).sex = sx at *
      generalize (E k).pl = pl at *
      generalize (E k).p.nr = nr at *
      generalize (E k).p.nc = nc at *
      generalize (E k).nn = nn at *
      have HBA := Lib.hid (below_alloc wx (.cells #[.int .i64 lo, .int .i64 hi, .slice ra nr rd, .slice ca nc cd, .int .i64 sx, .slice na nn nd, .int .i64 pl] 100))
      go_wp2_with fail
      refine (HCP.out _ HBA.out).mono ?_
      rintro _ w5 ⟨rfl, hb5⟩
      have HB5 := Lib.hid (HB.out.trans ((below_step HBA.out hb5).mono HB.out.size))
      clear hb5 HBA HCP x0 x1 x2 x3 x4 x5 x6
      by_cases hz : fk = 0
      · have hz1 : (fk != 0) = false := by simp [hz]
        have HFZ : Hid ((E k).p.fault = 0) := by unfold Hid; rw [HFT.out, hz]
        clear hz
        go_wp2_with fail
        go_roundw
        case rel => exact ⟨k + 1, by go_num, by omega, (fun q hq => by rcases Nat.lt_succ_iff_lt_or_eq.1 hq with h | rfl; exact HALL.out q h; exact HFZ.out), HB5.out⟩
        case measure => simp [intOf]; omega
      · have hz1 : (fk != 0) = true := by simp [hz]
        have HR : Hid (ft = fk) := by
          unfold Hid
          have e : pf = fk := by
            rw [HPF.out, ← HFT.out]
            exact firstE_at (q := fun j => (E j).p.fault) (fun j hj => HALL.out j hj) (by rw [HFT.out]; exact hz) hlt
          rw [HF.out, if_pos (by rw [e]; exact hz), e]
        clear hz
        go_wp2_with fail
        go_ret
        exact ⟨ret_int HR.out.symm, HA3.out.fr.trans (HB5.out.mono HA3.out.fr.size)⟩
    · have hkN : k = N := by omega
      have hkNi : (k : Int) = (N : Int) := by omega
      have HP0 : Hid (ft = if fi = true then 0 else 1) := by
        unfold Hid
        rw [HF.out, if_neg]
        intro h
        rw [HPF.out] at h
        exact h (firstE_zero fun q hq => HALL.out q (by omega))
      rw [hkNi]
      clear HALL HF HPF hkN hkNi HE3 HA3
      have k0 := HA4.out.cell (.head _) 0
      have k1 := HA4.out.cell (.head _) 1
      have k2 := HA4.out.cell (.head _) 2
      go_wp2_with fail
      refine (HEN.out _ HA4.out.fr).mono ?_
      rintro _ w5 ⟨a5, d5, rfl, he, hb5⟩
      have HE5 := Lib.hid he
      have HA5 := Lib.hid (HA4.out.below hb5)
      clear he hb5 HA4 k0 k1 k2
      go_wp2_with fail
      refine (all_val N a5 d5 E _ (by omega) HE5.out).mono ?_
      rintro _ w6 ⟨rfl, hb6⟩
      have HA6 := Lib.hid (HA5.out.below hb6)
      clear hb6 HA5 HE5
      have k0 := HA6.out.cell (.head _) 0
      have k1 := HA6.out.cell (.head _) 1
      have k2 := HA6.out.cell (.head _) 2
      cases hv : allB (fun j => (E j).ok) N
      · have HR : Hid (ft = 1) := by unfold Hid; rw [HP0.out, HFI.out, hv]; rfl
        clear hv
        go_wp2_with fail
        go_ret
        exact ⟨ret_int HR.out.symm, HA6.out.fr⟩
      rw [hv] at HFI
      clear hv
      go_wp2_with fail
      refine (HMV.out _ HA6.out.fr).mono ?_
      rintro _ w7 ⟨rfl, hb7⟩
      have HA7 := Lib.hid (HA6.out.below hb7)
      clear hb7 HA6 k0 k1 k2
      cases hm : allB (fun j => mvB (f.mf j) (f.mt j)) nm
      · have HR : Hid (ft = 1) := by unfold Hid; rw [HP0.out, HFI.out, hm]; rfl
        clear hm
        go_wp2_with fail
        go_ret
        exact ⟨ret_int HR.out.symm, HA7.out.fr⟩
      · have HR : Hid (ft = 0) := by unfold Hid; rw [HP0.out, HFI.out, hm]; rfl
        clear hm
        go_wp2_with fail
        go_ret
        exact ⟨ret_int HR.out.symm, HA7.out.fr⟩
end Go.Proofs.YtgbdbikjckfgmaaGreat
