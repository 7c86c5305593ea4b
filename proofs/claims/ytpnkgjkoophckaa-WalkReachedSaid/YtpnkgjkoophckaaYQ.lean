/- Walk: what Least, Fewest and Tour say of a valid map, in short. The law's some, list. -/
import Derived.Test.YtpnkgjkoophckaaYO
import Derived.Test.YtpnkgjkoophckaaZD
namespace Go.Proofs.Ytpnkgjkoophckaa
open Go.RowKit Go.Shelf Go.Maps

def lstX (m : Mp) : Int := if 1048576 ≤ lowL m m.nw then 7 else 0
def lstT (m : Mp) (k : Int) : Int := if 1048576 ≤ lowL m m.nw then 0 else lstV m k
theorem least_pl {m : Mp} (ok : OkM m) (h0 : m.fault = 0) (x : MV) {k : Int} (hk : 1 ≤ k ∧ k ≤ 8) (w : World) (h : MpIn w x m) :
    Calls Try.prog 31 #[.agg #[.slice x.wa m.nw x.wc, .slice x.ra m.nr x.rc], .int .i64 k] w fun e w' => e = .returned (.tuple #[.int .i64 (lstT m k), .int .i64 (lstX m)]) ∧ Below w.heap.size w w' := by
  have hn := ok.nw
  have hr := ok.nr
  refine (Least_any x m k w h (by omega) (by omega)).mono ?_
  rintro e w' ⟨hb, h⟩
  have e1 : inB k 1 8 = true := by simp only [inB, Bool.and_eq_true, decide_eq_true_eq]; omega
  have hE : lstE m k = lstX m := by unfold lstE lstX; rw [h0, e1]; rfl
  rw [hE] at h
  refine ⟨?_, hb⟩
  rw [h]
  unfold lstX lstT
  by_cases hh : 1048576 ≤ lowL m m.nw
  · rw [if_pos hh, if_pos hh]; rfl
  · rw [if_neg hh, if_neg hh]; rfl
def tourX (m : Mp) (s : Nat) : Int := if 1048576 ≤ lgM m s then 7 else 0
def tourT (m : Mp) (s : Nat) : Int := if 1048576 ≤ lgM m s then 0 else lgM m s
theorem tour_pl {m : Mp} (ok : OkM m) (h0 : m.fault = 0) (x : MV) (a : Option Addr) (n cap : Nat) (z : Nat → Int) (hp : placesB m z n = true) (hn : n ≤ 100000) (w : World) (h : MpIn w x m) (hz : IntsIn w (.slice a n cap) n z) :
    Calls Try.prog 20 #[.agg #[.slice x.wa m.nw x.wc, .slice x.ra m.nr x.rc], .slice a n cap] w fun e w' => (∃ a1 n1 c1 a2 n2 c2, e = .returned (.tuple #[.agg #[.slice a1 n1 c1, .slice a2 n2 c2], .int .i64 (tourT m (orL z n)), .int .i64 (tourX m (orL z n))])) ∧ Below w.heap.size w w' := by
  have hnw := ok.nw
  have hr := ok.nr
  refine (Tour_any x m a n cap z w h hz (by omega) (by omega) hn).mono ?_
  rintro e w' ⟨hb, h⟩
  have hE : tourE m z n = tourX m (orL z n) := by unfold tourE tourX; rw [h0, hp]; rfl
  rw [hE] at h
  refine ⟨?_, hb⟩
  unfold tourX tourT at *
  by_cases hh : 1048576 ≤ lgM m (orL z n)
  · rw [if_pos hh] at h ⊢
    rw [if_pos hh]
    rcases h with ⟨_, rfl⟩ | ⟨h1, _⟩
    · exact ⟨_, _, _, _, _, _, rfl⟩
    · exact absurd h1 (by decide)
  · rw [if_neg hh] at h ⊢
    rw [if_neg hh]
    rcases h with ⟨h1, _⟩ | ⟨_, y, rfl, _⟩
    · exact absurd rfl h1
    · exact ⟨_, _, _, _, _, _, rfl⟩
theorem places_one {m : Mp} {i : Nat} (hi : i < m.nw) : placesB m (fun _ => (i : Int)) 1 = true := by
  have e : inB (i : Int) 0 ((m.nw : Int) - 1) = true := by simp only [inB, Bool.and_eq_true, decide_eq_true_eq]; omega
  unfold placesB risesB
  rw [show 1 - 1 = 0 from rfl, allB_true (fun q hq => absurd hq (Nat.not_lt_zero q)), allB_true (fun q _ => e)]
  rfl
theorem orL_one (i : Nat) : orL (fun _ => (i : Int)) 1 = 2 ^ i := by
  simp only [orL, Nat.zero_or]; rfl
end Go.Proofs.Ytpnkgjkoophckaa
