/- Walk: Fewest, smallest. -/
import Derived.Test.YtpnkgjkoophckaaYD
namespace Go.Proofs.Ytpnkgjkoophckaa
open Go.RowKit Go.Shelf Go.Maps

set_option maxRecDepth 100000 in
set_option maxHeartbeats 8000000 in
theorem Fewest_any (x : MV) (m : Mp) (lim : Int) (w : World) (h : MpIn w x m) (hnw : m.nw ≤ 100000) (hnr : m.nr ≤ 100000) :
    Calls Try.prog 43 #[.agg #[.slice x.wa m.nw x.wc, .slice x.ra m.nr x.rc], .int .i64 lim] w fun e w' => Below w.heap.size w w' ∧ e = .returned (.tuple #[.int .i64 (if dvdE m lim = 0 then ((dvW m lim).length : Int) else 0), .int .i64 (dvdE m lim)]) := by
  have HMP := Lib.hid h
  have HDV := Lib.hid (fun W (hW : Below w.heap.size w W) => divided_any x m lim W (h.below hW) hnw hnr)
  unfold GivesP at HDV
  clear h
  have HA0 : Hid (BF w (w.alloc (.cells #[.slice x.wa m.nw x.wc, .slice x.ra m.nr x.rc] 37)) [(w.heap.size, #[.slice x.wa m.nw x.wc, .slice x.ra m.nr x.rc], 37)]) := (BF.base w).alloc _ _
  obtain ⟨te, hte⟩ : ∃ te, te = dvdE m lim := ⟨_, rfl⟩
  obtain ⟨l, hl⟩ : ∃ l, l = dvW m lim := ⟨_, rfl⟩
  rw [← hte, ← hl] at HDV ⊢
  clear hte hl
  go_enter Try.func43, Try.ntmps43
  go_upto_region 1 with fail
  generalize w.alloc (.cells #[.slice x.wa m.nw x.wc, .slice x.ra m.nr x.rc] 37) = w0 at *
  have c0 := HA0.out.cell (.head _) 0
  have c1 := HA0.out.cell (.head _) 1
  go_wp2_with fail
  refine (HDV.out _ HA0.out.fr).mono ?_
  rintro e w1 ⟨hb, h⟩
  have HA1 := Lib.hid (HA0.out.below hb)
  clear hb
  rcases h with ⟨hne, rfl⟩ | ⟨h0, A, bm, g, c, rfl, _, hown, _, _⟩
  · go_wp2_with fail
    exact bodyPost_ret (v := .tuple #[.int .i64 0, .int .i64 te]) (by simp [results, Try.results43, go_sem]) rfl ⟨HA1.out.fr, rfl⟩
  · clear hown
    go_wp2_with fail
    exact bodyPost_ret (v := .tuple #[.int .i64 (l.length : Int), .int .i64 0]) (by simp [results, Try.results43, go_sem]) rfl ⟨HA1.out.fr, rfl⟩
def mnI (a b : Int) : Int := if b < a then b else a
set_option maxRecDepth 100000 in
set_option maxHeartbeats 8000000 in
theorem min_any (J : Nat) (a b : Int) (w : World) (h : w.heap[J]? = some (.cells #[.int .i64 a, .int .i64 b] 3 (0, 0))) :
    Calls Try.prog 101 #[.slice (some ⟨J, 0, none⟩) 2 2] w fun e w' => e = .returned (.int .i64 (mnI a b)) ∧ w = w' := by
  have c0 := cell_of_row w J 0 _ _ _ h
  have c1 := cell_of_row w J 1 _ _ _ h
  clear h
  go_enter Try.func101, Try.ntmps101
  go_wp2_with fail
  go_loopw [3, 4] (fun v i wr => wr = w ∧ ((i = .int .i64 1 ∧ v = .int .i64 a) ∨ (i = .int .i64 2 ∧ v = .int .i64 (mnI a b)))) (fun _ i _ => 2 - (intOf i).toNat)
  case atStart => exact ⟨rfl, .inl ⟨rfl, rfl⟩⟩
  case round =>
    obtain ⟨rfl, h⟩ := hrel
    rcases h with ⟨rfl, rfl⟩ | ⟨rfl, rfl⟩
    · go_wp2_with fail
      go_roundw
      case rel => exact ⟨trivial, .inr ⟨rfl, rfl⟩⟩
      case measure => simp [intOf]
    · go_wp2_with fail
      go_ret
      exact ⟨rfl, rfl⟩
theorem smallest_any (J : Nat) (a b : Int) (w : World) (h : w.heap[J]? = some (.cells #[.int .i64 a, .int .i64 b] 3 (0, 0))) :
    Calls Try.prog 76 #[.slice (some ⟨J, 0, none⟩) 2 2] w fun e w' => e = .returned (.int .i64 (mnI a b)) ∧ w = w' := by
  go_enter Try.func76, Try.ntmps76
  go_wp2_with (go_at_call 101; refine (min_any J a b _ h).mono ?_; rintro _ _ ⟨rfl, rfl⟩)
  go_ret
  exact ⟨rfl, rfl⟩
/-- The greatest time of a tour of one place. -/
def lowL (m : Mp) : Nat → Int
  | 0 => 0
  | k + 1 => if lowL m k < lgM m (2 ^ k) then lgM m (2 ^ k) else lowL m k
/-- Bisection. -/
def bis (P : Int → Bool) : Nat → Int → Int → Int
  | 0, lo, _ => lo
  | f + 1, lo, hi => if lo < hi then (if P ((lo + hi) / 2) = true then bis P f lo ((lo + hi) / 2) else bis P f ((lo + hi) / 2 + 1) hi) else lo
theorem bis_end (P : Int → Bool) (f : Nat) {lo hi : Int} (h : ¬ lo < hi) : bis P f lo hi = lo := by
  cases f with
  | zero => rfl
  | succ f => simp only [bis, if_neg h]
/-- There are enough enumerators. -/
def enG (m : Mp) (many : Int) (lim : Int) : Bool := decide (dvW m lim ≠ [] ∧ ((dvW m lim).length : Int) ≤ many)
def lstV (m : Mp) (many : Int) : Int := bis (enG m many) 14 (lowL m m.nw) (mnI (lgM m (2 ^ m.nw - 1)) 10000)
def lstE (m : Mp) (many : Int) : Int := if m.fault ≠ 0 then m.fault else if inB many 1 8 = true then (if 1048576 ≤ lowL m m.nw then 7 else 0) else 2
theorem lowL_bd {m : Mp} (ok : OkM m) : ∀ k, k ≤ m.nw → 0 ≤ lowL m k ∧ lowL m k ≤ 1048976
  | 0, _ => by simp [lowL]
  | k + 1, h => by
    have h1 := lowL_bd ok k (by omega)
    have h2 := lgM_bd ok (s := 2 ^ k) (Nat.pow_lt_pow_right (by decide) (by omega))
    simp only [lowL]
    split <;> omega
theorem lowL_mono (m : Mp) {k j : Nat} (h : k ≤ j) : lowL m k ≤ lowL m j := by
  induction j with
  | zero => obtain rfl : k = 0 := by omega
            exact Int.le_refl _
  | succ j ih =>
    rcases Nat.lt_or_ge k (j + 1) with h1 | h1
    · have := ih (by omega)
      simp only [lowL]
      split <;> omega
    · obtain rfl : k = j + 1 := by omega
      exact Int.le_refl _
end Go.Proofs.Ytpnkgjkoophckaa
