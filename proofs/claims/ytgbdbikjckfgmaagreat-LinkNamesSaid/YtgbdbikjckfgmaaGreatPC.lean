/- Age: persons, births, Same; the reference (turned from the Age seat) (3 of 8). -/
import Derived.Test.YtgbdbikjckfgmaaGreatWG
import Derived.Test.YtgbdbikjckfgmaaGreatPA
import Derived.Test.YtgbdbikjckfgmaaGreatPB
import Derived.BigQuiet
import Derived.Carry
import Derived.Deep.AppendLies
import Derived.Deep.DeepCutAuto
import Derived.Deep.DrawnRows
import Derived.Deep.MidRow
import Derived.Deep.QuietTactic
import Derived.Deep.RegionHeld3
import Derived.Deep.RegionLaw
import Derived.Deep.RegionLawGrows
import Derived.Deep.RegionWith
import Derived.Deep.Slices
import Derived.Deep.Strs
import Derived.Laws.EntriesVeiled
import Derived.Laws.Rows
import Derived.Laws.Tables
import Derived.Lib.Hide
import Derived.Lib.SliceRun
import Derived.Lib.SmallJoins
import Derived.LoopIn
import Derived.LoopNIn
import Derived.LoopTactic
import Derived.Maps.AppendAt
import Derived.OpenShut
import Derived.OrdersHeld
import Derived.OrdersIn
import Derived.Outline
import Derived.OwnWalkIn
import Derived.ProofKit
import Derived.RangeFuncBound
import Derived.RangeFuncCalls
import Derived.RangeFuncLeaves
import Derived.RangeFuncNested
import Derived.Shelf.Abstract
import Derived.Shelf.RegionOpen
import Derived.TacticsInMore
import Derived.WalkKit
import Derived.WalkLawsBesides
import Derived.WalkSpells
namespace Go.Proofs.YtgbdbikjckfgmaaGreat
open Go.RowKit Go.Shelf
attribute [local go_sem] Oper.semAt_some
attribute [local go_sem ↓] Go.wp_at_zero Go.wp_at_succ
set_option maxRecDepth 100000 in
set_option maxHeartbeats 2000000 in
theorem years1_in (n l Bl Bp Br b off nr cap q : Nat) (num f bb m e : Int) (J : List BR → World → Prop)
    (W : World) (hJ : OwnFrom W.heap.size J)
    (hY : ∀ pre x W1, J pre W1 → pre.length < 121 → YieldAt Fence.wide n Tryz.prog l (encY x) W1 fun e W' =>
      e = .returned (.bool true) ∧ J (pre ++ [x]) W' ∧ Kp Bl W1 W' ∧ KeepsOthers W1 W')
    (hBl : Bl < W.heap.size) (hown : ∀ k, ownB W Bl = some k → k < W.heap.size)
    (p1 : W.cell? ⟨Bp, 2, none⟩ = some (.slice (some ⟨b, off, none⟩) nr cap)) (r1 : W.cell? ⟨Br, 1, none⟩ = some (.int .i64 (q : Int))) (r2 : W.cell? ⟨Br, 2, none⟩ = some (.int .i64 num))
    (hp : Bp < W.heap.size) (hr : Br < W.heap.size) (hb : b < W.heap.size) (hq : q < nr)
    (c0 : W.cell? ⟨b, off + q * 4, none⟩ = some (.int .i64 f)) (c1 : W.cell? ⟨b, off + q * 4 + 1, none⟩ = some (.int .i64 bb)) (c2 : W.cell? ⟨b, off + q * 4 + 2, none⟩ = some (.int .i64 m)) (c3 : W.cell? ⟨b, off + q * 4 + 3, none⟩ = some (.int .i64 e))
    (hok : okRule f bb m e = true) (h0 : J [] W) :
    CallsIn Fence.wide n Tryz.prog 164 #[.func (.yield l) #[] #[], .pointer (some ⟨Bp, 0, none⟩), .pointer (some ⟨Br, 0, none⟩)] W fun x W' => (∃ v, x = .returned v) ∧
      ∃ ys, ys = yearsL (ageRs f bb m e num) ∧ J ys W' := by
  obtain ⟨g0, g1, g2, g3, g4, g5, g6, g7⟩ := okRule_bd hok
  have HA := Lib.hid (fun W => ages_any f bb m e num W g2 g3 g4 g5 g6 g7)
  unfold ruleV at HA
  have HY := Lib.hid hY; clear hY
  have HJ := Lib.hid hJ; clear hJ
  have HO := Lib.hid hown; clear hown hok
  have qi : (0 : Int) ≤ (q : Int) := by omega
  have qj : (q : Int) < (nr : Int) := by omega
  have hp' : Bp < W.heap.size + 1 := by omega
  have hr' : Br < W.heap.size + 1 := by omega
  have hb' : b < W.heap.size + 1 := by omega
  refine callsIn_of_wp_marks Tryz.func164 rfl trivial ?_ rfl
  simp only [Tryz.ntmps164, List.size_toArray, List.length_cons, List.length_nil, Nat.reduceAdd, Nat.reduceSub, Array.replicate_succ, Array.replicate_zero, List.push_toArray, List.append_toArray, List.nil_append, List.cons_append]
  refine wpIn_wide.2 ?_
  go_wp2
  go_region_held3 (fun w' => w'.cell? ⟨Bp, 2, none⟩ = some (.slice (some ⟨b, off, none⟩) nr cap) ∧ w'.cell? ⟨Br, 1, none⟩ = some (.int .i64 (q : Int)) ∧ w'.cell? ⟨Br, 2, none⟩ = some (.int .i64 num) ∧ w'.cell? ⟨b, off + q * 4, none⟩ = some (.int .i64 f) ∧ w'.cell? ⟨b, off + q * 4 + 1, none⟩ = some (.int .i64 bb) ∧ w'.cell? ⟨b, off + q * 4 + 2, none⟩ = some (.int .i64 m) ∧ w'.cell? ⟨b, off + q * 4 + 3, none⟩ = some (.int .i64 e)) (go_keep)
    (first | (go_at_call 165; refine (HA.out _).mono ?_; rintro e w2 ⟨rfl, hb2⟩; obtain ⟨hc2, hf2⟩ := bcell hb2; have hs2 := hb2.size; simp at hs2; have hp2 : Bp < w2.heap.size := Nat.lt_of_lt_of_le hp' hs2; have hr2 : Br < w2.heap.size := Nat.lt_of_lt_of_le hr' hs2; have hbb2 : b < w2.heap.size := Nat.lt_of_lt_of_le hb' hs2) | (go_at_call 166; refine (ranges_rs f bb m e num _).mono ?_; rintro r w3 ⟨v, rfl, hr3, hb3⟩; obtain ⟨hc3, hf3⟩ := bcell hb3; have hs3 := hb3.size))
  obtain ⟨a4, cap4, rfl⟩ := hr3.slice
  go_wp2_with (go_at_call 167; refine (backward_any _ _ _ _).mono ?_; rintro e w4 ⟨rfl, rfl⟩)
  have hB3 : Bl < w3.heap.size := by omega
  have hO3 : ownB w3 Bl = ownB W Bl := by
    rw [ownB_same (hb3.block _ (by omega)), ownB_same (hb2.block _ (by simp; omega))]
    exact ownB_same ((below_alloc W _).block _ hBl)
  have hb2' : Below (W.alloc (.cells #[.func (.yield l) #[] #[]] 227)).heap.size (W.alloc (.cells #[.func (.yield l) #[] #[]] 227)) w2 := (Below.refl _ _).drew.trans hb2
  have hmy : Mine Bl (w3.alloc (.cells #[.slice a4 (ageRs f bb m e num).length cap4] 210)) W.heap.size #[.func (.yield l) #[] #[]] 227 :=
    (((Mine.new hBl HO.out _ _).below (by simp; omega) hb2').below (by omega) hb3).below hB3 (below_alloc _ _)
  have hback : BackAt Bl (w3.alloc (.cells #[.slice a4 (ageRs f bb m e num).length cap4] 210)) w3.heap.size (ageRs f bb m e num).length (brAt (ageRs f bb m e num)) := back_of_rs hr3 (by omega) (fun k hk => by rw [hO3] at hk; have := HO.out k hk; omega) hs3 (fun r hr => by have h1 := rngs_bd _ _ r hr; have h2 := rngs_bd1 _ _ r hr; omega)
  refine wpIn_wide.1 (wide_range (n := 0) (gf := 169) (lb := #[.pointer (some ⟨w3.heap.size, 0, none⟩)]) rfl (enters_of Tryz.func169 (by kernel_rfl) rfl)
    (backward_all Bl w3.heap.size _ _ (by have := rngs_length (agesF f bb m e num 126) 121; unfold ageRs; omega) _ (by simp; omega) hback) (fun _ => rfl) Kp.trans (Kp.b (by simp; omega))
    (fun pre W' => J (pre.map (·.2)) W' ∧ Mine Bl W' W.heap.size #[.func (.yield l) #[] #[]] 227 ∧ Bl < W'.heap.size) ?hI ?h0
    (fun pre x a' W' => (J (pre.map (·.2)) W' ∧ Mine Bl W' W.heap.size #[.func (.yield l) #[] #[]] 227 ∧ Bl < W'.heap.size) ∧ ∃ Bx, W'.heap[Bx]? = some (.cells #[.int .i64 x.2.1.1, .int .i64 x.2.1.2] 94 (0, 0)) ∧ a' = { tmps := #[.func (.yield l) #[] #[], .pointer (some ⟨Bp, 0, none⟩), .pointer (some ⟨Br, 0, none⟩), .pointer (some ⟨W.heap.size, 0, none⟩), .slice a4 (ageRs f bb m e num).length cap4, undef, .pointer (some ⟨Bx, 0, none⟩), .pointer (some ⟨Bp, 2, none⟩), .slice (some ⟨b, off, none⟩) nr cap, .pointer (some ⟨Br, 1, none⟩), .int .i64 (q : Int), .pointer (some ⟨b, off + q * 4, none⟩), .agg #[.int .i64 f, .int .i64 bb, .int .i64 m, .int .i64 e], .pointer (some ⟨Br, 2, none⟩), .int .i64 num, .agg (flagsA (agesF f bb m e num 126)), .slice a4 (ageRs f bb m e num).length cap4, .slice a4 (ageRs f bb m e num).length cap4, .func (.func 169) #[] #[.pointer (some ⟨w3.heap.size, 0, none⟩)], .int .i64 (x.1 : Int), .agg #[.int .i64 x.2.1.1, .int .i64 x.2.1.2], undef, undef, undef, undef], defers := [] })
    ?hA ?assign ?body ?done)
  case hI =>
    intro s X Y row hs hg hr
    exact ⟨OwnFrom.mono HJ.out (by simp; omega) _ X Y row hs.1 hg hr, hs.2.1.grown (B := (w3.alloc (.cells #[.slice a4 (ageRs f bb m e num).length cap4] 210)).heap.size) (by simp; omega) hs.2.2 hg hr, Nat.lt_of_lt_of_le hs.2.2 hg.size⟩
  case h0 => exact ⟨HJ.out _ W _ none h0 (below_grown ((((below_alloc W _).trans (hb2'.mono (by simp))).trans (hb3.mono (by omega))).trans ((below_alloc w3 _).mono (by omega)))) (fun r e => by cases e), hmy, by simp; omega⟩
  case hA =>
    rintro pre x a' s X Y row ⟨hs, Bx, hbx, rfl⟩ hg hr
    refine ⟨⟨OwnFrom.mono HJ.out (by simp; omega) _ X Y row hs.1 hg hr, hs.2.1.grown (B := (w3.alloc (.cells #[.slice a4 (ageRs f bb m e num).length cap4] 210)).heap.size) (by simp; omega) hs.2.2 hg hr, Nat.lt_of_lt_of_le hs.2.2 hg.size⟩, Bx, ?_, rfl⟩
    rw [hg.block _ (Array.getElem?_eq_some_iff.1 hbx).1 (fun e => by obtain ⟨_, o, ho, hc⟩ := hr _ e.symm; rw [hbx] at ho; cases ho; cases hc)]
    exact hbx
  case assign =>
    rintro l1 pre x W1 ⟨i1, i2, i3⟩ hlen
    have HI1 := Lib.hid i1; have HI2 := Lib.hid i2; clear i1 i2
    simp only [encB]
    gi_wp2
    exact ⟨Kp.alloc i3 _, KeepsOthers.alloc _ _, ⟨OwnFrom.alloc HJ.out _ HI1.out, HI2.out.below i3 (below_alloc _ _), by simp; omega⟩, W1.heap.size, heap_alloc_new _ _, rfl⟩
  case body =>
    rintro l1 pre x a' W1 hl ⟨r, hr⟩ ⟨⟨i1, i2, i3⟩, Bx, hbx, rfl⟩ hlen
    have x0 : W1.cell? ⟨Bx, 0, none⟩ = some (.int .i64 x.2.1.1) := cell_of_row _ _ 0 _ _ _ hbx
    have x1 : W1.cell? ⟨Bx, 1, none⟩ = some (.int .i64 x.2.1.2) := cell_of_row _ _ 1 _ _ _ hbx
    have y0 : W1.cell? ⟨W.heap.size, 0, none⟩ = some (.func (.yield l) #[] #[]) := i2.cell 0
    obtain ⟨fn, tmps, ac, bd, hy, hR⟩ := HY.out _ x.2 W1 i1 (by have := rngs_length (agesF f bb m e num 126) 121; unfold ageRs at hlen; simp; omega)
    dsimp only [encY] at hy
    have HR := Lib.hid hR; clear hR
    have HI1 := Lib.hid i1; have HI2 := Lib.hid i2; clear i1 i2
    gi_wp2
    refine ⟨rfl, ?_⟩
    refine RoundIn.mono (R := _) (show RoundIn (Fence.wide.inRound l1) _ _ _ _ _ _ _ _ _ from ⟨HR.out.1, fun c cs _ => HR.out.2 c cs (room_wide _)⟩) ?_
    rintro e W3 ⟨rfl, hJ3, hk3, ho3⟩
    gi_wp2
    exact ⟨hJ3, HI2.out.kp hk3, Nat.lt_of_lt_of_le i3 hk3.size⟩
  case done =>
    rintro D xs W5 hD rfl ⟨hj, _, _⟩ hK
    gi_wp2
    refine ⟨by simp, .inl ⟨_, _, rfl, run_takeDeferred hK, ?_⟩⟩
    exact ⟨_, results_none rfl _ _ _, ⟨_, rfl⟩, _, rfl, OwnFrom.putObj HJ.out _ hj (by simp at hD; omega) hK rfl⟩
theorem years_all (Bl Bp Br b off nr cap q : Nat) (num f bb m e : Int) (w : World) (hBl : Bl < w.heap.size) (hown : ∀ k, ownB w Bl = some k → k < w.heap.size)
    (p1 : w.cell? ⟨Bp, 2, none⟩ = some (.slice (some ⟨b, off, none⟩) nr cap)) (r1 : w.cell? ⟨Br, 1, none⟩ = some (.int .i64 (q : Int))) (r2 : w.cell? ⟨Br, 2, none⟩ = some (.int .i64 num))
    (hp : Bp < w.heap.size) (hr : Br < w.heap.size) (hb : b < w.heap.size) (hq : q < nr)
    (c0 : w.cell? ⟨b, off + q * 4, none⟩ = some (.int .i64 f)) (c1 : w.cell? ⟨b, off + q * 4 + 1, none⟩ = some (.int .i64 bb)) (c2 : w.cell? ⟨b, off + q * 4 + 2, none⟩ = some (.int .i64 m)) (c3 : w.cell? ⟨b, off + q * 4 + 3, none⟩ = some (.int .i64 e))
    (hok : okRule f bb m e = true) :
    SeqAll Tryz.prog 164 #[.pointer (some ⟨Bp, 0, none⟩), .pointer (some ⟨Br, 0, none⟩)] encY (Kp Bl) (fun ys => ys = yearsL (ageRs f bb m e num)) 121 w := fun n l J W hW hJ hY h0 => by
  have ho : ownB W Bl = ownB w Bl := ownB_same (hW.block _ hBl)
  exact years1_in n l Bl Bp Br b off nr cap q num f bb m e J W hJ hY (Nat.lt_of_lt_of_le hBl hW.size) (fun k hk => by rw [ho] at hk; exact Nat.lt_of_lt_of_le (hown k hk) hW.size)
    ((hW.cell (p := ⟨Bp, _, none⟩) hp).trans p1) ((hW.cell (p := ⟨Br, _, none⟩) hr).trans r1) ((hW.cell (p := ⟨Br, _, none⟩) hr).trans r2) (Nat.lt_of_lt_of_le hp hW.size) (Nat.lt_of_lt_of_le hr hW.size) (Nat.lt_of_lt_of_le hb hW.size) hq
    ((hW.cell (p := ⟨b, _, none⟩) hb).trans c0) ((hW.cell (p := ⟨b, _, none⟩) hb).trans c1) ((hW.cell (p := ⟨b, _, none⟩) hb).trans c2) ((hW.cell (p := ⟨b, _, none⟩) hb).trans c3) hok h0
end Go.Proofs.YtgbdbikjckfgmaaGreat
namespace Go.Proofs.YtgbdbikjckfgmaaGreat
open Go.RowKit
/-- k is one of z 0 .. z (n - 1). -/
def inL (z : Nat → Int) (n : Nat) (k : Int) : Bool := (List.range n).any fun j => k == z j
def IdxIs (z : Nat → Int) (n : Nat) (k : Int) (w : World) (e : Ending) (w' : World) : Prop := ∃ r : Int, e = .returned (.int .i64 r) ∧ decide (0 ≤ r) = inL z n k ∧ w = w'
theorem inL_false {z : Nat → Int} {n : Nat} {k : Int} (h : ∀ q, q < n → (k == z q) = false) : inL z n k = false := by
  simp only [inL, List.any_eq_false, List.mem_range]; intro q hq; simp [h q hq]
theorem inL_true {z : Nat → Int} {n j : Nat} {k : Int} (hj : j < n) (h : (k == z j) = true) : inL z n k = true := by
  simp only [inL, List.any_eq_true, List.mem_range]; exact ⟨j, hj, h⟩
set_option maxHeartbeats 1000000 in
theorem index_nil (x : Int) (w : World) :
    Calls Tryz.prog 109 #[.slice none 0 0, .int .i64 x] w fun e w' => e = .returned (.int .i64 (-1)) ∧ w = w' := by
  go_enter Tryz.func109, Tryz.ntmps109
  go_wp2
  go_loop [8] (fun i => i = .int .i64 0) (fun _ => 0)
  case atStart => rfl
  case round =>
    obtain rfl := hrel
    go_wp2
    go_ret
    exact ⟨rfl, rfl⟩
set_option maxHeartbeats 1000000 in
theorem index_some (b off cap n : Nat) (z : Nat → Int) (x : Int) (w : World) (hlen : n ≤ 100000) (hz : ∀ j, j < n → w.cell? ⟨b, off + j, none⟩ = some (.int .i64 (z j))) :
    Calls Tryz.prog 109 #[.slice (some ⟨b, off, none⟩) n cap, .int .i64 x] w (IdxIs z n x w) := by
  have HZ := Lib.hid hz; clear hz
  go_enter Tryz.func109, Tryz.ntmps109
  go_wp2
  go_loop [8] (fun i => ∃ k : Nat, k ≤ n ∧ i = .int .i64 k ∧ ∀ q, q < k → (x == z q) = false) (fun i => n - (intOf i).toNat)
  case atStart => exact ⟨0, Nat.zero_le _, rfl, fun q h => absurd h (Nat.not_lt_zero _)⟩
  case round =>
    obtain ⟨k, hk, rfl, hall⟩ := hrel
    have HA := Lib.hid hall; clear hall
    by_cases hlt : k < n
    · have hcx := HZ.out k hlt
      cases hin : (x == z k)
      · go_wp2
        go_round
        case rel => exact ⟨k + 1, by omega, by go_num, fun q hq => by rcases Nat.lt_succ_iff_lt_or_eq.1 hq with h | rfl; exact HA.out q h; exact hin⟩
        case measure => simp [intOf]; omega
      · go_wp2
        go_ret
        exact ⟨_, rfl, by rw [inL_true hlt hin]; simp, rfl⟩
    · obtain rfl : k = n := by omega
      go_wp2
      go_ret
      exact ⟨_, rfl, by rw [inL_false HA.out]; rfl, rfl⟩
set_option maxHeartbeats 1000000 in
theorem contains_any (n : Nat) (sv : Value) (z : Nat → Int) (x : Int) (w : World) (hlen : n ≤ 100000) (hz : IntsAt w sv n z) :
    Calls Tryz.prog 76 #[sv, .int .i64 x] w fun e w' => e = .returned (.bool (inL z n x)) ∧ w = w' := by
  have hI : Calls Tryz.prog 109 #[sv, .int .i64 x] w (IdxIs z n x w) := by
    rcases hz with ⟨rfl, rfl⟩ | ⟨b, off, cap, rfl, _, hz⟩
    · refine (index_nil x w).mono ?_
      rintro e w' ⟨rfl, rfl⟩
      exact ⟨_, rfl, by simp [inL], rfl⟩
    · exact index_some b off cap n z x w hlen hz
  have HI := Lib.hid hI; clear hI hz
  go_enter Tryz.func76, Tryz.ntmps76
  go_wp2_with (go_at_call 109; refine HI.out.mono ?_; rintro e w' ⟨r, rfl, hr, rfl⟩; have HR := Lib.hid hr; clear hr)
  go_ret
  exact ⟨ret_bool HR.out, rfl⟩
end Go.Proofs.YtgbdbikjckfgmaaGreat
namespace Go.Proofs.YtgbdbikjckfgmaaGreat
open Go.RowKit
/-- A slice that reads as the ranges l. -/
def RgAt (w : World) (sv : Value) (l : RL) : Prop :=
  (l = [] ∧ ∃ a cap, sv = .slice a 0 cap) ∨ ∃ b off cap, sv = .slice (some ⟨b, off, none⟩) l.length cap ∧ l.length ≤ cap ∧ b < w.heap.size ∧ ∀ j (h : j < l.length), w.cell? ⟨b, off + j * 2, none⟩ = some (.int .i64 l[j].1) ∧ w.cell? ⟨b, off + j * 2 + 1, none⟩ = some (.int .i64 l[j].2)
theorem RgAt.below {w w' : World} {sv : Value} {l : RL} (h : RgAt w sv l) {B : Nat} (hB : Below B w w') (hs : ∀ b off n cap, sv = .slice (some ⟨b, off, none⟩) n cap → l ≠ [] → b < B) : RgAt w' sv l := by
  rcases h with h | ⟨b, off, cap, rfl, hc, hb, hz⟩
  · exact .inl h
  · by_cases hl : l = []
    · subst hl; exact .inl ⟨rfl, _, _, rfl⟩
    · have hbB := hs b off _ _ rfl hl
      exact .inr ⟨b, off, cap, rfl, hc, Nat.lt_of_lt_of_le hb hB.size, fun j hj => ⟨(hB.cell (p := ⟨b, _, none⟩) hbB).trans (hz j hj).1, (hB.cell (p := ⟨b, _, none⟩) hbB).trans (hz j hj).2⟩⟩
theorem RgAt.kept {w w' : World} {sv : Value} {l : RL} (h : RgAt w sv l) (hB : Below w.heap.size w w') : RgAt w' sv l :=
  h.below hB (fun b off n cap e hl => by
    rcases h with ⟨h, _⟩ | ⟨b', off', cap', e', _, hb, _⟩
    · exact absurd h hl
    · rw [e] at e'; cases e'; exact hb)
theorem RgAt.slice {w : World} {sv : Value} {l : RL} (h : RgAt w sv l) : ∃ a cap, sv = .slice a l.length cap := by
  rcases h with ⟨rfl, a, cap, rfl⟩ | ⟨b, off, cap, rfl, _⟩
  · exact ⟨_, _, rfl⟩
  · exact ⟨_, _, rfl⟩
theorem RgAt.cons {w : World} {sv : Value} {x : Int × Int} {l : RL} (h : RgAt w sv (x :: l)) : ∃ b off cap, sv = .slice (some ⟨b, off, none⟩) (l.length + 1) cap ∧ l.length + 1 ≤ cap ∧ b < w.heap.size ∧ w.cell? ⟨b, off, none⟩ = some (.int .i64 x.1) ∧ w.cell? ⟨b, off + 1, none⟩ = some (.int .i64 x.2) ∧ ∀ c, (cap = 1 ∧ c = 0 → RgAt w (.slice (some ⟨b, off, none⟩) l.length c) l) ∧ (cap ≠ 1 ∧ c + 1 = cap → RgAt w (.slice (some ⟨b, off + 2, none⟩) l.length c) l) := by
  rcases h with ⟨h, _⟩ | ⟨b, off, cap, rfl, hc, hb, hz⟩
  · cases h
  · simp only [List.length_cons] at hc hz
    have h0 := hz 0 (by omega)
    simp only [Nat.zero_mul, Nat.add_zero, List.getElem_cons_zero] at h0
    refine ⟨b, off, cap, rfl, hc, hb, h0.1, h0.2, fun c => ⟨fun hcap => ?_, fun hcap => ?_⟩⟩
    · have : l = [] := List.eq_nil_of_length_eq_zero (by omega)
      subst this
      exact .inl ⟨rfl, _, _, rfl⟩
    · refine .inr ⟨b, off + 2, _, rfl, by omega, hb, fun j hj => ?_⟩
      have := hz (j + 1) (by omega)
      rw [show off + (j + 1) * 2 = off + 2 + j * 2 from by omega, List.getElem_cons_succ] at this
      exact this
theorem RS.rg {w : World} {base : Nat} {v : Value} {l : RL} (h : RS w base v l) : RgAt w v l := by
  have h0 := h
  rcases h.2 with ⟨rfl, hl⟩ | ⟨g, cap, cur, rfl, hg, hc, hfit, hcap, _, _⟩
  · have : l = [] := List.eq_nil_of_length_eq_zero (by simpa using hl)
    subst this; exact .inl ⟨rfl, _, _, rfl⟩
  · refine .inr ⟨g, 0, cap, rfl, by first | omega | assumption, (Array.getElem?_eq_some_iff.1 hc).1, fun j hj => ?_⟩
    have hf := flat_get l j hj
    have hl := flat_length l
    unfold RS at h0
    rw [Nat.zero_add, h0.cellAt _ (by omega), h0.cellAt _ (by omega)]
    exact hf
theorem RS.bel {w w' : World} {base : Nat} {v : Value} {l : RL} (h : RS w base v l) (hb : Below w.heap.size w w') : RS w' base v l := by
  unfold RS at *
  refine ⟨h.1, ?_⟩
  rcases h.2 with h | ⟨g, cap, cur, rfl, hg, hc, r⟩
  · exact .inl h
  · exact .inr ⟨g, cap, cur, rfl, hg, (hb.block _ (Array.getElem?_eq_some_iff.1 hc).1).trans hc, r⟩
def lenOf : Value → Nat | .slice _ n _ => n | _ => 0
/-- min and max, not looked into by the walk. -/
def mn (x y : Int) : Int := min x y
def mx (x y : Int) : Int := max x y
theorem smallest_mn (b : Nat) (x y : Int) (w : World) (h0 : w.cell? ⟨b, 0, none⟩ = some (.int .i64 x)) (h1 : w.cell? ⟨b, 1, none⟩ = some (.int .i64 y)) :
    Calls Tryz.prog 160 #[.slice (some ⟨b, 0, none⟩) 2 2] w fun e w' => e = .returned (.int .i64 (mn x y)) ∧ w = w' := smallest_any b x y w h0 h1
theorem mx_lt {x y : Int} (h : x < y) : mx x y = y := by unfold mx; omega
theorem mx_ge {x y : Int} (h : ¬ x < y) : mx x y = x := by unfold mx; omega
/-- Where the loop stands. -/
def MeetAt (w : World) (a b : RL) (v0 v1 v4 : Value) (wr : World) : Prop :=
  ∃ a' b' o : RL, o ++ meetL a' b' = meetL a b ∧ a'.length ≤ a.length ∧ b'.length ≤ b.length ∧ RgAt w v0 a' ∧ RgAt w v1 b' ∧ RS wr w.heap.size v4 o ∧ Below w.heap.size w wr
theorem meet_app {a b a' b' o : RL} (h : o ++ meetL a' b' = meetL a b) : o.length ≤ a.length + b.length := by
  have := congrArg List.length h
  have h2 := meetL_length _ a b (Nat.le_refl _)
  simp at this; omega
attribute [local go_sem ↓] Go.wp_at_zero Go.wp_at_succ
set_option maxRecDepth 100000 in
set_option maxHeartbeats 4000000 in
theorem meet_any (va vb : Value) (a b : RL) (w : World) (ha : RgAt w va a) (hb : RgAt w vb b) (la : a.length ≤ 10000) (lb : b.length ≤ 10000) :
    Calls Tryz.prog 157 #[va, vb] w (Gives w w.heap.size (meetL a b)) := by
  obtain ⟨i0, hi0, hz0, hz1, hz2⟩ := info_parts Tryz.infoRange
  have HM : MeetAt w a b va vb (.slice none 0 0) w := ⟨a, b, [], rfl, Nat.le_refl _, Nat.le_refl _, ha, hb, World.ownsRow_nil _ _ _ _, Below.refl _ _⟩
  clear ha hb
  go_enter Tryz.func157, Tryz.ntmps157
  go_wp2
  go_loopw [0, 1, 4] (fun v0 v1 v4 wr => MeetAt w a b v0 v1 v4 wr) (fun v0 v1 _ _ => lenOf v0 + lenOf v1)
  case atStart => exact HM
  case round =>
    clear HM
    obtain ⟨a', b', o, he, ha', hb', h0, h1, h4, hB⟩ := hrel
    have hol := meet_app he
    have HE := Lib.hid he; clear he
    have H4 := Lib.hid h4; clear h4
    have HB := Lib.hid hB; clear hB
    have H0 := Lib.hid h0
    have H1 := Lib.hid h1
    cases a' with
    | nil =>
      obtain ⟨s, cap, rfl⟩ := h0.slice
      clear h0 h1
      go_wp2
      go_ret
      exact ⟨_, rfl, by have := HE.out; rw [meetL_nil_left, List.append_nil] at this; rw [← this]; exact H4.out, HB.out⟩
    | cons x a' =>
      obtain ⟨ba, oa, ca, rfl, hca, hba, x1, x2, ta⟩ := h0.cons
      have TA := Lib.hid ta; clear ta
      cases b' with
      | nil =>
        obtain ⟨s, cap, rfl⟩ := h1.slice
        clear h0 h1
        go_wp2
        go_ret
        exact ⟨_, rfl, by have := HE.out; rw [meetL_nil_right, List.append_nil] at this; rw [← this]; exact H4.out, HB.out⟩
      | cons y b' =>
        obtain ⟨bb, ob, cb, rfl, hcb, hbb, y1, y2, tb⟩ := h1.cons
        have TB := Lib.hid tb; clear tb
        clear h0 h1
        obtain ⟨xl, xh⟩ := x
        obtain ⟨yl, yh⟩ := y
        simp only [List.length_cons] at ha' hb' x1 x2 y1 y2
        have X1 := Lib.hid x1; have X2 := Lib.hid x2; have Y1 := Lib.hid y1; have Y2 := Lib.hid y2
        have c1 : wr.cell? ⟨ba, oa, none⟩ = some (.int .i64 xl) := (HB.out.cell (p := ⟨ba, _, none⟩) hba).trans x1
        have c2 : wr.cell? ⟨ba, oa + 1, none⟩ = some (.int .i64 xh) := (HB.out.cell (p := ⟨ba, _, none⟩) hba).trans x2
        have c3 : wr.cell? ⟨bb, ob, none⟩ = some (.int .i64 yl) := (HB.out.cell (p := ⟨bb, _, none⟩) hbb).trans y1
        have c4 : wr.cell? ⟨bb, ob + 1, none⟩ = some (.int .i64 yh) := (HB.out.cell (p := ⟨bb, _, none⟩) hbb).trans y2
        clear x1 x2 y1 y2
        have hbs := HB.out.size
        go_upto_region 2 with fail
        go_cut [5, 6] (fun s5 s6 wx => s5 = .int .i64 (mx xl yl) ∧ s6 = .int .i64 (mn xh yh) ∧ Below wr.heap.size wr wx)
        case first =>
          have cl : (xl < yl ∧ mx xl yl = yl) ∨ (¬ xl < yl ∧ mx xl yl = xl) := by
            by_cases h : xl < yl
            · exact .inl ⟨h, mx_lt h⟩
            · exact .inr ⟨h, mx_ge h⟩
          have ea := World.new_ne wr ⟨ba, oa + 1, none⟩ c2
          rcases cl with ⟨hxy, hm⟩ | ⟨hxy, hm⟩
          all_goals
            have HMX := Lib.hid hm; clear hm
            go_region_held3 (fun w' => w'.cell? ⟨ba, oa, none⟩ = some (.int .i64 xl) ∧ w'.cell? ⟨ba, oa + 1, none⟩ = some (.int .i64 xh) ∧ w'.cell? ⟨bb, ob, none⟩ = some (.int .i64 yl) ∧ w'.cell? ⟨bb, ob + 1, none⟩ = some (.int .i64 yh)) (go_keep)
              (first | (go_at_call 160; refine (smallest_mn _ xh yh _ ?_ ?_).mono ?_; (simp [*]); (simp [*]); rintro e w' ⟨rfl, rfl⟩))
            all_goals
              go_wp2_with fail
              go_meet
              exact ⟨(show Value.int .i64 _ = _ from by rw [HMX.out]), rfl, by first | exact (below_alloc _ _).drew | exact (Below.refl _ _).drew.alloc (by simp) _⟩
        case rest =>
          obtain ⟨rfl, rfl, hbx⟩ := hcut
          have hB1 := HB.out.trans (hbx.mono hbs)
          have h4 : RS wc w.heap.size u4 o := RS.bel H4.out hbx
          have HB1 := Lib.hid hB1; clear hB1
          have HO := Lib.hid h4; clear h4 hbx
          have hcs := HB1.out.size
          have hlen : o.length ≤ 30000 := by omega
          by_cases hlow : mx xl yl ≤ mn xh yh
          · have hout : Hid (o ++ [(mx xl yl, mn xh yh)] ++ (if xh < yh then meetL a' ((yl, yh) :: b') else meetL ((xl, xh) :: a') b') = meetL a b) := by
              have h := HE.out
              rw [meetL_cons] at h
              simp only at h
              rw [if_pos (show max xl yl ≤ min xh yh from hlow), ← List.append_assoc] at h
              exact h
            go_upto_region 5 with (at_builtin; refine wpList_append_own _ rfl _ _ 210 rfl w.heap.size 94 i0 (.agg #[.int .i64 0, .int .i64 0]) 2 16 Tryz.underlying210 hi0 hz0 hz1 hz2 rfl (by decide) u4 o.length (flat o) rfl (World.ownsRow.alloc HO.out _) ⟨wc.heap.size, 0, none⟩ 1 1 [.int .i64 (mx xl yl), .int .i64 (mn xh yh)] rfl rfl ?c1 ?c2 ?c3 ?c4 ?c5 ?_)
            case c1 => exact World.news_of_block (heap_alloc_new wc _)
            case c2 => simp [Value.oneCell']
            case c3 => unfold maxLen; omega
            case c4 => omega
            case c5 => simp; omega
            intro v' w1 h1 h2 _
            have hB2 : Below w.heap.size w w1 := (HB1.out.trans ((below_alloc wc _).mono hcs)).grown h2 (by simp; omega) (fun k hk => (HO.out.own k hk).1)
            have HR : Hid (RS w1 w.heap.size v' (o ++ [(mx xl yl, mn xh yh)])) := by
              unfold Hid RS; rw [flat_append]; simpa [flat] using h1
            have HB2 := Lib.hid hB2; clear h1 h2 hB2
            have d2 : w1.cell? ⟨ba, oa + 1, none⟩ = some (.int .i64 xh) := (HB2.out.cell (p := ⟨ba, _, none⟩) hba).trans X2.out
            have d4 : w1.cell? ⟨bb, ob + 1, none⟩ = some (.int .i64 yh) := (HB2.out.cell (p := ⟨bb, _, none⟩) hbb).trans Y2.out
            clear c1 c2 c3 c4
            by_cases hxy : xh < yh
            · by_cases hcap : ca = 1
              all_goals
                go_wp2
                go_quiet (fail)
                go_wp2
                go_roundw
                case rel =>
                  refine ⟨a', (yl, yh) :: b', o ++ [(mx xl yl, mn xh yh)], by have h := hout.out; rw [if_pos hxy] at h; exact h, by omega, by simp; omega, ?_, H1.out, RS.bel HR.out (below_drewS _ _ _), HB2.out.trans (below_drewS _ _ _)⟩
                  first | exact (TA.out _).1 ⟨hcap, by omega⟩ | exact (TA.out _).2 ⟨hcap, by omega⟩
                case measure => simp [lenOf]
            · by_cases hcap : cb = 1
              all_goals
                go_wp2
                go_quiet (fail)
                go_wp2
                go_roundw
                case rel =>
                  refine ⟨(xl, xh) :: a', b', o ++ [(mx xl yl, mn xh yh)], by have h := hout.out; rw [if_neg (by omega)] at h; exact h, by simp; omega, by omega, H0.out, ?_, RS.bel HR.out (below_drewS _ _ _), HB2.out.trans (below_drewS _ _ _)⟩
                  first | exact (TB.out _).1 ⟨hcap, by omega⟩ | exact (TB.out _).2 ⟨hcap, by omega⟩
                case measure => simp [lenOf]
          · have hout : Hid (o ++ (if xh < yh then meetL a' ((yl, yh) :: b') else meetL ((xl, xh) :: a') b') = meetL a b) := by
              have h := HE.out
              rw [meetL_cons] at h
              simp only at h
              rw [if_neg (show ¬ max xl yl ≤ min xh yh from hlow), List.nil_append] at h
              exact h
            have d2 : wc.cell? ⟨ba, oa + 1, none⟩ = some (.int .i64 xh) := (HB1.out.cell (p := ⟨ba, _, none⟩) hba).trans X2.out
            have d4 : wc.cell? ⟨bb, ob + 1, none⟩ = some (.int .i64 yh) := (HB1.out.cell (p := ⟨bb, _, none⟩) hbb).trans Y2.out
            clear c1 c2 c3 c4
            by_cases hxy : xh < yh
            · by_cases hcap : ca = 1
              all_goals
                go_wp2
                go_quiet (fail)
                go_wp2
                go_roundw
                case rel =>
                  refine ⟨a', (yl, yh) :: b', o, by have h := hout.out; rw [if_pos hxy] at h; exact h, by omega, by simp; omega, ?_, H1.out, RS.bel HO.out (below_drewS _ _ _), HB1.out.trans (below_drewS _ _ _)⟩
                  first | exact (TA.out _).1 ⟨hcap, by omega⟩ | exact (TA.out _).2 ⟨hcap, by omega⟩
                case measure => simp [lenOf]
            · by_cases hcap : cb = 1
              all_goals
                go_wp2
                go_quiet (fail)
                go_wp2
                go_roundw
                case rel =>
                  refine ⟨(xl, xh) :: a', b', o, by have h := hout.out; rw [if_neg (by omega)] at h; exact h, by simp; omega, by omega, H0.out, ?_, RS.bel HO.out (below_drewS _ _ _), HB1.out.trans (below_drewS _ _ _)⟩
                  first | exact (TB.out _).1 ⟨hcap, by omega⟩ | exact (TB.out _).2 ⟨hcap, by omega⟩
                case measure => simp [lenOf]
end Go.Proofs.YtgbdbikjckfgmaaGreat
namespace Go.Proofs.YtgbdbikjckfgmaaGreat
open Go.RowKit Go.Shelf
/-- The days of birth that some ages allow on a day, the greatest ages first. -/
def foldR (day : Int) (xs : List BR) : RL := xs.foldl (fun l x => ext l (day - 365 * x.1.2 - 364) (day - 365 * x.1.1)) []
theorem foldR_snoc (day : Int) (xs : List BR) (x : BR) : foldR day (xs ++ [x]) = ext (foldR day xs) (day - 365 * x.1.2 - 364) (day - 365 * x.1.1) := by simp [foldR]
def Pers.rl (p : Pers) (j : Nat) : Rl := p.R (p.C j).rule.toNat
def Pers.allow (p : Pers) (j : Nat) : RL := foldR (p.C j).day (yearsL (ageRs (p.rl j).f (p.rl j).b (p.rl j).m (p.rl j).e (p.C j).num))
theorem ext_bdS (l : RL) (lo hi B : Int) (h : ∀ r ∈ l, -B ≤ r.1 ∧ r.1 ≤ B ∧ -B ≤ r.2 ∧ r.2 ≤ B) (h0 : -B ≤ lo) (h1 : lo ≤ B) (h2 : -B ≤ hi) (h3 : hi ≤ B) : ∀ r ∈ ext l lo hi, -B ≤ r.1 ∧ r.1 ≤ B ∧ -B ≤ r.2 ∧ r.2 ≤ B := by
  intro r hr
  rcases List.eq_nil_or_concat l with rfl | ⟨l0, ⟨a, b⟩, rfl⟩
  · simp [ext] at hr; subst hr; exact ⟨h0, h1, h2, h3⟩
  · rw [List.concat_eq_append] at *
    have hb := h (a, b) (by simp)
    simp only at hb
    have he : ext (l0 ++ [(a, b)]) lo hi = if lo ≤ b + 1 then l0 ++ [(a, max b hi)] else (l0 ++ [(a, b)]) ++ [(lo, hi)] := by simp [ext]
    rw [he] at hr
    split at hr
    · rcases List.mem_append.1 hr with h4 | h4
      · exact h r (by simp [h4])
      · simp at h4; subst h4; simp only; omega
    · rcases List.mem_append.1 hr with h4 | h4
      · exact h r h4
      · simp at h4; subst h4; exact ⟨h0, h1, h2, h3⟩
theorem foldR_facts (day : Int) (h1 : -50000 ≤ day) (h2 : day ≤ 50000) (n : Nat) : ∀ xs : List BR, xs.length = n → (foldR day xs).length ≤ n ∧ ∀ r ∈ foldR day xs, -900000000 ≤ r.1 ∧ r.1 ≤ 900000000 ∧ -900000000 ≤ r.2 ∧ r.2 ≤ 900000000 := by
  induction n with
  | zero => intro xs hx; have : xs = [] := List.eq_nil_of_length_eq_zero hx
            subst this; simp [foldR]
  | succ n ih =>
    intro xs hx
    rcases List.eq_nil_or_concat xs with rfl | ⟨l0, x, rfl⟩
    · simp at hx
    · rw [List.concat_eq_append] at *
      obtain ⟨i1, i2⟩ := ih l0 (by simpa using hx)
      rw [foldR_snoc]
      have hb := x.2
      refine ⟨by have := ext_length (foldR day l0) (day - 365 * x.1.2 - 364) (day - 365 * x.1.1); omega, ext_bdS _ _ _ _ i2 (by omega) (by omega) (by omega) (by omega)⟩
/-- The marks of loops that are over, on the way out: the last one first. -/
def Marks (W : World) (B : Nat) : Nat → List Deferred → Prop
  | _, [] => True
  | U, d :: ds => ∃ D, B ≤ D ∧ D < U ∧ d = { target := .collected D, args := #[] } ∧ W.heap[D]? = some (.deferred (some [])) ∧ Marks W B D ds
theorem Marks.mono {W W' : World} {B : Nat} : ∀ (ds : List Deferred) {U U' : Nat}, Marks W B U ds → U ≤ U' → (∀ D, D < U → W.heap[D]? = some (.deferred (some [])) → W'.heap[D]? = some (.deferred (some []))) → Marks W' B U' ds
  | [], _, _, _, _, _ => trivial
  | _ :: ds, _, _, ⟨D, h1, h2, h3, h4, h5⟩, hU, hk => ⟨D, h1, by omega, h3, hk D h2 h4, Marks.mono ds h5 (Nat.le_refl _) (fun E hE => hk E (by omega))⟩
theorem leaves_marks {P : Program} {n : Nat} {fn : Func} {tmps : Array Value} {R : Ending → World → Prop} {B : Nat} (I : World → Prop)
    (hI : ∀ W l o', I W → B ≤ l → W.heap[l]? = some (.deferred (some [])) → I (W.putObj l o')) (hend : ∀ W, I W → LeavesInM Fence.wide n P fn tmps R [] .returning W) :
    ∀ (ds : List Deferred) (U : Nat) (W : World), Marks W B U ds → I W → LeavesInM Fence.wide n P fn tmps R ds .returning W
  | [], _, W, _, hw => hend W hw
  | _ :: ds, _, W, ⟨D, h1, h2, h3, h4, h5⟩, hw => by
    subst h3
    refine ⟨by simp, .inl ⟨_, _, rfl, run_takeDeferred h4, ?_⟩⟩
    refine leaves_marks I hI hend ds D _ (Marks.mono ds h5 (Nat.le_refl _) (fun E hE hd => ?_)) (hI W D _ hw h1 h4)
    rw [World.putObj_heap_other (by omega)]; exact hd
/-- Before the k-th record. -/
def FI (w : World) (p : Pers) (rv cv : Value) (k : Nat) (ds : List Deferred) (W : World) : Prop :=
  Below w.heap.size w W ∧ W.heap[w.heap.size]? = some (.cells #[.int .i64 p.lo, .int .i64 p.hi, rv, cv] 98 (0, 0)) ∧ Marks W (w.heap.size + 2) W.heap.size ds ∧
  ∃ av svs, W.heap[w.heap.size + 1]? = some (.cells #[.int .i64 p.lo, .int .i64 p.hi, rv, cv, av] 221 (0, 0)) ∧ W.ownsRow (w.heap.size + 2) 210 1 av k ((List.range k).map svs) ∧ ∀ j, j < k → RS W (w.heap.size + 2) (svs j) (p.allow j)
theorem RS.fr {ex : Nat → Prop} {W W' : World} {base : Nat} {v : Value} {l : RL} (h : RS W base v l) (hf : Fr ex W W') (hx : ∀ g cur, v.ownBlock = some g → base ≤ g → W.heap[g]? = some (.cells cur 94 (0, 0)) → ¬ ex g) : RS W' base v l := by
  unfold RS at *
  refine ⟨h.1, ?_⟩
  rcases h.2 with h | ⟨g, cap, cur, rfl, hg, hc, r⟩
  · exact .inl h
  · exact .inr ⟨g, cap, cur, rfl, hg, (hf.block _ (Array.getElem?_eq_some_iff.1 hc).1 (hx g cur rfl hg hc)).trans hc, r⟩
theorem FI.next {w : World} {p : Pers} {rv cv : Value} {k : Nat} {ds : List Deferred} {W W' : World} {av av' lv : Value} {svs : Nat → Value} {D : Nat}
    (h1 : Below w.heap.size w W) (h2 : W.heap[w.heap.size]? = some (.cells #[.int .i64 p.lo, .int .i64 p.hi, rv, cv] 98 (0, 0))) (h3 : Marks W (w.heap.size + 2) W.heap.size ds)
    (h4 : W.heap[w.heap.size + 1]? = some (.cells #[.int .i64 p.lo, .int .i64 p.hi, rv, cv, av] 221 (0, 0))) (h5 : W.ownsRow (w.heap.size + 2) 210 1 av k ((List.range k).map svs)) (h6 : ∀ j, j < k → RS W (w.heap.size + 2) (svs j) (p.allow j))
    (hf : Fr (fun q => q = w.heap.size + 1 ∨ av.ownBlock = some q) W W') (hF : W'.heap[w.heap.size + 1]? = some (.cells #[.int .i64 p.lo, .int .i64 p.hi, rv, cv, av'] 221 (0, 0)))
    (ho : W'.ownsRow (w.heap.size + 2) 210 1 av' (k + 1) ((List.range k).map svs ++ [lv])) (hl : RS W' (w.heap.size + 2) lv (p.allow k))
    (hD : W.heap.size ≤ D) (hD' : W'.heap[D]? = some (.deferred (some []))) : FI w p rv cv (k + 1) ({ target := .collected D, args := #[] } :: ds) W' := by
  have hav : ∀ q, av.ownBlock = some q → w.heap.size + 2 ≤ q ∧ ∃ cur, W.heap[q]? = some (.cells cur 210 (0, 0)) := fun q hq => by
    rcases h5.2 with ⟨rfl, _⟩ | ⟨g, cap, cur, rfl, hg, hc, _⟩
    · cases hq
    · cases hq; exact ⟨hg, cur, hc⟩
  have hs2 := (Array.getElem?_eq_some_iff.1 h4).1
  refine ⟨h1.trans (hf.low (by omega) ?_), ?_, ?_, av', fun j => if j < k then svs j else lv, hF, ?_, ?_⟩
  · rintro q hq (rfl | h)
    · omega
    · have := (hav q h).1; omega
  · refine (hf.block _ (by omega) ?_).trans h2
    rintro (h | h)
    · omega
    · have := (hav _ h).1; omega
  · refine ⟨D, by omega, (Array.getElem?_eq_some_iff.1 hD').1, rfl, hD', Marks.mono ds h3 hD (fun E hE hd => (hf.block E hE ?_).trans hd)⟩
    rintro (rfl | h)
    · rw [h4] at hd; cases hd
    · obtain ⟨_, cur, hc⟩ := hav _ h; rw [hc] at hd; cases hd
  · have e : (List.range (k + 1)).map (fun j => if j < k then svs j else lv) = (List.range k).map svs ++ [lv] := by
      rw [List.range_succ, List.map_append]
      congr 1
      · exact List.map_congr_left fun j hj => by rw [if_pos (by simpa using hj)]
      · simp
    rw [e]; exact ho
  · intro j hj
    by_cases hjk : j < k
    · simp only [if_pos hjk]
      refine (h6 j hjk).fr hf ?_
      rintro g cur _ hg hc (rfl | h)
      · omega
      · obtain ⟨_, cur', hc'⟩ := hav _ h; rw [hc] at hc'; injection hc' with e; injection e with _ e2; exact absurd e2 (by decide)
    · obtain rfl : j = k := by omega
      simp only [if_neg hjk]; exact hl
/-- What the file of a person is. -/
def FileAt (W : World) (F : Nat) (p : Pers) : Prop :=
  ∃ rv cv av svs, W.heap[F]? = some (.cells #[.int .i64 p.lo, .int .i64 p.hi, rv, cv, av] 221 (0, 0)) ∧ (∃ a cap, cv = .slice a p.nc cap) ∧ W.ownsRow 0 210 1 av p.nc ((List.range p.nc).map svs) ∧ ∀ j, j < p.nc → RS W 0 (svs j) (p.allow j)
def GivesFile (w : World) (p : Pers) (e : Ending) (w' : World) : Prop := ∃ F, e = .returned (.pointer (some ⟨F, 0, none⟩)) ∧ FileAt w' F p ∧ Below w.heap.size w w'
/-- In the rounds over the ages of a record. -/
def YI (Bl : Nat) (day : Int) (Wb : World) (pre : List BR) (W : World) : Prop :=
  ∃ lv, W.heap[Bl]? = some (.cells #[lv] 210 (0, 0)) ∧ RS W Wb.heap.size lv (foldR day pre) ∧ Fr (fun q => q = Bl) Wb W
theorem YI.own (Bl : Nat) (day : Int) (Wb : World) : OwnFrom Wb.heap.size (YI Bl day Wb) := by
  rintro s W W' row ⟨lv, h1, h2, h3⟩ hg hr
  have hne : ∀ q c t fr, W.heap[q]? = some (.cells c t fr) → ¬ row = some q := fun q c t fr hq e => by
    obtain ⟨_, o, ho, hc⟩ := hr q e; rw [hq] at ho; cases ho; cases hc
  have hg' := Fr.grown hg
  refine ⟨lv, (hg'.block _ (Array.getElem?_eq_some_iff.1 h1).1 (hne _ _ _ _ h1)).trans h1, h2.fr hg' (fun g cur _ _ hc => hne _ _ _ _ hc), ?_⟩
  refine ⟨hg'.os.trans h3.os, hg'.tape.trans h3.tape, hg'.output.trans h3.output, Nat.le_trans h3.size hg'.size, fun q hq he => ?_⟩
  exact (hg'.block q (Nat.lt_of_lt_of_le hq h3.size) (fun e => by have := (hr q e).1; omega)).trans (h3.block q hq he)
end Go.Proofs.YtgbdbikjckfgmaaGreat
namespace Go.Proofs.YtgbdbikjckfgmaaGreat
open Go.RowKit Go.Shelf
theorem ownB_of {W : World} {Bl : Nat} {v : Value} {t : TypeId} {fr : Nat × Nat} (h : W.heap[Bl]? = some (.cells #[v] t fr)) : ownB W Bl = v.ownBlock := by
  unfold ownB; rw [cell_of_row W Bl 0 _ _ _ h]; rfl
theorem set_one {W : World} {Bl : Nat} {v u : Value} {t : TypeId} (h : W.heap[Bl]? = some (.cells #[v] t (0, 0))) : (W.setCell ⟨Bl, 0, none⟩ u).heap[Bl]? = some (.cells #[u] t (0, 0)) := by
  simp [World.setCell, Array.getElem?_modify, h]
theorem YI.step {Bl : Nat} {day : Int} {Wb W W2 : World} {pre : List BR} {x : BR} {lv v' : Value} (hBl : Bl < Wb.heap.size)
    (h1 : W.heap[Bl]? = some (.cells #[lv] 210 (0, 0))) (h2 : RS W Wb.heap.size lv (foldR day pre)) (h3 : Fr (fun q => q = Bl) Wb W)
    (g1 : RS W2 Wb.heap.size v' (ext (foldR day pre) (day - 365 * x.1.2 - 364) (day - 365 * x.1.1))) (g2 : W.grownBy W2 lv.ownBlock) (g3 : v'.ownBlock = lv.ownBlock ∨ ∀ k, v'.ownBlock = some k → W.heap.size ≤ k) :
    KeepsOthers W (W2.setCell ⟨Bl, 0, none⟩ v') ∧ Kp Bl W (W2.setCell ⟨Bl, 0, none⟩ v') ∧ YI Bl day Wb (pre ++ [x]) (W2.setCell ⟨Bl, 0, none⟩ v') := by
  have hl : ∀ q, lv.ownBlock = some q → Wb.heap.size ≤ q ∧ ∃ cur, W.heap[q]? = some (.cells cur 94 (0, 0)) := fun q hq => by
    rcases h2.2 with ⟨rfl, _⟩ | ⟨g, cap, cur, rfl, hg, hc, _⟩
    · cases hq
    · cases hq; exact ⟨hg, cur, hc⟩
  have hsB := (Array.getElem?_eq_some_iff.1 h1).1
  have k1 : W2.heap[Bl]? = some (.cells #[lv] 210 (0, 0)) := (g2.block _ hsB (fun e => by have := (hl _ e.symm).1; omega)).trans h1
  have f1 := Fr.grown g2
  have f2 := Fr.set W2 Bl 0 v'
  have k2 := set_one (u := v') k1
  have f : Fr (fun q => q = Bl ∨ lv.ownBlock = some q) W (W2.setCell ⟨Bl, 0, none⟩ v') := (f1.mono (fun _ _ h => .inr h)).trans (f2.mono (fun _ _ h => .inl h))
  refine ⟨⟨f.size, fun k o hk ho => ?_⟩, ⟨f.os, f.tape, f.output, f.size, fun k c t fr hk hne hno => ?_, ?_⟩, v', k2, ?_, ?_⟩
  · refine (f.block k (Array.getElem?_eq_some_iff.1 hk).1 ?_).trans hk
    rintro (rfl | h)
    · rw [h1] at hk; cases hk; cases ho
    · obtain ⟨_, cur, hc⟩ := hl _ h; rw [hc] at hk; cases hk; cases ho
  · refine (f.block k (Array.getElem?_eq_some_iff.1 hk).1 ?_).trans hk
    rintro (rfl | h)
    · exact hne rfl
    · exact hno (by rw [ownB_of h1]; exact h)
  · rw [ownB_of k2, ownB_of h1]; exact g3
  · rw [foldR_snoc]
    refine g1.fr f2 ?_
    rintro g cur hg hb _ rfl
    omega
  · refine ⟨f.os.trans h3.os, f.tape.trans h3.tape, f.output.trans h3.output, Nat.le_trans h3.size f.size, fun q hq he => ?_⟩
    refine (f.block q (Nat.lt_of_lt_of_le hq h3.size) ?_).trans (h3.block q hq he)
    rintro (h | h)
    · exact he h
    · have := (hl _ h).1; omega
theorem Pers.ok_facts {p : Pers} (h : p.fault = 0) : p.nr ≤ 4 ∧ p.nc ≤ 8 ∧ 0 < p.nr ∧ -50000 ≤ p.lo ∧ p.lo ≤ 50000 ∧ -50000 ≤ p.hi ∧ p.hi ≤ 50000 ∧ p.lo ≤ p.hi ∧ (∀ j, j < p.nr → (p.R j).ok = true) ∧ ∀ j, j < p.nc → (p.C j).ok p.nr = true := by
  unfold Pers.fault errOf at h
  split at h
  · cases h
  · split at h
    · rename_i h1 h2
      simp only [Pers.okAll, allB, inB, Bool.and_eq_true, List.all_eq_true, List.mem_range, decide_eq_true_eq, Bool.not_eq_true', beq_eq_false_iff_ne] at h2
      exact ⟨by omega, by omega, by omega, by omega, by omega, by omega, by omega, by omega, h2.1.2, h2.2⟩
    · cases h
theorem Rc.ok_facts {r : Rc} {nr : Nat} (h : r.ok nr = true) : -50000 ≤ r.day ∧ r.day ≤ 50000 ∧ 0 ≤ r.rule ∧ r.rule < nr ∧ 0 ≤ r.num ∧ r.num ≤ 140 := by
  simp only [Rc.ok, inB, Bool.and_eq_true, decide_eq_true_eq] at h; omega
theorem FileAt.put {W : World} {F l : Nat} {p : Pers} {o o' : Obj} (h : FileAt W F p) (hl : W.heap[l]? = some o) (ho : o.isCells = false) : FileAt (W.putObj l o') F p := by
  obtain ⟨rv, cv, av, svs, h1, h2, h3, h4⟩ := h
  have hne : ∀ q c t fr, W.heap[q]? = some (.cells c t fr) → ¬ q = l := fun q c t fr hq e => by
    subst e; rw [hq] at hl; cases hl; cases ho
  exact ⟨rv, cv, av, svs, ((Fr.put W l o').block _ (Array.getElem?_eq_some_iff.1 h1).1 (hne _ _ _ _ h1)).trans h1, h2, own_fr h3 (Fr.put W l o') (fun _ _ _ _ hc => hne _ _ _ _ hc), fun j hj => (h4 j hj).fr (Fr.put W l o') (fun _ _ _ _ hc => hne _ _ _ _ hc)⟩
/-- A part that never leaves but at its end. -/
theorem wp_calm {P : Program} {c : Code} {Q : Exit → Act → World → Prop} {a : Act} {w : World} (h : c.wp P (Exit.then (fun a w => Q .normal a w) (fun _ _ _ => False)) a w) : c.wp P Q a w :=
  wp_mono h fun e a w hq => by cases e <;> first | exact hq | exact hq.elim
theorem FI.appended {w : World} {p : Pers} {rv cv : Value} {k : Nat} {ds : List Deferred} {W W5 X w1 : World} {av av' lv : Value} {svs : Nat → Value} {D B : Nat}
    (h1 : Below w.heap.size w W) (h2 : W.heap[w.heap.size]? = some (.cells #[.int .i64 p.lo, .int .i64 p.hi, rv, cv] 98 (0, 0))) (h3 : Marks W (w.heap.size + 2) W.heap.size ds)
    (h4 : W.heap[w.heap.size + 1]? = some (.cells #[.int .i64 p.lo, .int .i64 p.hi, rv, cv, av] 221 (0, 0))) (h5 : W.ownsRow (w.heap.size + 2) 210 1 av k ((List.range k).map svs)) (h6 : ∀ j, j < k → RS W (w.heap.size + 2) (svs j) (p.allow j))
    (hB5 : Below W.heap.size W W5) (hX : Below W5.heap.size W5 X) (hg : X.grownBy w1 av.ownBlock) (hav : ∀ q, av.ownBlock = some q → w.heap.size + 2 ≤ q ∧ q < W.heap.size)
    (hblk : w1.heap[w.heap.size + 1]? = some (.cells #[.int .i64 p.lo, .int .i64 p.hi, rv, cv, av] 221 (0, 0)))
    (ho : w1.ownsRow (w.heap.size + 2) 210 1 av' (k + 1) ((List.range k).map svs ++ [lv])) (hl : RS W5 B lv (p.allow k)) (hBW : W.heap.size ≤ B)
    (hD : B ≤ D) (hD' : W5.heap[D]? = some (.deferred (some []))) : FI w p rv cv (k + 1) ({ target := .collected D, args := #[] } :: ds) (w1.setCell ⟨w.heap.size + 1, 4, none⟩ av') := by
  have hs : w.heap.size + 1 < W.heap.size := (Array.getElem?_eq_some_iff.1 h4).1
  have f3 : Fr (fun q => q = w.heap.size + 1 ∨ av.ownBlock = some q) X w1 := (Fr.grown hg).mono (fun _ _ h => .inr h)
  have f4 : Fr (fun q => q = w.heap.size + 1 ∨ av.ownBlock = some q) w1 (w1.setCell ⟨w.heap.size + 1, 4, none⟩ av') := (Fr.set _ _ _ _).mono (fun _ _ h => .inl h)
  have f5 : Fr (fun q => q = w.heap.size + 1 ∨ av.ownBlock = some q) W5 (w1.setCell ⟨w.heap.size + 1, 4, none⟩ av') := ((Fr.below hX _).trans f3).trans f4
  have hout : ∀ g, W.heap.size ≤ g → ¬ (g = w.heap.size + 1 ∨ av.ownBlock = some g) := by
    rintro g hg (rfl | h)
    · omega
    · have := (hav _ h).2; omega
  refine FI.next h1 h2 h3 h4 h5 h6 ((Fr.below hB5 _).trans f5) ?_ (own_fr ho (Fr.set w1 (w.heap.size + 1) 4 av') ?_) ((hl.fr f5 ?_).mono (by omega)) (by omega) ((f5.block D (Array.getElem?_eq_some_iff.1 hD').1 (hout D (by omega))).trans hD')
  · simp [World.setCell, Array.getElem?_modify, hblk]
  · rintro g cur _ hgb _ rfl; omega
  · intro g cur _ hgb _; exact hout g (by omega)
theorem Tryz.infoRanges : (Tryz.prog.info? 210).map (fun i => (i.zero, i.size, i.bytes)) = some (some (.slice none 0 0), 1, 24) := by kernel_rfl
end Go.Proofs.YtgbdbikjckfgmaaGreat
