/- slices.Contains over ints; Age. | meet: what is in both of two lists of ranges. | file: a person with the days of birth that its records allow. | file: the walk. | days, births, Births. | ProveBirth, Heaping. | A region that draws its order, in a round of a range over a function, at the wide fence. | On: the ages that a person can have on a day. | On: the walk of its loop. -/
import Derived.Test.YtagfcfojfjkmbaaPA
import Derived.Deep.QuietTactic
import Derived.BigQuiet
import Derived.Deep.DeepCutAuto
import Derived.Deep.RegionLaw
import Derived.OrdersIn
import Derived.OrdersHeld
namespace Go.Proofs.Ytagfcfojfjkmbaa
open Go.RowKit

/-- k is one of z 0 .. z (n - 1). -/
def inL (z : Nat → Int) (n : Nat) (k : Int) : Bool := (List.range n).any fun j => k == z j
def IdxIs (z : Nat → Int) (n : Nat) (k : Int) (w : World) (e : Ending) (w' : World) : Prop := ∃ r : Int, e = .returned (.int .i64 r) ∧ decide (0 ≤ r) = inL z n k ∧ w = w'
theorem inL_false {z : Nat → Int} {n : Nat} {k : Int} (h : ∀ q, q < n → (k == z q) = false) : inL z n k = false := by
  simp only [inL, List.any_eq_false, List.mem_range]; intro q hq; simp [h q hq]
theorem inL_true {z : Nat → Int} {n j : Nat} {k : Int} (hj : j < n) (h : (k == z j) = true) : inL z n k = true := by
  simp only [inL, List.any_eq_true, List.mem_range]; exact ⟨j, hj, h⟩

set_option maxHeartbeats 1000000 in
theorem index_nil (x : Int) (w : World) :
    Calls Try.prog 106 #[.slice none 0 0, .int .i64 x] w fun e w' => e = .returned (.int .i64 (-1)) ∧ w = w' := by
  go_enter Try.func106, Try.ntmps106
  go_wp2
  go_loop [8] (fun i => i = .int .i64 0) (fun _ => 0)
  case atStart => rfl
  case round =>
    obtain rfl := hrel
    go_wp2
    go_ret
    exact ⟨rfl, rfl⟩

set_option maxHeartbeats 1000000 in
theorem index_some (b off cap n : Nat) (z : Nat → Int) (x : Int) (w : World) (hlen : n ≤ 100000) (hz : ∀ j, j < n → w.cell? ⟨b, off + j, none⟩ = some (.int .i64 (z j))) :
    Calls Try.prog 106 #[.slice (some ⟨b, off, none⟩) n cap, .int .i64 x] w (IdxIs z n x w) := by
  have HZ := Lib.hid hz; clear hz
  go_enter Try.func106, Try.ntmps106
  go_wp2
  go_loop [8] (fun i => ∃ k : Nat, k ≤ n ∧ i = .int .i64 k ∧ ∀ q, q < k → (x == z q) = false) (fun i => n - (intOf i).toNat)
  case atStart => exact ⟨0, Nat.zero_le _, rfl, fun q h => absurd h (Nat.not_lt_zero _)⟩
  case round =>
    obtain ⟨k, hk, rfl, hall⟩ := hrel
    have HA := Lib.hid hall; clear hall
    by_cases hlt : k < n
    · have hcx := HZ.out k hlt
      cases hin : (x == z k)
      · go_wp2
        go_round
        case rel => exact ⟨k + 1, by omega, by go_num, fun q hq => by rcases Nat.lt_succ_iff_lt_or_eq.1 hq with h | rfl; exact HA.out q h; exact hin⟩
        case measure => simp [intOf]; omega
      · go_wp2
        go_ret
        exact ⟨_, rfl, by rw [inL_true hlt hin]; simp, rfl⟩
    · obtain rfl : k = n := by omega
      go_wp2
      go_ret
      exact ⟨_, rfl, by rw [inL_false HA.out]; rfl, rfl⟩

set_option maxHeartbeats 1000000 in
theorem contains_any (n : Nat) (sv : Value) (z : Nat → Int) (x : Int) (w : World) (hlen : n ≤ 100000) (hz : IntsAt w sv n z) :
    Calls Try.prog 95 #[sv, .int .i64 x] w fun e w' => e = .returned (.bool (inL z n x)) ∧ w = w' := by
  have hI : Calls Try.prog 106 #[sv, .int .i64 x] w (IdxIs z n x w) := by
    rcases hz with ⟨rfl, rfl⟩ | ⟨b, off, cap, rfl, _, hz⟩
    · refine (index_nil x w).mono ?_
      rintro e w' ⟨rfl, rfl⟩
      exact ⟨_, rfl, by simp [inL], rfl⟩
    · exact index_some b off cap n z x w hlen hz
  have HI := Lib.hid hI; clear hI hz
  go_enter Try.func95, Try.ntmps95
  go_wp2_with (go_at_call 106; refine HI.out.mono ?_; rintro e w' ⟨r, rfl, hr, rfl⟩; have HR := Lib.hid hr; clear hr)
  go_ret
  exact ⟨ret_bool HR.out, rfl⟩
end Go.Proofs.Ytagfcfojfjkmbaa

namespace Go.Proofs.Ytagfcfojfjkmbaa
open Go.RowKit

/-- A slice that reads as the ranges l. -/
def RgAt (w : World) (sv : Value) (l : RL) : Prop :=
  (l = [] ∧ ∃ a cap, sv = .slice a 0 cap) ∨ ∃ b off cap, sv = .slice (some ⟨b, off, none⟩) l.length cap ∧ l.length ≤ cap ∧ b < w.heap.size ∧ ∀ j (h : j < l.length), w.cell? ⟨b, off + j * 2, none⟩ = some (.int .i64 l[j].1) ∧ w.cell? ⟨b, off + j * 2 + 1, none⟩ = some (.int .i64 l[j].2)
theorem RgAt.below {w w' : World} {sv : Value} {l : RL} (h : RgAt w sv l) {B : Nat} (hB : Below B w w') (hs : ∀ b off n cap, sv = .slice (some ⟨b, off, none⟩) n cap → l ≠ [] → b < B) : RgAt w' sv l := by
  rcases h with h | ⟨b, off, cap, rfl, hc, hb, hz⟩
  · exact .inl h
  · by_cases hl : l = []
    · subst hl; exact .inl ⟨rfl, _, _, rfl⟩
    · have hbB := hs b off _ _ rfl hl
      exact .inr ⟨b, off, cap, rfl, hc, Nat.lt_of_lt_of_le hb hB.size, fun j hj => ⟨(hB.cell (p := ⟨b, _, none⟩) hbB).trans (hz j hj).1, (hB.cell (p := ⟨b, _, none⟩) hbB).trans (hz j hj).2⟩⟩
theorem RgAt.kept {w w' : World} {sv : Value} {l : RL} (h : RgAt w sv l) (hB : Below w.heap.size w w') : RgAt w' sv l :=
  h.below hB (fun b off n cap e hl => by
    rcases h with ⟨h, _⟩ | ⟨b', off', cap', e', _, hb, _⟩
    · exact absurd h hl
    · rw [e] at e'; cases e'; exact hb)
theorem RgAt.slice {w : World} {sv : Value} {l : RL} (h : RgAt w sv l) : ∃ a cap, sv = .slice a l.length cap := by
  rcases h with ⟨rfl, a, cap, rfl⟩ | ⟨b, off, cap, rfl, _⟩
  · exact ⟨_, _, rfl⟩
  · exact ⟨_, _, rfl⟩
theorem RgAt.cons {w : World} {sv : Value} {x : Int × Int} {l : RL} (h : RgAt w sv (x :: l)) : ∃ b off cap, sv = .slice (some ⟨b, off, none⟩) (l.length + 1) cap ∧ l.length + 1 ≤ cap ∧ b < w.heap.size ∧ w.cell? ⟨b, off, none⟩ = some (.int .i64 x.1) ∧ w.cell? ⟨b, off + 1, none⟩ = some (.int .i64 x.2) ∧ ∀ c, (cap = 1 ∧ c = 0 → RgAt w (.slice (some ⟨b, off, none⟩) l.length c) l) ∧ (cap ≠ 1 ∧ c + 1 = cap → RgAt w (.slice (some ⟨b, off + 2, none⟩) l.length c) l) := by
  rcases h with ⟨h, _⟩ | ⟨b, off, cap, rfl, hc, hb, hz⟩
  · cases h
  · simp only [List.length_cons] at hc hz
    have h0 := hz 0 (by omega)
    simp only [Nat.zero_mul, Nat.add_zero, List.getElem_cons_zero] at h0
    refine ⟨b, off, cap, rfl, hc, hb, h0.1, h0.2, fun c => ⟨fun hcap => ?_, fun hcap => ?_⟩⟩
    · have : l = [] := List.eq_nil_of_length_eq_zero (by omega)
      subst this
      exact .inl ⟨rfl, _, _, rfl⟩
    · refine .inr ⟨b, off + 2, _, rfl, by omega, hb, fun j hj => ?_⟩
      have := hz (j + 1) (by omega)
      rw [show off + (j + 1) * 2 = off + 2 + j * 2 from by omega, List.getElem_cons_succ] at this
      exact this
theorem RS.rg {w : World} {base : Nat} {v : Value} {l : RL} (h : RS w base v l) : RgAt w v l := by
  have h0 := h
  rcases h.2 with ⟨rfl, hl⟩ | ⟨g, cap, cur, rfl, hg, hc, hfit, hcap, _, _⟩
  · have : l = [] := List.eq_nil_of_length_eq_zero (by simpa using hl)
    subst this; exact .inl ⟨rfl, _, _, rfl⟩
  · refine .inr ⟨g, 0, cap, rfl, by first | omega | assumption, (Array.getElem?_eq_some_iff.1 hc).1, fun j hj => ?_⟩
    have hf := flat_get l j hj
    have hl := flat_length l
    unfold RS at h0
    rw [Nat.zero_add, h0.cellAt _ (by omega), h0.cellAt _ (by omega)]
    exact hf

theorem RS.bel {w w' : World} {base : Nat} {v : Value} {l : RL} (h : RS w base v l) (hb : Below w.heap.size w w') : RS w' base v l := by
  unfold RS at *
  refine ⟨h.1, ?_⟩
  rcases h.2 with h | ⟨g, cap, cur, rfl, hg, hc, r⟩
  · exact .inl h
  · exact .inr ⟨g, cap, cur, rfl, hg, (hb.block _ (Array.getElem?_eq_some_iff.1 hc).1).trans hc, r⟩
theorem below_drewS (B : Nat) (w : World) (n : Nat) : Below B w (w.drewN n) := ⟨rfl, rfl, rfl, Nat.le_refl _, fun _ _ => rfl⟩
def lenOf : Value → Nat | .slice _ n _ => n | _ => 0

/-- min and max, not looked into by the walk. -/
def mn (x y : Int) : Int := min x y
def mx (x y : Int) : Int := max x y
theorem smallest_mn (b : Nat) (x y : Int) (w : World) (h0 : w.cell? ⟨b, 0, none⟩ = some (.int .i64 x)) (h1 : w.cell? ⟨b, 1, none⟩ = some (.int .i64 y)) :
    Calls Try.prog 69 #[.slice (some ⟨b, 0, none⟩) 2 2] w fun e w' => e = .returned (.int .i64 (mn x y)) ∧ w = w' := smallest_any b x y w h0 h1
theorem mx_lt {x y : Int} (h : x < y) : mx x y = y := by unfold mx; omega
theorem mx_ge {x y : Int} (h : ¬ x < y) : mx x y = x := by unfold mx; omega

/-- Where the loop stands. -/
def MeetAt (w : World) (a b : RL) (v0 v1 v4 : Value) (wr : World) : Prop :=
  ∃ a' b' o : RL, o ++ meetL a' b' = meetL a b ∧ a'.length ≤ a.length ∧ b'.length ≤ b.length ∧ RgAt w v0 a' ∧ RgAt w v1 b' ∧ RS wr w.heap.size v4 o ∧ Below w.heap.size w wr

theorem meet_app {a b a' b' o : RL} (h : o ++ meetL a' b' = meetL a b) : o.length ≤ a.length + b.length := by
  have := congrArg List.length h
  have h2 := meetL_length _ a b (Nat.le_refl _)
  simp at this; omega

attribute [local go_sem ↓] Go.wp_at_zero Go.wp_at_succ
set_option maxRecDepth 100000 in
set_option maxHeartbeats 4000000 in
theorem meet_any (va vb : Value) (a b : RL) (w : World) (ha : RgAt w va a) (hb : RgAt w vb b) (la : a.length ≤ 10000) (lb : b.length ≤ 10000) :
    Calls Try.prog 96 #[va, vb] w (Gives w w.heap.size (meetL a b)) := by
  obtain ⟨i0, hi0, hz0, hz1, hz2⟩ := info_parts Try.infoRange
  have HM : MeetAt w a b va vb (.slice none 0 0) w := ⟨a, b, [], rfl, Nat.le_refl _, Nat.le_refl _, ha, hb, World.ownsRow_nil _ _ _ _, Below.refl _ _⟩
  clear ha hb
  go_enter Try.func96, Try.ntmps96
  go_wp2
  go_loopw [0, 1, 4] (fun v0 v1 v4 wr => MeetAt w a b v0 v1 v4 wr) (fun v0 v1 _ _ => lenOf v0 + lenOf v1)
  case atStart => exact HM
  case round =>
    clear HM
    obtain ⟨a', b', o, he, ha', hb', h0, h1, h4, hB⟩ := hrel
    have hol := meet_app he
    have HE := Lib.hid he; clear he
    have H4 := Lib.hid h4; clear h4
    have HB := Lib.hid hB; clear hB
    have H0 := Lib.hid h0
    have H1 := Lib.hid h1
    cases a' with
    | nil =>
      obtain ⟨s, cap, rfl⟩ := h0.slice
      clear h0 h1
      go_wp2
      go_ret
      exact ⟨_, rfl, by have := HE.out; rw [meetL_nil_left, List.append_nil] at this; rw [← this]; exact H4.out, HB.out⟩
    | cons x a' =>
      obtain ⟨ba, oa, ca, rfl, hca, hba, x1, x2, ta⟩ := h0.cons
      have TA := Lib.hid ta; clear ta
      cases b' with
      | nil =>
        obtain ⟨s, cap, rfl⟩ := h1.slice
        clear h0 h1
        go_wp2
        go_ret
        exact ⟨_, rfl, by have := HE.out; rw [meetL_nil_right, List.append_nil] at this; rw [← this]; exact H4.out, HB.out⟩
      | cons y b' =>
        obtain ⟨bb, ob, cb, rfl, hcb, hbb, y1, y2, tb⟩ := h1.cons
        have TB := Lib.hid tb; clear tb
        clear h0 h1
        obtain ⟨xl, xh⟩ := x
        obtain ⟨yl, yh⟩ := y
        simp only [List.length_cons] at ha' hb' x1 x2 y1 y2
        have X1 := Lib.hid x1; have X2 := Lib.hid x2; have Y1 := Lib.hid y1; have Y2 := Lib.hid y2
        have c1 : wr.cell? ⟨ba, oa, none⟩ = some (.int .i64 xl) := (HB.out.cell (p := ⟨ba, _, none⟩) hba).trans x1
        have c2 : wr.cell? ⟨ba, oa + 1, none⟩ = some (.int .i64 xh) := (HB.out.cell (p := ⟨ba, _, none⟩) hba).trans x2
        have c3 : wr.cell? ⟨bb, ob, none⟩ = some (.int .i64 yl) := (HB.out.cell (p := ⟨bb, _, none⟩) hbb).trans y1
        have c4 : wr.cell? ⟨bb, ob + 1, none⟩ = some (.int .i64 yh) := (HB.out.cell (p := ⟨bb, _, none⟩) hbb).trans y2
        clear x1 x2 y1 y2
        have hbs := HB.out.size
        go_upto_region 2 with fail
        go_cut [5, 6] (fun s5 s6 wx => s5 = .int .i64 (mx xl yl) ∧ s6 = .int .i64 (mn xh yh) ∧ Below wr.heap.size wr wx)
        case first =>
          have cl : (xl < yl ∧ mx xl yl = yl) ∨ (¬ xl < yl ∧ mx xl yl = xl) := by
            by_cases h : xl < yl
            · exact .inl ⟨h, mx_lt h⟩
            · exact .inr ⟨h, mx_ge h⟩
          have ea := World.new_ne wr ⟨ba, oa + 1, none⟩ c2
          rcases cl with ⟨hxy, hm⟩ | ⟨hxy, hm⟩
          all_goals
            have HMX := Lib.hid hm; clear hm
            go_region_held3 (fun w' => w'.cell? ⟨ba, oa, none⟩ = some (.int .i64 xl) ∧ w'.cell? ⟨ba, oa + 1, none⟩ = some (.int .i64 xh) ∧ w'.cell? ⟨bb, ob, none⟩ = some (.int .i64 yl) ∧ w'.cell? ⟨bb, ob + 1, none⟩ = some (.int .i64 yh)) (go_keep)
              (first | (go_at_call 69; refine (smallest_mn _ xh yh _ ?_ ?_).mono ?_; (simp [*]); (simp [*]); rintro e w' ⟨rfl, rfl⟩))
            all_goals
              go_wp2_with fail
              go_meet
              exact ⟨(show Value.int .i64 _ = _ from by rw [HMX.out]), rfl, by first | exact (below_alloc _ _).drew | exact (Below.refl _ _).drew.alloc (by simp) _⟩
        case rest =>
          obtain ⟨rfl, rfl, hbx⟩ := hcut
          have hB1 := HB.out.trans (hbx.mono hbs)
          have h4 : RS wc w.heap.size u4 o := RS.bel H4.out hbx
          have HB1 := Lib.hid hB1; clear hB1
          have HO := Lib.hid h4; clear h4 hbx
          have hcs := HB1.out.size
          have hlen : o.length ≤ 30000 := by omega
          by_cases hlow : mx xl yl ≤ mn xh yh
          · have hout : Hid (o ++ [(mx xl yl, mn xh yh)] ++ (if xh < yh then meetL a' ((yl, yh) :: b') else meetL ((xl, xh) :: a') b') = meetL a b) := by
              have h := HE.out
              rw [meetL_cons] at h
              simp only at h
              rw [if_pos (show max xl yl ≤ min xh yh from hlow), ← List.append_assoc] at h
              exact h
            go_upto_region 5 with (at_builtin; refine wpList_append_own _ rfl _ _ 38 rfl w.heap.size 41 i0 (.agg #[.int .i64 0, .int .i64 0]) 2 16 Try.underlying38 hi0 hz0 hz1 hz2 rfl (by decide) u4 o.length (flat o) rfl (World.ownsRow.alloc HO.out _) ⟨wc.heap.size, 0, none⟩ 1 1 [.int .i64 (mx xl yl), .int .i64 (mn xh yh)] rfl rfl ?c1 ?c2 ?c3 ?c4 ?c5 ?_)
            case c1 => exact World.news_of_block (heap_alloc_new wc _)
            case c2 => simp [Value.oneCell']
            case c3 => unfold maxLen; omega
            case c4 => omega
            case c5 => simp; omega
            intro v' w1 h1 h2 _
            have hB2 : Below w.heap.size w w1 := (HB1.out.trans ((below_alloc wc _).mono hcs)).grown h2 (by simp; omega) (fun k hk => (HO.out.own k hk).1)
            have HR : Hid (RS w1 w.heap.size v' (o ++ [(mx xl yl, mn xh yh)])) := by
              unfold Hid RS; rw [flat_append]; simpa [flat] using h1
            have HB2 := Lib.hid hB2; clear h1 h2 hB2
            have d2 : w1.cell? ⟨ba, oa + 1, none⟩ = some (.int .i64 xh) := (HB2.out.cell (p := ⟨ba, _, none⟩) hba).trans X2.out
            have d4 : w1.cell? ⟨bb, ob + 1, none⟩ = some (.int .i64 yh) := (HB2.out.cell (p := ⟨bb, _, none⟩) hbb).trans Y2.out
            clear c1 c2 c3 c4
            by_cases hxy : xh < yh
            · by_cases hcap : ca = 1
              all_goals
                go_wp2
                go_quiet (fail)
                go_wp2
                go_roundw
                case rel =>
                  refine ⟨a', (yl, yh) :: b', o ++ [(mx xl yl, mn xh yh)], by have h := hout.out; rw [if_pos hxy] at h; exact h, by omega, by simp; omega, ?_, H1.out, RS.bel HR.out (below_drewS _ _ _), HB2.out.trans (below_drewS _ _ _)⟩
                  first | exact (TA.out _).1 ⟨hcap, by omega⟩ | exact (TA.out _).2 ⟨hcap, by omega⟩
                case measure => simp [lenOf]
            · by_cases hcap : cb = 1
              all_goals
                go_wp2
                go_quiet (fail)
                go_wp2
                go_roundw
                case rel =>
                  refine ⟨(xl, xh) :: a', b', o ++ [(mx xl yl, mn xh yh)], by have h := hout.out; rw [if_neg (by omega)] at h; exact h, by simp; omega, by omega, H0.out, ?_, RS.bel HR.out (below_drewS _ _ _), HB2.out.trans (below_drewS _ _ _)⟩
                  first | exact (TB.out _).1 ⟨hcap, by omega⟩ | exact (TB.out _).2 ⟨hcap, by omega⟩
                case measure => simp [lenOf]
          · have hout : Hid (o ++ (if xh < yh then meetL a' ((yl, yh) :: b') else meetL ((xl, xh) :: a') b') = meetL a b) := by
              have h := HE.out
              rw [meetL_cons] at h
              simp only at h
              rw [if_neg (show ¬ max xl yl ≤ min xh yh from hlow), List.nil_append] at h
              exact h
            have d2 : wc.cell? ⟨ba, oa + 1, none⟩ = some (.int .i64 xh) := (HB1.out.cell (p := ⟨ba, _, none⟩) hba).trans X2.out
            have d4 : wc.cell? ⟨bb, ob + 1, none⟩ = some (.int .i64 yh) := (HB1.out.cell (p := ⟨bb, _, none⟩) hbb).trans Y2.out
            clear c1 c2 c3 c4
            by_cases hxy : xh < yh
            · by_cases hcap : ca = 1
              all_goals
                go_wp2
                go_quiet (fail)
                go_wp2
                go_roundw
                case rel =>
                  refine ⟨a', (yl, yh) :: b', o, by have h := hout.out; rw [if_pos hxy] at h; exact h, by omega, by simp; omega, ?_, H1.out, RS.bel HO.out (below_drewS _ _ _), HB1.out.trans (below_drewS _ _ _)⟩
                  first | exact (TA.out _).1 ⟨hcap, by omega⟩ | exact (TA.out _).2 ⟨hcap, by omega⟩
                case measure => simp [lenOf]
            · by_cases hcap : cb = 1
              all_goals
                go_wp2
                go_quiet (fail)
                go_wp2
                go_roundw
                case rel =>
                  refine ⟨(xl, xh) :: a', b', o, by have h := hout.out; rw [if_neg (by omega)] at h; exact h, by simp; omega, by omega, H0.out, ?_, RS.bel HO.out (below_drewS _ _ _), HB1.out.trans (below_drewS _ _ _)⟩
                  first | exact (TB.out _).1 ⟨hcap, by omega⟩ | exact (TB.out _).2 ⟨hcap, by omega⟩
                case measure => simp [lenOf]
end Go.Proofs.Ytagfcfojfjkmbaa

namespace Go.Proofs.Ytagfcfojfjkmbaa
open Go.RowKit Go.Shelf

/-- The days of birth that some ages allow on a day, the greatest ages first. -/
def foldR (day : Int) (xs : List BR) : RL := xs.foldl (fun l x => ext l (day - 365 * x.1.2 - 364) (day - 365 * x.1.1)) []
theorem foldR_snoc (day : Int) (xs : List BR) (x : BR) : foldR day (xs ++ [x]) = ext (foldR day xs) (day - 365 * x.1.2 - 364) (day - 365 * x.1.1) := by simp [foldR]
def Pers.rl (p : Pers) (j : Nat) : Rl := p.R (p.C j).rule.toNat
def Pers.allow (p : Pers) (j : Nat) : RL := foldR (p.C j).day (yearsL (ageRs (p.rl j).f (p.rl j).b (p.rl j).m (p.rl j).e (p.C j).num))

theorem ext_bdS (l : RL) (lo hi B : Int) (h : ∀ r ∈ l, -B ≤ r.1 ∧ r.1 ≤ B ∧ -B ≤ r.2 ∧ r.2 ≤ B) (h0 : -B ≤ lo) (h1 : lo ≤ B) (h2 : -B ≤ hi) (h3 : hi ≤ B) : ∀ r ∈ ext l lo hi, -B ≤ r.1 ∧ r.1 ≤ B ∧ -B ≤ r.2 ∧ r.2 ≤ B := by
  intro r hr
  rcases List.eq_nil_or_concat l with rfl | ⟨l0, ⟨a, b⟩, rfl⟩
  · simp [ext] at hr; subst hr; exact ⟨h0, h1, h2, h3⟩
  · rw [List.concat_eq_append] at *
    have hb := h (a, b) (by simp)
    simp only at hb
    have he : ext (l0 ++ [(a, b)]) lo hi = if lo ≤ b + 1 then l0 ++ [(a, max b hi)] else (l0 ++ [(a, b)]) ++ [(lo, hi)] := by simp [ext]
    rw [he] at hr
    split at hr
    · rcases List.mem_append.1 hr with h4 | h4
      · exact h r (by simp [h4])
      · simp at h4; subst h4; simp only; omega
    · rcases List.mem_append.1 hr with h4 | h4
      · exact h r h4
      · simp at h4; subst h4; exact ⟨h0, h1, h2, h3⟩
theorem foldR_facts (day : Int) (h1 : -50000 ≤ day) (h2 : day ≤ 50000) (n : Nat) : ∀ xs : List BR, xs.length = n → (foldR day xs).length ≤ n ∧ ∀ r ∈ foldR day xs, -900000000 ≤ r.1 ∧ r.1 ≤ 900000000 ∧ -900000000 ≤ r.2 ∧ r.2 ≤ 900000000 := by
  induction n with
  | zero => intro xs hx; have : xs = [] := List.eq_nil_of_length_eq_zero hx
            subst this; simp [foldR]
  | succ n ih =>
    intro xs hx
    rcases List.eq_nil_or_concat xs with rfl | ⟨l0, x, rfl⟩
    · simp at hx
    · rw [List.concat_eq_append] at *
      obtain ⟨i1, i2⟩ := ih l0 (by simpa using hx)
      rw [foldR_snoc]
      have hb := x.2
      refine ⟨by have := ext_length (foldR day l0) (day - 365 * x.1.2 - 364) (day - 365 * x.1.1); omega, ext_bdS _ _ _ _ i2 (by omega) (by omega) (by omega) (by omega)⟩

/-- Worlds that agree but for some blocks and new ones. -/
structure Fr (ex : Nat → Prop) (W W' : World) : Prop where
  os : W'.os = W.os
  tape : W'.tape = W.tape
  output : W'.output = W.output
  size : W.heap.size ≤ W'.heap.size
  block : ∀ k, k < W.heap.size → ¬ ex k → W'.heap[k]? = W.heap[k]?
theorem Fr.refl (ex : Nat → Prop) (W : World) : Fr ex W W := ⟨rfl, rfl, rfl, Nat.le_refl _, fun _ _ _ => rfl⟩
theorem Fr.trans {ex : Nat → Prop} {A B C : World} (h : Fr ex A B) (k : Fr ex B C) : Fr ex A C :=
  ⟨k.os.trans h.os, k.tape.trans h.tape, k.output.trans h.output, Nat.le_trans h.size k.size, fun q hq he => (k.block q (Nat.lt_of_lt_of_le hq h.size) he).trans (h.block q hq he)⟩
theorem Fr.mono {ex ex' : Nat → Prop} {A B : World} (h : Fr ex A B) (hx : ∀ k, k < A.heap.size → ex k → ex' k) : Fr ex' A B :=
  ⟨h.os, h.tape, h.output, h.size, fun q hq he => h.block q hq (fun e => he (hx q hq e))⟩
theorem Fr.below {A B : World} (h : Below A.heap.size A B) (ex : Nat → Prop) : Fr ex A B := ⟨h.os, h.tape, h.output, h.size, fun q hq _ => h.block q hq⟩
theorem Fr.grown {A B : World} {row : Option Nat} (h : A.grownBy B row) : Fr (fun k => row = some k) A B := ⟨h.os, h.tape, h.output, h.size, fun q hq he => h.block q hq (fun e => he e.symm)⟩
theorem Fr.put (A : World) (l : Nat) (o : Obj) : Fr (fun k => k = l) A (A.putObj l o) := ⟨rfl, rfl, rfl, by simp, fun _ _ he => World.putObj_heap_other he⟩
theorem Fr.set (A : World) (b : Nat) (off : Nat) (v : Value) : Fr (fun k => k = b) A (A.setCell ⟨b, off, none⟩ v) := by
  refine ⟨rfl, rfl, rfl, by simp, fun k hk he => ?_⟩
  simp only [World.setCell]
  rw [Array.getElem?_modify, if_neg (fun e => he e.symm)]
theorem Fr.low {ex : Nat → Prop} {A B : World} {n : Nat} (h : Fr ex A B) (hn : n ≤ A.heap.size) (hx : ∀ k, k < n → ¬ ex k) : Below n A B := ⟨h.os, h.tape, h.output, h.size, fun q hq => h.block q (by omega) (hx q hq)⟩

/-- The marks of loops that are over, on the way out: the last one first. -/
def Marks (W : World) (B : Nat) : Nat → List Deferred → Prop
  | _, [] => True
  | U, d :: ds => ∃ D, B ≤ D ∧ D < U ∧ d = { target := .collected D, args := #[] } ∧ W.heap[D]? = some (.deferred (some [])) ∧ Marks W B D ds
theorem Marks.mono {W W' : World} {B : Nat} : ∀ (ds : List Deferred) {U U' : Nat}, Marks W B U ds → U ≤ U' → (∀ D, D < U → W.heap[D]? = some (.deferred (some [])) → W'.heap[D]? = some (.deferred (some []))) → Marks W' B U' ds
  | [], _, _, _, _, _ => trivial
  | _ :: ds, _, _, ⟨D, h1, h2, h3, h4, h5⟩, hU, hk => ⟨D, h1, by omega, h3, hk D h2 h4, Marks.mono ds h5 (Nat.le_refl _) (fun E hE => hk E (by omega))⟩
theorem leaves_marks {P : Program} {n : Nat} {fn : Func} {tmps : Array Value} {R : Ending → World → Prop} {B : Nat} (I : World → Prop)
    (hI : ∀ W l o', I W → B ≤ l → W.heap[l]? = some (.deferred (some [])) → I (W.putObj l o')) (hend : ∀ W, I W → LeavesInM Fence.wide n P fn tmps R [] .returning W) :
    ∀ (ds : List Deferred) (U : Nat) (W : World), Marks W B U ds → I W → LeavesInM Fence.wide n P fn tmps R ds .returning W
  | [], _, W, _, hw => hend W hw
  | _ :: ds, _, W, ⟨D, h1, h2, h3, h4, h5⟩, hw => by
    subst h3
    refine ⟨by simp, .inl ⟨_, _, rfl, run_takeDeferred h4, ?_⟩⟩
    refine leaves_marks I hI hend ds D _ (Marks.mono ds h5 (Nat.le_refl _) (fun E hE hd => ?_)) (hI W D _ hw h1 h4)
    rw [World.putObj_heap_other (by omega)]; exact hd

/-- Before the k-th record. -/
def FI (w : World) (p : Pers) (rv cv : Value) (k : Nat) (ds : List Deferred) (W : World) : Prop :=
  Below w.heap.size w W ∧ W.heap[w.heap.size]? = some (.cells #[.int .i64 p.lo, .int .i64 p.hi, rv, cv] 45 (0, 0)) ∧ Marks W (w.heap.size + 2) W.heap.size ds ∧
  ∃ av svs, W.heap[w.heap.size + 1]? = some (.cells #[.int .i64 p.lo, .int .i64 p.hi, rv, cv, av] 124 (0, 0)) ∧ W.ownsRow (w.heap.size + 2) 38 1 av k ((List.range k).map svs) ∧ ∀ j, j < k → RS W (w.heap.size + 2) (svs j) (p.allow j)

theorem RS.fr {ex : Nat → Prop} {W W' : World} {base : Nat} {v : Value} {l : RL} (h : RS W base v l) (hf : Fr ex W W') (hx : ∀ g cur, v.ownBlock = some g → base ≤ g → W.heap[g]? = some (.cells cur 41 (0, 0)) → ¬ ex g) : RS W' base v l := by
  unfold RS at *
  refine ⟨h.1, ?_⟩
  rcases h.2 with h | ⟨g, cap, cur, rfl, hg, hc, r⟩
  · exact .inl h
  · exact .inr ⟨g, cap, cur, rfl, hg, (hf.block _ (Array.getElem?_eq_some_iff.1 hc).1 (hx g cur rfl hg hc)).trans hc, r⟩

theorem FI.next {w : World} {p : Pers} {rv cv : Value} {k : Nat} {ds : List Deferred} {W W' : World} {av av' lv : Value} {svs : Nat → Value} {D : Nat}
    (h1 : Below w.heap.size w W) (h2 : W.heap[w.heap.size]? = some (.cells #[.int .i64 p.lo, .int .i64 p.hi, rv, cv] 45 (0, 0))) (h3 : Marks W (w.heap.size + 2) W.heap.size ds)
    (h4 : W.heap[w.heap.size + 1]? = some (.cells #[.int .i64 p.lo, .int .i64 p.hi, rv, cv, av] 124 (0, 0))) (h5 : W.ownsRow (w.heap.size + 2) 38 1 av k ((List.range k).map svs)) (h6 : ∀ j, j < k → RS W (w.heap.size + 2) (svs j) (p.allow j))
    (hf : Fr (fun q => q = w.heap.size + 1 ∨ av.ownBlock = some q) W W') (hF : W'.heap[w.heap.size + 1]? = some (.cells #[.int .i64 p.lo, .int .i64 p.hi, rv, cv, av'] 124 (0, 0)))
    (ho : W'.ownsRow (w.heap.size + 2) 38 1 av' (k + 1) ((List.range k).map svs ++ [lv])) (hl : RS W' (w.heap.size + 2) lv (p.allow k))
    (hD : W.heap.size ≤ D) (hD' : W'.heap[D]? = some (.deferred (some []))) : FI w p rv cv (k + 1) ({ target := .collected D, args := #[] } :: ds) W' := by
  have hav : ∀ q, av.ownBlock = some q → w.heap.size + 2 ≤ q ∧ ∃ cur, W.heap[q]? = some (.cells cur 38 (0, 0)) := fun q hq => by
    rcases h5.2 with ⟨rfl, _⟩ | ⟨g, cap, cur, rfl, hg, hc, _⟩
    · cases hq
    · cases hq; exact ⟨hg, cur, hc⟩
  have hs2 := (Array.getElem?_eq_some_iff.1 h4).1
  refine ⟨h1.trans (hf.low (by omega) ?_), ?_, ?_, av', fun j => if j < k then svs j else lv, hF, ?_, ?_⟩
  · rintro q hq (rfl | h)
    · omega
    · have := (hav q h).1; omega
  · refine (hf.block _ (by omega) ?_).trans h2
    rintro (h | h)
    · omega
    · have := (hav _ h).1; omega
  · refine ⟨D, by omega, (Array.getElem?_eq_some_iff.1 hD').1, rfl, hD', Marks.mono ds h3 hD (fun E hE hd => (hf.block E hE ?_).trans hd)⟩
    rintro (rfl | h)
    · rw [h4] at hd; cases hd
    · obtain ⟨_, cur, hc⟩ := hav _ h; rw [hc] at hd; cases hd
  · have e : (List.range (k + 1)).map (fun j => if j < k then svs j else lv) = (List.range k).map svs ++ [lv] := by
      rw [List.range_succ, List.map_append]
      congr 1
      · exact List.map_congr_left fun j hj => by rw [if_pos (by simpa using hj)]
      · simp
    rw [e]; exact ho
  · intro j hj
    by_cases hjk : j < k
    · simp only [if_pos hjk]
      refine (h6 j hjk).fr hf ?_
      rintro g cur _ hg hc (rfl | h)
      · omega
      · obtain ⟨_, cur', hc'⟩ := hav _ h; rw [hc] at hc'; injection hc' with e; injection e with _ e2; exact absurd e2 (by decide)
    · obtain rfl : j = k := by omega
      simp only [if_neg hjk]; exact hl

/-- What the file of a person is. -/
def FileAt (W : World) (F : Nat) (p : Pers) : Prop :=
  ∃ rv cv av svs, W.heap[F]? = some (.cells #[.int .i64 p.lo, .int .i64 p.hi, rv, cv, av] 124 (0, 0)) ∧ (∃ a cap, cv = .slice a p.nc cap) ∧ W.ownsRow 0 38 1 av p.nc ((List.range p.nc).map svs) ∧ ∀ j, j < p.nc → RS W 0 (svs j) (p.allow j)
def GivesFile (w : World) (p : Pers) (e : Ending) (w' : World) : Prop := ∃ F, e = .returned (.pointer (some ⟨F, 0, none⟩)) ∧ FileAt w' F p ∧ Below w.heap.size w w'

/-- In the rounds over the ages of a record. -/
def YI (Bl : Nat) (day : Int) (Wb : World) (pre : List BR) (W : World) : Prop :=
  ∃ lv, W.heap[Bl]? = some (.cells #[lv] 38 (0, 0)) ∧ RS W Wb.heap.size lv (foldR day pre) ∧ Fr (fun q => q = Bl) Wb W
theorem YI.own (Bl : Nat) (day : Int) (Wb : World) : OwnFrom Wb.heap.size (YI Bl day Wb) := by
  rintro s W W' row ⟨lv, h1, h2, h3⟩ hg hr
  have hne : ∀ q c t fr, W.heap[q]? = some (.cells c t fr) → ¬ row = some q := fun q c t fr hq e => by
    obtain ⟨_, o, ho, hc⟩ := hr q e; rw [hq] at ho; cases ho; cases hc
  have hg' := Fr.grown hg
  refine ⟨lv, (hg'.block _ (Array.getElem?_eq_some_iff.1 h1).1 (hne _ _ _ _ h1)).trans h1, h2.fr hg' (fun g cur _ _ hc => hne _ _ _ _ hc), ?_⟩
  refine ⟨hg'.os.trans h3.os, hg'.tape.trans h3.tape, hg'.output.trans h3.output, Nat.le_trans h3.size hg'.size, fun q hq he => ?_⟩
  exact (hg'.block q (Nat.lt_of_lt_of_le hq h3.size) (fun e => by have := (hr q e).1; omega)).trans (h3.block q hq he)
end Go.Proofs.Ytagfcfojfjkmbaa

namespace Go.Proofs.Ytagfcfojfjkmbaa
open Go.RowKit Go.Shelf

theorem ownB_of {W : World} {Bl : Nat} {v : Value} {t : TypeId} {fr : Nat × Nat} (h : W.heap[Bl]? = some (.cells #[v] t fr)) : ownB W Bl = v.ownBlock := by
  unfold ownB; rw [cell_of_row W Bl 0 _ _ _ h]; rfl
theorem set_one {W : World} {Bl : Nat} {v u : Value} {t : TypeId} (h : W.heap[Bl]? = some (.cells #[v] t (0, 0))) : (W.setCell ⟨Bl, 0, none⟩ u).heap[Bl]? = some (.cells #[u] t (0, 0)) := by
  simp [World.setCell, Array.getElem?_modify, h]

theorem YI.step {Bl : Nat} {day : Int} {Wb W W2 : World} {pre : List BR} {x : BR} {lv v' : Value} (hBl : Bl < Wb.heap.size)
    (h1 : W.heap[Bl]? = some (.cells #[lv] 38 (0, 0))) (h2 : RS W Wb.heap.size lv (foldR day pre)) (h3 : Fr (fun q => q = Bl) Wb W)
    (g1 : RS W2 Wb.heap.size v' (ext (foldR day pre) (day - 365 * x.1.2 - 364) (day - 365 * x.1.1))) (g2 : W.grownBy W2 lv.ownBlock) (g3 : v'.ownBlock = lv.ownBlock ∨ ∀ k, v'.ownBlock = some k → W.heap.size ≤ k) :
    KeepsOthers W (W2.setCell ⟨Bl, 0, none⟩ v') ∧ Kp Bl W (W2.setCell ⟨Bl, 0, none⟩ v') ∧ YI Bl day Wb (pre ++ [x]) (W2.setCell ⟨Bl, 0, none⟩ v') := by
  have hl : ∀ q, lv.ownBlock = some q → Wb.heap.size ≤ q ∧ ∃ cur, W.heap[q]? = some (.cells cur 41 (0, 0)) := fun q hq => by
    rcases h2.2 with ⟨rfl, _⟩ | ⟨g, cap, cur, rfl, hg, hc, _⟩
    · cases hq
    · cases hq; exact ⟨hg, cur, hc⟩
  have hsB := (Array.getElem?_eq_some_iff.1 h1).1
  have k1 : W2.heap[Bl]? = some (.cells #[lv] 38 (0, 0)) := (g2.block _ hsB (fun e => by have := (hl _ e.symm).1; omega)).trans h1
  have f1 := Fr.grown g2
  have f2 := Fr.set W2 Bl 0 v'
  have k2 := set_one (u := v') k1
  have f : Fr (fun q => q = Bl ∨ lv.ownBlock = some q) W (W2.setCell ⟨Bl, 0, none⟩ v') := (f1.mono (fun _ _ h => .inr h)).trans (f2.mono (fun _ _ h => .inl h))
  refine ⟨⟨f.size, fun k o hk ho => ?_⟩, ⟨f.os, f.tape, f.output, f.size, fun k c t fr hk hne hno => ?_, ?_⟩, v', k2, ?_, ?_⟩
  · refine (f.block k (Array.getElem?_eq_some_iff.1 hk).1 ?_).trans hk
    rintro (rfl | h)
    · rw [h1] at hk; cases hk; cases ho
    · obtain ⟨_, cur, hc⟩ := hl _ h; rw [hc] at hk; cases hk; cases ho
  · refine (f.block k (Array.getElem?_eq_some_iff.1 hk).1 ?_).trans hk
    rintro (rfl | h)
    · exact hne rfl
    · exact hno (by rw [ownB_of h1]; exact h)
  · rw [ownB_of k2, ownB_of h1]; exact g3
  · rw [foldR_snoc]
    refine g1.fr f2 ?_
    rintro g cur hg hb _ rfl
    omega
  · refine ⟨f.os.trans h3.os, f.tape.trans h3.tape, f.output.trans h3.output, Nat.le_trans h3.size f.size, fun q hq he => ?_⟩
    refine (f.block q (Nat.lt_of_lt_of_le hq h3.size) ?_).trans (h3.block q hq he)
    rintro (h | h)
    · exact he h
    · have := (hl _ h).1; omega

theorem Pers.ok_facts {p : Pers} (h : p.fault = 0) : p.nr ≤ 4 ∧ p.nc ≤ 8 ∧ 0 < p.nr ∧ -50000 ≤ p.lo ∧ p.lo ≤ 50000 ∧ -50000 ≤ p.hi ∧ p.hi ≤ 50000 ∧ p.lo ≤ p.hi ∧ (∀ j, j < p.nr → (p.R j).ok = true) ∧ ∀ j, j < p.nc → (p.C j).ok p.nr = true := by
  unfold Pers.fault errOf at h
  split at h
  · cases h
  · split at h
    · rename_i h1 h2
      simp only [Pers.okAll, allB, inB, Bool.and_eq_true, List.all_eq_true, List.mem_range, decide_eq_true_eq, Bool.not_eq_true', beq_eq_false_iff_ne] at h2
      exact ⟨by omega, by omega, by omega, by omega, by omega, by omega, by omega, by omega, h2.1.2, h2.2⟩
    · cases h
theorem Rc.ok_facts {r : Rc} {nr : Nat} (h : r.ok nr = true) : -50000 ≤ r.day ∧ r.day ≤ 50000 ∧ 0 ≤ r.rule ∧ r.rule < nr ∧ 0 ≤ r.num ∧ r.num ≤ 140 := by
  simp only [Rc.ok, inB, Bool.and_eq_true, decide_eq_true_eq] at h; omega

theorem own_fr {ex : Nat → Prop} {W W' : World} {base : Nat} {E size n : Nat} {v : Value} {xs : List Value} (h : W.ownsRow base E size v n xs) (hf : Fr ex W W') (hx : ∀ g cur, v.ownBlock = some g → base ≤ g → W.heap[g]? = some (.cells cur E (0, 0)) → ¬ ex g) : W'.ownsRow base E size v n xs := by
  refine ⟨h.1, ?_⟩
  rcases h.2 with h | ⟨g, cap, cur, rfl, hg, hc, r⟩
  · exact .inl h
  · exact .inr ⟨g, cap, cur, rfl, hg, (hf.block _ (Array.getElem?_eq_some_iff.1 hc).1 (hx g cur rfl hg hc)).trans hc, r⟩
theorem own_mono {W : World} {base base' : Nat} {E size n : Nat} {v : Value} {xs : List Value} (h : W.ownsRow base E size v n xs) (hb : base' ≤ base) : W.ownsRow base' E size v n xs := by
  refine ⟨h.1, ?_⟩
  rcases h.2 with h | ⟨g, cap, cur, rfl, hg, r⟩
  · exact .inl h
  · exact .inr ⟨g, cap, cur, rfl, by omega, r⟩
theorem FileAt.put {W : World} {F l : Nat} {p : Pers} {o o' : Obj} (h : FileAt W F p) (hl : W.heap[l]? = some o) (ho : o.isCells = false) : FileAt (W.putObj l o') F p := by
  obtain ⟨rv, cv, av, svs, h1, h2, h3, h4⟩ := h
  have hne : ∀ q c t fr, W.heap[q]? = some (.cells c t fr) → ¬ q = l := fun q c t fr hq e => by
    subst e; rw [hq] at hl; cases hl; cases ho
  exact ⟨rv, cv, av, svs, ((Fr.put W l o').block _ (Array.getElem?_eq_some_iff.1 h1).1 (hne _ _ _ _ h1)).trans h1, h2, own_fr h3 (Fr.put W l o') (fun _ _ _ _ hc => hne _ _ _ _ hc), fun j hj => (h4 j hj).fr (Fr.put W l o') (fun _ _ _ _ hc => hne _ _ _ _ hc)⟩
/-- A part that never leaves but at its end. -/
theorem wp_calm {P : Program} {c : Code} {Q : Exit → Act → World → Prop} {a : Act} {w : World} (h : c.wp P (Exit.then (fun a w => Q .normal a w) (fun _ _ _ => False)) a w) : c.wp P Q a w :=
  wp_mono h fun e a w hq => by cases e <;> first | exact hq | exact hq.elim
theorem grown_block {W X w1 : World} {row : Option Nat} {b : Nat} {o : Obj} (hg : X.grownBy w1 row) (hB : Below W.heap.size W X) (hb : b < W.heap.size) (hne : ∀ q, row = some q → q ≠ b) (h : W.heap[b]? = some o) : w1.heap[b]? = some o :=
  (hg.block b (Nat.lt_of_lt_of_le hb hB.size) (fun e => hne b e.symm rfl)).trans ((hB.block b hb).trans h)
theorem FI.appended {w : World} {p : Pers} {rv cv : Value} {k : Nat} {ds : List Deferred} {W W5 X w1 : World} {av av' lv : Value} {svs : Nat → Value} {D B : Nat}
    (h1 : Below w.heap.size w W) (h2 : W.heap[w.heap.size]? = some (.cells #[.int .i64 p.lo, .int .i64 p.hi, rv, cv] 45 (0, 0))) (h3 : Marks W (w.heap.size + 2) W.heap.size ds)
    (h4 : W.heap[w.heap.size + 1]? = some (.cells #[.int .i64 p.lo, .int .i64 p.hi, rv, cv, av] 124 (0, 0))) (h5 : W.ownsRow (w.heap.size + 2) 38 1 av k ((List.range k).map svs)) (h6 : ∀ j, j < k → RS W (w.heap.size + 2) (svs j) (p.allow j))
    (hB5 : Below W.heap.size W W5) (hX : Below W5.heap.size W5 X) (hg : X.grownBy w1 av.ownBlock) (hav : ∀ q, av.ownBlock = some q → w.heap.size + 2 ≤ q ∧ q < W.heap.size)
    (hblk : w1.heap[w.heap.size + 1]? = some (.cells #[.int .i64 p.lo, .int .i64 p.hi, rv, cv, av] 124 (0, 0)))
    (ho : w1.ownsRow (w.heap.size + 2) 38 1 av' (k + 1) ((List.range k).map svs ++ [lv])) (hl : RS W5 B lv (p.allow k)) (hBW : W.heap.size ≤ B)
    (hD : B ≤ D) (hD' : W5.heap[D]? = some (.deferred (some []))) : FI w p rv cv (k + 1) ({ target := .collected D, args := #[] } :: ds) (w1.setCell ⟨w.heap.size + 1, 4, none⟩ av') := by
  have hs : w.heap.size + 1 < W.heap.size := (Array.getElem?_eq_some_iff.1 h4).1
  have f3 : Fr (fun q => q = w.heap.size + 1 ∨ av.ownBlock = some q) X w1 := (Fr.grown hg).mono (fun _ _ h => .inr h)
  have f4 : Fr (fun q => q = w.heap.size + 1 ∨ av.ownBlock = some q) w1 (w1.setCell ⟨w.heap.size + 1, 4, none⟩ av') := (Fr.set _ _ _ _).mono (fun _ _ h => .inl h)
  have f5 : Fr (fun q => q = w.heap.size + 1 ∨ av.ownBlock = some q) W5 (w1.setCell ⟨w.heap.size + 1, 4, none⟩ av') := ((Fr.below hX _).trans f3).trans f4
  have hout : ∀ g, W.heap.size ≤ g → ¬ (g = w.heap.size + 1 ∨ av.ownBlock = some g) := by
    rintro g hg (rfl | h)
    · omega
    · have := (hav _ h).2; omega
  refine FI.next h1 h2 h3 h4 h5 h6 ((Fr.below hB5 _).trans f5) ?_ (own_fr ho (Fr.set w1 (w.heap.size + 1) 4 av') ?_) ((hl.fr f5 ?_).mono (by omega)) (by omega) ((f5.block D (Array.getElem?_eq_some_iff.1 hD').1 (hout D (by omega))).trans hD')
  · simp [World.setCell, Array.getElem?_modify, hblk]
  · rintro g cur _ hgb _ rfl; omega
  · intro g cur _ hgb _; exact hout g (by omega)
theorem Try.infoRanges : (Try.prog.info? 38).map (fun i => (i.zero, i.size, i.bytes)) = some (some (.slice none 0 0), 1, 24) := by kernel_rfl

theorem alloc4 (W : World) (o1 o2 o3 o4 : Obj) : ((((W.alloc o1).alloc o2).alloc o3).alloc o4).heap.size = W.heap.size + 4 ∧ Below W.heap.size W ((((W.alloc o1).alloc o2).alloc o3).alloc o4) ∧
    ((((W.alloc o1).alloc o2).alloc o3).alloc o4).heap[W.heap.size]? = some o1 ∧ ((((W.alloc o1).alloc o2).alloc o3).alloc o4).heap[W.heap.size + 1]? = some o2 ∧ ((((W.alloc o1).alloc o2).alloc o3).alloc o4).heap[W.heap.size + 2]? = some o3 ∧ ((((W.alloc o1).alloc o2).alloc o3).alloc o4).heap[W.heap.size + 3]? = some o4 := by
  have s1 := World.size_alloc W o1
  have s2 := World.size_alloc (W.alloc o1) o2
  have s3 := World.size_alloc ((W.alloc o1).alloc o2) o3
  have s4 := World.size_alloc (((W.alloc o1).alloc o2).alloc o3) o4
  refine ⟨by omega, (((below_alloc W o1).alloc (by omega) o2).alloc (by omega) o3).alloc (by omega) o4, ?_, ?_, ?_, ?_⟩
  · rw [Below.heap_alloc _ _ _ (by omega), Below.heap_alloc _ _ _ (by omega), Below.heap_alloc _ _ _ (by omega)]; exact World.alloc_heap_new W o1
  · rw [Below.heap_alloc _ _ _ (by omega), Below.heap_alloc _ _ _ (by omega), ← s1]; exact World.alloc_heap_new _ o2
  · rw [Below.heap_alloc _ _ _ (by omega), show W.heap.size + 2 = ((W.alloc o1).alloc o2).heap.size from by omega]; exact World.alloc_heap_new _ o3
  · rw [show W.heap.size + 3 = (((W.alloc o1).alloc o2).alloc o3).heap.size from by omega]; exact World.alloc_heap_new _ o4

attribute [local go_sem] Oper.semAt_some
attribute [local go_sem ↓] Go.wp_at_zero Go.wp_at_succ

set_option maxRecDepth 100000 in
set_option maxHeartbeats 4000000 in
theorem file_some (p : Pers) (rv : Value) (a : Option Addr) (cap : Nat) (w : World) (hR : RlsAt w rv p.nr p.R) (hC : RcsAt w (.slice a p.nc cap) p.nc p.C) (hok : p.fault = 0) :
    Calls Try.prog 71 #[.agg #[.int .i64 p.lo, .int .i64 p.hi, rv, .slice a p.nc cap]] w (GivesFile w p) := by
  obtain ⟨n4, n8, n0, _, _, _, _, _, okR, okC⟩ := Pers.ok_facts hok
  have HR := Lib.hid hR; have HC := Lib.hid hC; have OKR := Lib.hid okR; have OKC := Lib.hid okC
  clear hR hC okR okC hok
  have h0 : FI w p rv (.slice a p.nc cap) 0 [] ((w.alloc (.cells #[.int .i64 p.lo, .int .i64 p.hi, rv, .slice a p.nc cap] 45)).alloc (.cells #[.int .i64 p.lo, .int .i64 p.hi, rv, .slice a p.nc cap, .slice none 0 0] 124)) := by
    refine ⟨((Below.refl _ _).alloc (Nat.le_refl _) _).alloc (by simp) _, ?_, trivial, .slice none 0 0, fun _ => .slice none 0 0, ?_, World.ownsRow_nil _ _ _ _, fun j hj => absurd hj (Nat.not_lt_zero _)⟩
    · exact (Below.heap_alloc _ _ _ (by simp)).trans (heap_alloc_new w _)
    · have := heap_alloc_new (w.alloc (.cells #[.int .i64 p.lo, .int .i64 p.hi, rv, .slice a p.nc cap] 45)) (.cells #[.int .i64 p.lo, .int .i64 p.hi, rv, .slice a p.nc cap, .slice none 0 0] 124)
      rw [World.size_alloc] at this; exact this
  have H0 := Lib.hid h0; clear h0
  refine callsIn_wide.1 (callsIn_of_wp_marks (n := 0) Try.func71 rfl trivial ?_ rfl)
  simp only [Try.ntmps71, List.size_toArray, List.length_cons, List.length_nil, Nat.reduceAdd, Nat.reduceSub, Array.replicate_succ, Array.replicate_zero, List.push_toArray, List.append_toArray, List.nil_append, List.cons_append]
  refine wpIn_wide.2 ?_
  go_wp2
  refine wp_loop (fun a' W' => ∃ (k : Nat) (u5 u6 u15 u16 u17 u18 u19 u20 u37 u38 u39 u40 u41 u42 u43 u44 u45 u46 u47 : Value) (ds : List Deferred), (k ≤ p.nc ∧ FI w p rv (.slice a p.nc cap) k ds W') ∧ a' = { tmps := #[.agg #[.int .i64 p.lo, .int .i64 p.hi, rv, .slice a p.nc cap], .pointer (some ⟨w.heap.size, 0, none⟩), .pointer none, .pointer (some ⟨w.heap.size + 1, 0, none⟩), undef, u5, u6, undef, .agg #[.int .i64 p.lo, .int .i64 p.hi, rv, .slice a p.nc cap], .agg #[.int .i64 p.lo, .int .i64 p.hi, rv, .slice a p.nc cap, .slice none 0 0], .pointer (some ⟨w.heap.size + 1, 0, none⟩), .pointer (some ⟨w.heap.size, 3, none⟩), .slice a p.nc cap, .int .i64 p.nc, .int .i64 k, u15, u16, u17, u18, u19, u20, undef, undef, undef, undef, undef, undef, undef, undef, undef, undef, undef, undef, undef, undef, undef, undef, u37, u38, u39, u40, u41, u42, u43, u44, u45, u46, u47, undef], defers := ds }) (fun a' _ => p.nc - (intOf (a'.tmps.getD 14 undef)).toNat) ?start ?round
  case start => exact ⟨0, _, _, _, _, _, _, _, _, _, _, _, _, _, _, _, _, _, _, _, [], ⟨Nat.zero_le _, H0.out⟩, rfl⟩
  case round =>
    clear H0
    rintro _ W ⟨k, u5, u6, u15, u16, u17, u18, u19, u20, u37, u38, u39, u40, u41, u42, u43, u44, u45, u46, u47, ds, ⟨hk, hfi⟩, rfl⟩
    dsimp only
    by_cases hlt : k < p.nc
    · obtain ⟨rd1, rd2, rr1, rr2, rn1, rn2⟩ := Rc.ok_facts (OKC.out k hlt)
      obtain ⟨q, hq⟩ : ∃ q : Nat, (p.C k).rule = (q : Int) := ⟨(p.C k).rule.toNat, by omega⟩
      have hqn : q < p.nr := by omega
      obtain ⟨b, off, rfl, hb, c0, c1, c2⟩ : ∃ b off, a = some ⟨b, off, none⟩ ∧ b < w.heap.size ∧ w.cell? ⟨b, off + k * 3, none⟩ = some (.int .i64 (p.C k).day) ∧ w.cell? ⟨b, off + k * 3 + 1, none⟩ = some (.int .i64 (p.C k).rule) ∧ w.cell? ⟨b, off + k * 3 + 2, none⟩ = some (.int .i64 (p.C k).num) := by
        rcases HC.out with ⟨_, h⟩ | ⟨b, off, cap', e, hb, hz⟩
        · omega
        · cases e; exact ⟨b, off, rfl, hb, hz k hlt⟩
      obtain ⟨rb, ro, rc, rfl, hrb, r0, r1, r2, r3⟩ : ∃ rb ro rc, rv = .slice (some ⟨rb, ro, none⟩) p.nr rc ∧ rb < w.heap.size ∧ w.cell? ⟨rb, ro + q * 4, none⟩ = some (.int .i64 (p.R q).f) ∧ w.cell? ⟨rb, ro + q * 4 + 1, none⟩ = some (.int .i64 (p.R q).b) ∧ w.cell? ⟨rb, ro + q * 4 + 2, none⟩ = some (.int .i64 (p.R q).m) ∧ w.cell? ⟨rb, ro + q * 4 + 3, none⟩ = some (.int .i64 (p.R q).e) := by
        rcases HR.out with ⟨_, h⟩ | ⟨b, off, cap', e, hb, hz⟩
        · omega
        · cases e; exact ⟨b, off, cap', rfl, hb, hz q hqn⟩
      have okq := OKR.out q hqn
      have hrl : p.rl k = p.R q := by unfold Pers.rl; rw [hq]; rfl
      rw [hq] at c1
      have hall : p.allow k = foldR (p.C k).day (yearsL (ageRs (p.R q).f (p.R q).b (p.R q).m (p.R q).e (p.C k).num)) := by unfold Pers.allow; rw [hrl]
      have HALL := Lib.hid hall; clear hall hrl hq
      generalize (p.C k).day = day at *
      generalize (p.C k).num = num at *
      generalize p.R q = rl at *
      have hF := hfi
      obtain ⟨f1, f2, f3, av, svs, f4, f5, f6⟩ := hF
      have d0 : W.cell? ⟨b, off + k * 3, none⟩ = some (.int .i64 day) := (f1.cell (p := ⟨b, _, none⟩) hb).trans c0
      have d1 : W.cell? ⟨b, off + k * 3 + 1, none⟩ = some (.int .i64 (q : Int)) := (f1.cell (p := ⟨b, _, none⟩) hb).trans c1
      have d2 : W.cell? ⟨b, off + k * 3 + 2, none⟩ = some (.int .i64 num) := (f1.cell (p := ⟨b, _, none⟩) hb).trans c2
      have e0 : W.cell? ⟨rb, ro + q * 4, none⟩ = some (.int .i64 rl.f) := (f1.cell (p := ⟨rb, _, none⟩) hrb).trans r0
      have e1 : W.cell? ⟨rb, ro + q * 4 + 1, none⟩ = some (.int .i64 rl.b) := (f1.cell (p := ⟨rb, _, none⟩) hrb).trans r1
      have e2 : W.cell? ⟨rb, ro + q * 4 + 2, none⟩ = some (.int .i64 rl.m) := (f1.cell (p := ⟨rb, _, none⟩) hrb).trans r2
      have e3 : W.cell? ⟨rb, ro + q * 4 + 3, none⟩ = some (.int .i64 rl.e) := (f1.cell (p := ⟨rb, _, none⟩) hrb).trans r3
      have g0 : W.cell? ⟨w.heap.size, 0, none⟩ = some (.int .i64 p.lo) := cell_of_row _ _ 0 _ _ _ f2
      have g1 : W.cell? ⟨w.heap.size, 1, none⟩ = some (.int .i64 p.hi) := cell_of_row _ _ 1 _ _ _ f2
      have g2 : W.cell? ⟨w.heap.size, 2, none⟩ = some (.slice (some ⟨rb, ro, none⟩) p.nr rc) := cell_of_row _ _ 2 _ _ _ f2
      have g3 : W.cell? ⟨w.heap.size, 3, none⟩ = some (.slice (some ⟨b, off, none⟩) p.nc cap) := cell_of_row _ _ 3 _ _ _ f2
      have E0 := Lib.hid e0; have E1 := Lib.hid e1; have E2 := Lib.hid e2; have E3 := Lib.hid e3
      have hs : w.heap.size + 1 < W.heap.size := (Array.getElem?_eq_some_iff.1 f4).1
      have hs0 : w.heap.size < W.heap.size := by omega
      have hs1 : w.heap.size < W.heap.size + 1 := by omega
      have F1 := Lib.hid f1; have F2 := Lib.hid f2; have F3 := Lib.hid f3; have F4 := Lib.hid f4; have F5 := Lib.hid f5; have F6 := Lib.hid f6
      clear c0 c1 c2 r0 r1 r2 r3 f1 f2 f3 f4 f5 f6 e0 e1 e2 e3 hfi
      go_wp2_with (go_at_call 94; refine (years_any _ _ _ _ _ _ _ _).mono ?_; rintro e w' ⟨rfl, rfl⟩)
      obtain ⟨hz, hbl, b1, b2, b3, b4⟩ := alloc4 W (.cells #[.int .i64 day, .int .i64 (q : Int), .int .i64 num] 109) (.cells #[.slice none 0 0] 38) (.cells #[.int .i64 p.lo, .int .i64 p.hi, .slice (some ⟨rb, ro, none⟩) p.nr rc, .slice (some ⟨b, off, none⟩) p.nc cap] 45) (.cells #[.int .i64 day, .int .i64 (q : Int), .int .i64 num] 109)
      generalize ((((W.alloc (.cells #[.int .i64 day, .int .i64 (q : Int), .int .i64 num] 109)).alloc (.cells #[.slice none 0 0] 38)).alloc (.cells #[.int .i64 p.lo, .int .i64 p.hi, .slice (some ⟨rb, ro, none⟩) p.nr rc, .slice (some ⟨b, off, none⟩) p.nc cap] 45)).alloc (.cells #[.int .i64 day, .int .i64 (q : Int), .int .i64 num] 109)) = Wb at *
      have hob : ownB Wb (W.heap.size + 1) = none := ownB_of b2
      have hrbW : rb < W.heap.size := by omega
      have hyears := years_all (W.heap.size + 1) (W.heap.size + 1 + 1) (W.heap.size + 1 + 1 + 1) rb ro p.nr rc q num rl.f rl.b rl.m rl.e Wb (by omega) (fun x hx => by rw [hob] at hx; cases hx)
        (cell_of_row _ _ 2 _ _ _ b3) (cell_of_row _ _ 1 _ _ _ b4) (cell_of_row _ _ 2 _ _ _ b4) (by omega) (by omega) (by omega) hqn
        ((hbl.cell (p := ⟨rb, _, none⟩) hrbW).trans E0.out) ((hbl.cell (p := ⟨rb, _, none⟩) hrbW).trans E1.out) ((hbl.cell (p := ⟨rb, _, none⟩) hrbW).trans E2.out) ((hbl.cell (p := ⟨rb, _, none⟩) hrbW).trans E3.out) okq
      refine wpIn_wide.1 (wide_range (n := 0) (gf := 105) (lb := #[.pointer (some ⟨W.heap.size + 1 + 1, 0, none⟩), .pointer (some ⟨W.heap.size + 1 + 1 + 1, 0, none⟩)]) rfl (enters_of Try.func105 (by kernel_rfl) rfl)
        hyears (fun _ => rfl) Kp.trans (Kp.b (by omega)) (YI (W.heap.size + 1) day Wb) (YI.own _ _ _) ⟨_, b2, World.ownsRow_nil _ _ _ _, Fr.refl _ _⟩
        (fun pre x a' W' => YI (W.heap.size + 1) day Wb pre W' ∧ ∃ Bx, W'.heap[Bx]? = some (.cells #[.int .i64 x.1.1, .int .i64 x.1.2] 41 (0, 0)) ∧ a' = { tmps := #[.agg #[.int .i64 p.lo, .int .i64 p.hi, .slice (some ⟨rb, ro, none⟩) p.nr rc, .slice (some ⟨b, off, none⟩) p.nc cap], .pointer (some ⟨w.heap.size, 0, none⟩), .pointer none, .pointer (some ⟨w.heap.size + 1, 0, none⟩), undef, .pointer (some ⟨W.heap.size, 0, none⟩), .pointer (some ⟨W.heap.size + 1, 0, none⟩), .pointer (some ⟨Bx, 0, none⟩), .agg #[.int .i64 p.lo, .int .i64 p.hi, .slice (some ⟨rb, ro, none⟩) p.nr rc, .slice (some ⟨b, off, none⟩) p.nc cap], .agg #[.int .i64 p.lo, .int .i64 p.hi, .slice (some ⟨rb, ro, none⟩) p.nr rc, .slice (some ⟨b, off, none⟩) p.nc cap, .slice none 0 0], .pointer (some ⟨w.heap.size + 1, 0, none⟩), .pointer (some ⟨w.heap.size, 3, none⟩), .slice (some ⟨b, off, none⟩) p.nc cap, .int .i64 p.nc, .int .i64 k, .bool true, .pointer (some ⟨b, off + k * 3, none⟩), .agg #[.int .i64 day, .int .i64 (q : Int), .int .i64 num], .agg #[.int .i64 p.lo, .int .i64 p.hi, .slice (some ⟨rb, ro, none⟩) p.nr rc, .slice (some ⟨b, off, none⟩) p.nc cap], .agg #[.int .i64 day, .int .i64 (q : Int), .int .i64 num], .func (.func 105) #[] #[.pointer (some ⟨W.heap.size + 1 + 1, 0, none⟩), .pointer (some ⟨W.heap.size + 1 + 1 + 1, 0, none⟩)], .agg #[.int .i64 x.1.1, .int .i64 x.1.2], undef, undef, undef, undef, undef, undef, undef, undef, undef, undef, undef, undef, undef, undef, undef, u37, u38, u39, u40, u41, u42, u43, u44, u45, u46, u47, undef], defers := [] })
        ?hA ?assign ?body ?done)
      case hA =>
        rintro pre x a' s X Y row ⟨hs, Bx, hbx, rfl⟩ hg hr
        refine ⟨YI.own _ _ _ _ X Y row hs hg hr, Bx, ?_, rfl⟩
        rw [hg.block _ (Array.getElem?_eq_some_iff.1 hbx).1 (fun e => by obtain ⟨_, o, ho, hc⟩ := hr _ e.symm; rw [hbx] at ho; cases ho; cases hc)]
        exact hbx
      case assign =>
        rintro l1 pre x W1 hy hlen
        have HY := Lib.hid hy
        have hW1 : W.heap.size + 1 < W1.heap.size := by obtain ⟨_, h, _⟩ := hy; exact (Array.getElem?_eq_some_iff.1 h).1
        clear hy
        simp only [encY]
        gi_wp2
        exact ⟨Kp.alloc hW1 _, KeepsOthers.alloc _ _, OwnFrom.alloc (YI.own _ _ _) _ HY.out, W1.heap.size, heap_alloc_new _ _, rfl⟩
      case body =>
        rintro l1 pre x a' W1 hl ⟨r, hr⟩ ⟨⟨lv, y1, y2, y3⟩, Bx, hbx, rfl⟩ hlen
        obtain ⟨la, lc, rfl⟩ := y2.slice
        have x0 : W1.cell? ⟨Bx, 0, none⟩ = some (.int .i64 x.1.1) := cell_of_row _ _ 0 _ _ _ hbx
        have x1 : W1.cell? ⟨Bx, 1, none⟩ = some (.int .i64 x.1.2) := cell_of_row _ _ 1 _ _ _ hbx
        have z0 : W1.cell? ⟨W.heap.size + 1, 0, none⟩ = some (.slice la (foldR day pre).length lc) := cell_of_row _ _ 0 _ _ _ y1
        have z1 : W1.cell? ⟨W.heap.size, 0, none⟩ = some (.int .i64 day) := cell_of_row _ _ 0 _ _ _ ((y3.block _ (by omega) (by omega)).trans b1)
        have hfold := foldR_facts day rd1 rd2 pre.length pre rfl
        have hW1 := (Array.getElem?_eq_some_iff.1 y1).1
        have hWs := y3.size
        have hx := x.2
        have HX := Lib.hid (fun lo hi => extended_grow Wb.heap.size (.slice la (foldR day pre).length lc) (foldR day pre) lo hi W1 y2 (by omega) hWs (fun r hr => by have := hfold.2 r hr; omega))
        obtain ⟨hx1, hx2, hx3, hx4⟩ := hx
        have hst : ∀ (W2 : World) (v' : Value), RS W2 Wb.heap.size v' (ext (foldR day pre) (day - 365 * x.1.2 - 364) (day - 365 * x.1.1)) → W1.grownBy W2 (Value.slice la (foldR day pre).length lc).ownBlock → (v'.ownBlock = (Value.slice la (foldR day pre).length lc).ownBlock ∨ ∀ k, v'.ownBlock = some k → W1.heap.size ≤ k) → _ := fun W2 v' g1 g2 g3 => YI.step (by omega) y1 y2 y3 g1 g2 g3
        have HST := Lib.hid hst
        have hfz : ∀ W2 : World, W1.grownBy W2 (Value.slice la (foldR day pre).length lc).ownBlock → W2.heap[W.heap.size + 1]? = some (.cells #[.slice la (foldR day pre).length lc] 38 (0, 0)) := fun W2 hg => (hg.block _ hW1 (fun e => by have := (y2.own _ e.symm).1; omega)).trans y1
        have HFZ := Lib.hid hfz
        clear hfz hst y1 y2 y3 hfold hbx
        gi_wp2_with fail
        refine ⟨trivial, rfl, ?_⟩
        refine CallsIn.mono (CallsIn.inRound l1 (callsIn_wide.2 (HX.out _ _))) ?_
        rintro e W2 ⟨v', rfl, g1, g2, g3⟩
        have hgW := g2.size
        have hk2 := HFZ.out W2 g2
        have hc2 : W2.cell? ⟨W.heap.size + 1, 0, none⟩ = some (.slice la (foldR day pre).length lc) := cell_of_row _ _ 0 _ _ _ hk2
        have hfr2 : W2.frozen? ⟨W.heap.size + 1, 0, none⟩ = false := frozen_of_row _ _ 0 _ _ hk2
        have HGS := Lib.hid (HST.out W2 v' g1 g2 g3)
        obtain ⟨la', lc', rfl⟩ := g1.slice
        clear g1 g2 g3 hk2
        gi_wp2
        exact HGS.out
      case done =>
        rintro D xs W5 hD rfl ⟨lv, y1, y2, y3⟩ hK
        obtain ⟨la, lc, hlv⟩ := y2.slice
        generalize hn : (foldR day (yearsL (ageRs rl.f rl.b rl.m rl.e num))).length = nl at hlv
        subst hlv
        obtain ⟨aa, ac, rfl⟩ : ∃ aa ac, av = .slice aa k ac := by
          rcases F5.out.2 with ⟨rfl, rfl⟩ | ⟨g, cap, cur, rfl, _⟩
          · exact ⟨_, _, rfl⟩
          · exact ⟨_, _, rfl⟩
        obtain ⟨i0, hi0, hz0, hz1, hz2⟩ := info_parts Try.infoRanges
        have hB5 : Below W.heap.size W W5 := hbl.trans (y3.low (by omega) (fun q hq e => by omega))
        have hWs := y3.size
        have z4b : W5.heap[w.heap.size + 1]? = some (.cells #[.int .i64 p.lo, .int .i64 p.hi, .slice (some ⟨rb, ro, none⟩) p.nr rc, .slice (some ⟨b, off, none⟩) p.nc cap, .slice aa k ac] 124 (0, 0)) := (hB5.block _ hs).trans F4.out
        have z4 : W5.cell? ⟨w.heap.size + 1, 4, none⟩ = some (.slice aa k ac) := cell_of_row _ _ 4 _ _ _ z4b
        have z4f : W5.frozen? ⟨w.heap.size + 1, 4, none⟩ = false := frozen_of_row _ _ 4 _ _ z4b
        have z0 : W5.cell? ⟨W.heap.size + 1, 0, none⟩ = some (.slice la nl lc) := cell_of_row _ _ 0 _ _ _ y1
        have hav : ∀ q, (Value.slice aa k ac).ownBlock = some q → w.heap.size + 2 ≤ q ∧ q < W.heap.size := fun q hq => by
          rcases F5.out.2 with ⟨e, _⟩ | ⟨g, cap, cur, e, hg, hc, _⟩
          · rw [e] at hq; cases hq
          · rw [e] at hq; cases hq; exact ⟨hg, (Array.getElem?_eq_some_iff.1 hc).1⟩
        have hown : W5.ownsRow (w.heap.size + 2) 38 1 (.slice aa k ac) k ((List.range k).map svs) := own_fr F5.out (Fr.below hB5 (fun _ => False)) (fun _ _ _ _ _ h => h)
        have HOWN := Lib.hid hown
        have HB5 := Lib.hid hB5
        have HAV := Lib.hid hav
        have HZ4 := Lib.hid z4b
        have HY2 := Lib.hid y2
        have HK := Lib.hid hK
        have HY1 := Lib.hid y1
        have hW5 : W.heap.size + 4 ≤ W5.heap.size := by omega
        have hw5a : w.heap.size + 1 < W5.heap.size := by omega
        have hw5b : W.heap.size + 1 < W5.heap.size := by omega
        clear hown hB5 hav z4b y1 y2 y3 hK hn hyears
        go_wp2
        refine wp_calm ?_
        go_region_law
          ((refine step_append_lies _ (by rfl) _ _ _ (by rfl) (w.heap.size + 2) 38 i0 (.slice none 0 0) 1 24 Try.underlying122 hi0 hz0 hz1 hz2 rfl (by omega) (.slice aa k ac) k ((List.range k).map svs) (by rfl) (World.ownsRow.drew (World.ownsRow.alloc HOWN.out _))
             ⟨W5.heap.size, 0, none⟩ 1 1 [.slice la nl lc] (by rfl) (by rfl) (World.news_of_block (cs := #[.slice la nl lc]) (t := 38) (fr := (0, 0)) (heap_alloc_new W5 _)) (by simp [Value.oneCell']) (by omega) (by unfold maxLen; omega) (by omega) (by simp; omega) (W5.heap.size + 1) (by simp) ?_; intro gg cap' w1 hown1 hgrow hat hlt1; have hblk := grown_block hgrow (below_alloc W5 _).drew hw5a (fun q e => by have := HAV.out q e; omega) HZ4.out; have hz4f : w1.frozen? ⟨w.heap.size + 1, 4, none⟩ = false := frozen_of_row _ _ 4 _ _ hblk; have hz4c : w1.cell? ⟨w.heap.size + 1, 4, none⟩ = some (.slice aa k ac) := cell_of_row _ _ 4 _ _ _ hblk))
        all_goals
          have HFI := Lib.hid (FI.appended F1.out F2.out F3.out F4.out F5.out F6.out HB5.out (below_alloc W5 _).drew hgrow HAV.out hblk hown1 (by rw [HALL.out]; exact HY2.out) (by omega) hD HK.out)
          clear hgrow hown1 hblk hz4f hz4c hat hlt1
          go_wp2
          refine ⟨⟨k + 1, _, _, _, _, _, _, _, _, _, _, _, _, _, _, _, _, _, _, _, _, ⟨hlt, HFI.out⟩, rfl⟩, ?_⟩
          simp [intOf]; omega
    · obtain rfl : k = p.nc := by omega
      obtain ⟨h1, h2, h3, av, svs, h4, h5, h6⟩ := hfi
      have HF : Hid (FileAt W (w.heap.size + 1) p ∧ Below w.heap.size w W) := ⟨⟨_, _, _, _, h4, ⟨_, _, rfl⟩, own_mono h5 (Nat.zero_le _), fun j hj => (h6 j hj).mono (Nat.zero_le _)⟩, h1⟩
      have H3 := Lib.hid h3
      clear h1 h2 h3 h4 h5 h6
      go_wp2
      refine leaves_marks (B := w.heap.size + 2) (fun W' => FileAt W' (w.heap.size + 1) p ∧ Below w.heap.size w W') ?_ ?_ ds _ W H3.out HF.out
      · rintro W' l o' ⟨i1, i2⟩ hl hd
        exact ⟨i1.put hd rfl, i2.trans ((Fr.put W' l o').low i2.size (fun q hq e => by omega))⟩
      · rintro W' ⟨i1, i2⟩
        exact ⟨.pointer (some ⟨w.heap.size + 1, 0, none⟩), by simp [results, Try.results71, go_sem], _, rfl, i1, i2⟩
end Go.Proofs.Ytagfcfojfjkmbaa

namespace Go.Proofs.Ytagfcfojfjkmbaa
open Go.RowKit

theorem file_any (v : Value) (p : Pers) (w : World) (h : PersAt w v p) (hok : p.fault = 0) : Calls Try.prog 71 #[v] w (GivesFile w p) := by
  obtain ⟨rv, cv, rfl, h1, h2⟩ := h
  obtain ⟨a, cap, rfl⟩ := h2.slice
  exact file_some p rv a cap w h1 h2 hok

/-- The days that the first k records allow, but for those that are left out. -/
def daysL (p : Pers) (out : Int → Bool) : Nat → RL
  | 0 => [(p.lo, p.hi)]
  | k + 1 => if out k then daysL p out k else meetL (daysL p out k) (p.allow k)
theorem yearsL_length (l : RL) : (yearsL l).length = l.length := by simp [yearsL, down]
theorem allow_length (p : Pers) (j : Nat) (h : (p.C j).ok p.nr = true) : (p.allow j).length ≤ 121 ∧ ∀ r ∈ p.allow j, -900000000 ≤ r.1 ∧ r.1 ≤ 900000000 ∧ -900000000 ≤ r.2 ∧ r.2 ≤ 900000000 := by
  obtain ⟨h1, h2, _⟩ := Rc.ok_facts h
  have := foldR_facts (p.C j).day h1 h2 _ (yearsL (ageRs (p.rl j).f (p.rl j).b (p.rl j).m (p.rl j).e (p.C j).num)) rfl
  have hl := rngs_length (agesF (p.rl j).f (p.rl j).b (p.rl j).m (p.rl j).e (p.C j).num 126) 121
  rw [yearsL_length] at this
  unfold ageRs at this
  refine ⟨Nat.le_trans this.1 hl, this.2⟩
theorem daysL_facts (p : Pers) (out : Int → Bool) (hok : p.fault = 0) (k : Nat) (hk : k ≤ p.nc) : (daysL p out k).length ≤ 1 + 121 * k ∧ ∀ r ∈ daysL p out k, -900000000 ≤ r.1 ∧ r.1 ≤ 900000000 ∧ -900000000 ≤ r.2 ∧ r.2 ≤ 900000000 := by
  obtain ⟨n4, n8, n0, l1, l2, l3, l4, l5, okR, okC⟩ := Pers.ok_facts hok
  induction k with
  | zero => simp [daysL]; omega
  | succ k ih =>
    obtain ⟨i1, i2⟩ := ih (by omega)
    obtain ⟨a1, a2⟩ := allow_length p k (okC k (by omega))
    rw [daysL]
    split
    · exact ⟨by omega, i2⟩
    · refine ⟨by have := meetL_length _ (daysL p out k) (p.allow k) (Nat.le_refl _); omega, meetL_bd _ 900000000 _ _ (Nat.le_refl _) i2 a2⟩

theorem RS.one (W : World) (base : Nat) (hb : base ≤ W.heap.size) (x y : Int) : RS (W.alloc (.cells #[.int .i64 x, .int .i64 y] 41)) base (.slice (some ⟨W.heap.size, 0, none⟩) 1 1) [(x, y)] := by
  refine ⟨rfl, .inr ⟨W.heap.size, 1, _, rfl, hb, heap_alloc_new _ _, Nat.le_refl _, by unfold maxLen; omega, rfl, rfl⟩⟩

theorem IntsAt.len {w : World} {sv : Value} {n : Nat} {z : Nat → Int} (h : IntsAt w sv n z) : ∃ a cap, sv = .slice a n cap := by
  rcases h with ⟨rfl, rfl⟩ | ⟨b, off, cap, rfl, _⟩
  · exact ⟨_, _, rfl⟩
  · exact ⟨_, _, rfl⟩

set_option maxRecDepth 100000 in
set_option maxHeartbeats 2000000 in
theorem days_any (F : Nat) (p : Pers) (ov : Value) (n : Nat) (z : Nat → Int) (w : World) (hok : p.fault = 0) (hF : FileAt w F p) (hI : IntsAt w ov n z) (hn : n ≤ 100000) :
    Calls Try.prog 73 #[.pointer (some ⟨F, 0, none⟩), ov] w (Gives w w.heap.size (daysL p (inL z n) p.nc)) := by
  obtain ⟨n4, n8, n0, l1, l2, l3, l4, l5, okR, okC⟩ := Pers.ok_facts hok
  have HOK := Lib.hid hok; have OKC := Lib.hid okC; clear okR okC hok n4 n0 l1 l2 l3 l4 l5
  obtain ⟨rv, cv, av, svs, f1, f2, f3, f4⟩ := hF
  obtain ⟨aa, ac, rfl⟩ : ∃ aa ac, av = .slice aa p.nc ac := by
    rcases f3.2 with ⟨rfl, h⟩ | ⟨g, cap, cur, rfl, _⟩
    · exact ⟨_, _, by rw [h]⟩
    · exact ⟨_, _, rfl⟩
  have c0 : w.cell? ⟨F, 0, none⟩ = some (.int .i64 p.lo) := cell_of_row _ _ 0 _ _ _ f1
  have c1 : w.cell? ⟨F, 1, none⟩ = some (.int .i64 p.hi) := cell_of_row _ _ 1 _ _ _ f1
  have c4 : w.cell? ⟨F, 4, none⟩ = some (.slice aa p.nc ac) := cell_of_row _ _ 4 _ _ _ f1
  have hFs := (Array.getElem?_eq_some_iff.1 f1).1
  have F3 := Lib.hid f3; have F4 := Lib.hid f4; have HI := Lib.hid hI; clear f1 f2 f3 f4 hI
  go_enter Try.func73, Try.ntmps73
  go_wp2
  go_loopw [5, 19] (fun v i wr => ∃ k : Nat, k ≤ p.nc ∧ i = .int .i64 k ∧ RS wr w.heap.size v (daysL p (inL z n) k) ∧ Below w.heap.size w wr) (fun _ i _ => p.nc - (intOf i).toNat)
  case atStart => exact ⟨0, Nat.zero_le _, rfl, RS.one _ _ (Nat.le_refl _) _ _, below_alloc _ _⟩
  case round =>
    obtain ⟨k, hk, rfl, hrs, hbl⟩ := hrel
    have hd := (daysL_facts p (inL z n) HOK.out k hk).1
    have HR := Lib.hid hrs; have HB := Lib.hid hbl; clear hrs hbl
    by_cases hlt : k < p.nc
    · obtain ⟨g, rfl, hgs⟩ : ∃ g, aa = some ⟨g, 0, none⟩ ∧ g < w.heap.size := by
        obtain ⟨g, cap, e, _, hg⟩ := F3.out.form (by omega)
        cases e; exact ⟨g, rfl, hg⟩
      have ca : w.cell? ⟨g, k, none⟩ = some (svs k) := by
        have := F3.out.cellAt k (by simp; omega)
        rw [this]; simp [hlt]
      have cw : wr.cell? ⟨g, k, none⟩ = some (svs k) := (HB.out.cell (p := ⟨g, _, none⟩) hgs).trans ca
      have hrs := F4.out k hlt
      have hal := (allow_length p k (OKC.out k hlt)).1
      obtain ⟨sa, sc, hsv⟩ := hrs.slice
      rw [hsv] at cw hrs
      have hrg : RgAt wr (.slice sa (p.allow k).length sc) (p.allow k) := hrs.rg.kept HB.out
      have HRG := Lib.hid hrg; clear hsv hrs hrg ca
      have hIr := HI.out.below HB.out
      have HIR := Lib.hid hIr; clear hIr
      have hL := HR.out.rg
      have HL := Lib.hid hL; clear hL
      have hbs := HB.out.size
      by_cases hin : inL z n k = true
      · go_wp2_with (go_at_call 95; refine (contains_any n _ z _ _ hn HIR.out).mono ?_; rintro e w1 ⟨rfl, rfl⟩)
        go_roundw
        case rel => exact ⟨k + 1, by omega, by go_num, by rw [daysL, if_pos hin]; exact HR.out, HB.out⟩
        case measure => simp [intOf]; omega
      · have hin' : inL z n k = false := by simpa using hin
        clear hin
        go_wp2_with (first | (go_at_call 95; refine (contains_any n _ z _ _ hn HIR.out).mono ?_; rintro e w1 ⟨rfl, rfl⟩) | (go_at_call 96; refine (meet_any _ _ _ _ _ HL.out HRG.out (by omega) (by omega)).mono ?_; rintro e w1 ⟨v1, rfl, hr1, hb1⟩))
        go_roundw
        case rel => exact ⟨k + 1, by omega, by go_num, by rw [daysL, if_neg (by rw [hin']; decide)]; exact hr1.mono hbs, HB.out.trans (hb1.mono hbs)⟩
        case measure => simp [intOf]; omega
    · obtain rfl : k = p.nc := by omega
      go_wp2
      go_ret
      exact ⟨_, rfl, HR.out, HB.out⟩

/-- All days of birth that the records of a person allow. -/
def Pers.days (p : Pers) : RL := daysL p (fun _ => false) p.nc
theorem inL_none (z : Nat → Int) : inL z 0 = fun _ => false := rfl
def Pers.born (p : Pers) : RL := if p.fault = 0 then p.days else []

theorem PersAt.agg {w : World} {v : Value} {p : Pers} (h : PersAt w v p) : ∃ rv cv, v = .agg #[.int .i64 p.lo, .int .i64 p.hi, rv, cv] := by
  obtain ⟨rv, cv, rfl, _⟩ := h; exact ⟨_, _, rfl⟩

theorem ret_err {v : Value} {a b : Int} (h : a = b) : Ending.returned (.tuple #[v, .int .i64 a]) = .returned (.tuple #[v, .int .i64 b]) := by rw [h]

set_option maxRecDepth 100000 in
set_option maxHeartbeats 2000000 in
theorem births_any (v : Value) (p : Pers) (w : World) (h : PersAt w v p) (hn : p.nr ≤ 100000) (hc : p.nc ≤ 100000) :
    Calls Try.prog 65 #[v] w (GivesE w w.heap.size p.born p.fault) := by
  obtain ⟨rv, cv, rfl⟩ := h.agg
  have HP := Lib.hid h; clear h
  by_cases hf : p.fault = 0
  · have hbq : p.born = daysL p (inL (fun _ => 0) 0) p.nc := by unfold Pers.born; rw [if_pos hf]; rfl
    have HBQ := Lib.hid hbq; clear hbq
    have hq : (p.fault != 0) = false := by simp [hf]
    have HF := Lib.hid hf; clear hf
    go_enter Try.func65, Try.ntmps65
    go_wp2_with (first
      | (go_at_call 42; refine (check_any _ p _ (HP.out.below (below_alloc _ _)) hn hc).mono ?_; rintro e w1 ⟨rfl, hb1⟩; obtain ⟨hc1, hf1⟩ := bcell hb1; have hs1 : w.heap.size + 1 ≤ w1.heap.size := by (have := hb1.size; simp at this; omega))
      | (go_at_call 71; refine (file_any _ p _ ((HP.out.below (below_alloc _ _)).below hb1) HF.out).mono ?_; rintro e w2 ⟨F, rfl, hF, hb2⟩)
      | (go_at_call 73; refine (days_any F p _ 0 (fun _ => 0) _ HF.out hF (.inl ⟨rfl, rfl⟩) (by omega)).mono ?_; rintro e w3 ⟨v3, rfl, hr3, hb3⟩))
    go_ret2
    have s2 := hb2.size
    refine ⟨v3, ret_err HF.out.symm, by rw [HBQ.out]; exact hr3.mono (by omega), ?_⟩
    exact (((below_alloc w _).trans (hb1.mono (by simp))).trans (hb2.mono (by omega))).trans (hb3.mono (by omega))
  · have hbq : p.born = [] := by unfold Pers.born; rw [if_neg hf]
    have HBQ := Lib.hid hbq; clear hbq
    have hq : (p.fault != 0) = true := by simp [hf]
    clear hf
    go_enter Try.func65, Try.ntmps65
    go_wp2_with (go_at_call 42; refine (check_any _ p _ (HP.out.below (below_alloc _ _)) hn hc).mono ?_; rintro e w1 ⟨rfl, hb1⟩)
    go_ret2
    exact ⟨_, rfl, by rw [HBQ.out]; exact RS.nil _ _, (below_alloc w _).trans (hb1.mono (by simp))⟩

/-- The error of Births. -/
def Pers.bErr (p : Pers) : Int := if p.fault = 0 ∧ p.days = [] then 9 else p.fault
theorem Pers.bErr_eq (p : Pers) : p.bErr = if p.fault = 0 ∧ p.born = [] then 9 else p.fault := by
  unfold Pers.bErr Pers.born
  by_cases h : p.fault = 0 <;> simp [h]

theorem bErr9 {p : Pers} (h : (p.fault == 0) = true) (hl : p.born.length = 0) : 9 = p.bErr := by
  rw [p.bErr_eq, if_pos ⟨by simpa using h, List.eq_nil_of_length_eq_zero hl⟩]
theorem bErrF {p : Pers} (h : (p.fault == 0) = false ∨ 0 < p.born.length) : p.fault = p.bErr := by
  rw [p.bErr_eq, if_neg]
  rintro ⟨h1, h2⟩
  rcases h with h | h
  · rw [h1] at h; cases h
  · rw [h2] at h; cases h

set_option maxRecDepth 100000 in
set_option maxHeartbeats 2000000 in
theorem Births_any (v : Value) (p : Pers) (w : World) (h : PersAt w v p) (hn : p.nr ≤ 100000) (hc : p.nc ≤ 100000) :
    Calls Try.prog 37 #[v] w (GivesE w w.heap.size p.born p.bErr) := by
  obtain ⟨rv, cv, rfl⟩ := h.agg
  have HP := Lib.hid h; clear h
  cases hf : (p.fault == 0) <;> rcases Nat.eq_zero_or_pos p.born.length with hl | hl
  all_goals
    have hlb : ((p.born.length : Int) == 0) = (p.born.length == 0) := by rw [Bool.eq_iff_iff]; simp
    have HLB := Lib.hid hlb; clear hlb
    have HL := Lib.hid hl; clear hl
    go_enter Try.func37, Try.ntmps37
    go_wp2_with fail
    refine (births_any _ p _ (HP.out.below (below_alloc _ _)) hn hc).mono ?_
    rintro e w1 ⟨v1, rfl, hr1, hb1⟩
    obtain ⟨a1, k1, rfl⟩ := hr1.slice
    have hR : RS w1 w.heap.size (.slice a1 p.born.length k1) p.born := hr1.mono (by simp)
    have HR := Lib.hid hR
    have HB : Hid (Below w.heap.size w w1) := (below_alloc w _).trans (hb1.mono (by simp))
    clear hr1 hb1 hR
    generalize hbl : p.born.length = nl at *
    have HBL := Lib.hid hbl; clear hbl
    first
      | (obtain rfl : nl = 0 := HL.out)
      | (have hnz : ((nl : Int) == 0) = false := by (rw [HLB.out]; have := HL.out; simp; omega))
    go_wp2
    go_ret2
    first
      | exact ⟨_, ret_err (bErr9 hf HBL.out), HR.out, HB.out⟩
      | exact ⟨_, ret_err (bErrF (.inl hf)), HR.out, HB.out⟩
      | exact ⟨_, ret_err (bErrF (.inr (by rw [HBL.out]; exact HL.out))), HR.out, HB.out⟩
end Go.Proofs.Ytagfcfojfjkmbaa

namespace Go.Proofs.Ytagfcfojfjkmbaa
open Go.RowKit

theorem hasR_at {l : RL} {n : Int} {k : Nat} (hk : k < l.length) (h : inB n l[k].1 l[k].2 = true) : hasR l n = true := by
  rw [hasR_iff]; refine ⟨l[k], List.getElem_mem hk, ?_⟩; simpa [inB] using h
theorem hasR_none {l : RL} {n : Int} (h : ∀ k (hk : k < l.length), inB n l[k].1 l[k].2 = false) : hasR l n = false := by
  rw [hasR_false]
  intro r hr
  obtain ⟨k, hk, rfl⟩ := List.mem_iff_getElem.1 hr
  have := h k hk
  simp [inB] at this; omega

def IdxB (b : Bool) (w : World) (e : Ending) (w' : World) : Prop := ∃ r : Int, e = .returned (.int .i64 r) ∧ decide (0 ≤ r) = b ∧ Below w.heap.size w w'

set_option maxHeartbeats 1000000 in
theorem closure_prove (c : Nat) (birth lo hi : Int) (w : World) (hl : c < w.heap.size) (hc : w.cell? ⟨c, 0, none⟩ = some (.int .i64 birth)) :
    Calls Try.prog 81 #[.agg #[.int .i64 lo, .int .i64 hi], .pointer (some ⟨c, 0, none⟩)] w fun e w' => e = .returned (.bool (inB birth lo hi)) ∧ Below w.heap.size w w' := by
  go_enter Try.func81, Try.ntmps81
  go_wp2_with (go_at_call 62; refine (within_any _ _ _ _).mono ?_; rintro e w' ⟨rfl, rfl⟩)
  go_ret
  exact ⟨rfl, below_alloc _ _⟩

set_option maxHeartbeats 1000000 in
theorem indexFunc_ranges (c : Nat) (birth : Int) (sv : Value) (l : RL) (w : World) (hlen : l.length ≤ 100000) (hl : c < w.heap.size) (hc : w.cell? ⟨c, 0, none⟩ = some (.int .i64 birth)) (hz : RgAt w sv l) :
    Calls Try.prog 102 #[sv, .func (.func 81) #[] #[.pointer (some ⟨c, 0, none⟩)]] w (IdxB (hasR l birth) w) := by
  obtain ⟨a, cap, rfl⟩ := hz.slice
  have HZ := Lib.hid hz; clear hz
  have HC := Lib.hid hc; clear hc
  generalize hn : l.length = n at *
  have HN := Lib.hid hn; clear hn
  go_enter Try.func102, Try.ntmps102
  go_wp2
  go_loopw [8] (fun i wr => ∃ k : Nat, k ≤ n ∧ i = .int .i64 k ∧ (∀ q (h : q < l.length), q < k → inB birth l[q].1 l[q].2 = false) ∧ Below w.heap.size w wr) (fun i _ => n - (intOf i).toNat)
  case atStart => exact ⟨0, Nat.zero_le _, rfl, fun q _ h => absurd h (Nat.not_lt_zero _), Below.refl _ _⟩
  case round =>
    obtain ⟨k, hk, rfl, hall, hbl⟩ := hrel
    have HA := Lib.hid hall; clear hall
    have hl' := Nat.lt_of_lt_of_le hl hbl.size
    have HC' := Lib.hid ((hbl.cell (p := ⟨c, 0, none⟩) hl).trans HC.out)
    have HB := Lib.hid hbl; clear hbl
    by_cases hlt : k < n
    · have hkl : k < l.length := by rw [HN.out]; exact hlt
      obtain ⟨b, off, rfl, x0, x1⟩ : ∃ b off, a = some ⟨b, off, none⟩ ∧ wr.cell? ⟨b, off + k * 2, none⟩ = some (.int .i64 l[k].1) ∧ wr.cell? ⟨b, off + k * 2 + 1, none⟩ = some (.int .i64 l[k].2) := by
        rcases HZ.out.kept HB.out with ⟨h, _⟩ | ⟨b', off', cap', h, _, _, hz⟩
        · rw [h] at hkl; simp at hkl
        · cases h; exact ⟨b', off', rfl, hz k hkl⟩
      generalize hlk : l[k].1 = lo at *
      generalize hlk2 : l[k].2 = hi at *
      have HK1 := Lib.hid hlk; have HK2 := Lib.hid hlk2; clear hlk hlk2
      by_cases hin : inB birth lo hi = true
      · go_wp2_with (go_at_call 81; refine (closure_prove c birth _ _ _ hl' HC'.out).mono ?_; rintro r w2 ⟨rfl, hb2⟩)
        go_ret
        exact ⟨_, rfl, by rw [hasR_at hkl (by rw [HK1.out, HK2.out]; exact hin)]; simp, HB.out.trans (hb2.mono HB.out.size)⟩
      · have hin' : inB birth lo hi = false := by simpa using hin
        clear hin
        go_wp2_with (go_at_call 81; refine (closure_prove c birth _ _ _ hl' HC'.out).mono ?_; rintro r w2 ⟨rfl, hb2⟩)
        go_roundw
        case rel => exact ⟨k + 1, by omega, by go_num, (fun q hq hqk => by rcases Nat.lt_succ_iff_lt_or_eq.1 hqk with h | rfl; exact HA.out q hq h; rw [HK1.out, HK2.out]; exact hin'), HB.out.trans (hb2.mono HB.out.size)⟩
        case measure => simp [intOf]; omega
    · obtain rfl : k = n := by omega
      go_wp2
      go_ret
      exact ⟨_, rfl, by rw [hasR_none (fun q hq => HA.out q hq (by rw [← HN.out]; exact hq))]; rfl, HB.out⟩

set_option maxHeartbeats 1000000 in
theorem containsFunc_ranges (c : Nat) (birth : Int) (sv : Value) (l : RL) (w : World) (hlen : l.length ≤ 100000) (hl : c < w.heap.size) (hc : w.cell? ⟨c, 0, none⟩ = some (.int .i64 birth)) (hz : RgAt w sv l) :
    Calls Try.prog 80 #[sv, .func (.func 81) #[] #[.pointer (some ⟨c, 0, none⟩)]] w fun e w' => e = .returned (.bool (hasR l birth)) ∧ Below w.heap.size w w' := by
  have HI := Lib.hid (indexFunc_ranges c birth sv l w hlen hl hc hz); clear hc hz
  go_enter Try.func80, Try.ntmps80
  go_wp2_with (go_at_call 102; refine HI.out.mono ?_; rintro e w' ⟨r, rfl, hr, hb⟩; have HR := Lib.hid hr; clear hr)
  go_ret
  exact ⟨ret_bool HR.out, hb⟩

theorem born_length (p : Pers) : p.born.length ≤ 1000 := by
  unfold Pers.born
  split
  · rename_i h
    have := (daysL_facts p (fun _ => false) h p.nc (Nat.le_refl _)).1
    have := (Pers.ok_facts h).2.1
    unfold Pers.days; omega
  · simp

set_option maxRecDepth 100000 in
set_option maxHeartbeats 2000000 in
theorem prove_any (v : Value) (p : Pers) (birth : Int) (w : World) (h : PersAt w v p) (hn : p.nr ≤ 100000) (hc : p.nc ≤ 100000) :
    Calls Try.prog 43 #[v, .int .i64 birth] w fun e w' => e = .returned (.bool (hasR p.born birth)) ∧ Below w.heap.size w w' := by
  obtain ⟨rv, cv, rfl⟩ := h.agg
  have HP := Lib.hid h; clear h
  cases hf : (p.fault == 0)
  all_goals
    go_enter Try.func43, Try.ntmps43
    go_wp2_with fail
    refine (births_any _ p _ (HP.out.below (((below_alloc _ _)).trans ((below_alloc _ _).mono (by simp)))) hn hc).mono ?_
    rintro e w1 ⟨v1, rfl, hr1, hb1⟩
    obtain ⟨a1, k1, rfl⟩ := hr1.slice
    have HRG := Lib.hid hr1.rg
    have HB : Hid (Below w.heap.size w w1) := ((below_alloc w _).trans ((below_alloc _ _).mono (by simp))).trans (hb1.mono (by simp; omega))
    have hbx : w1.cell? ⟨w.heap.size + 1, 0, none⟩ = some (.int .i64 birth) := by
      rw [hb1.cell (p := ⟨w.heap.size + 1, 0, none⟩) (by simp)]
      have := box_cell (w.alloc (.cells #[.int .i64 p.lo, .int .i64 p.hi, rv, cv] 45)) (.int .i64 birth) 3
      rw [World.size_alloc] at this; exact this
    have HBX := Lib.hid hbx
    have hs : w.heap.size + 1 < w1.heap.size := by have := hb1.size; simp at this; omega
    clear hr1 hb1 hbx
    have hlen := born_length p
    go_wp2_with (go_at_call 80; refine (containsFunc_ranges (w.heap.size + 1) birth _ p.born _ (by omega) hs HBX.out HRG.out).mono ?_; rintro e w2 ⟨rfl, hb2⟩)
    go_ret
    first
      | exact ⟨ret_bool (by simp), HB.out.trans (hb2.mono (by omega))⟩
      | (have hq : p.born = [] := by (unfold Pers.born; rw [if_neg (fun h => by rw [h] at hf; cases hf)])
         exact ⟨ret_bool (by rw [hq]; rfl), HB.out⟩)

/-- How many of some numbers are multiples of a base. -/
def heapN (z : Nat → Int) (base : Int) : Nat → Nat
  | 0 => 0
  | k + 1 => if z k % base = 0 then heapN z base k + 1 else heapN z base k
theorem heapN_le (z : Nat → Int) (base : Int) (k : Nat) : heapN z base k ≤ k := by
  induction k with
  | zero => exact Nat.le_refl _
  | succ k ih => rw [heapN]; split <;> omega
def heapE (z : Nat → Int) (n : Nat) (base : Int) : Int := if 200 < n then 3 else if inB base 1 12 = false then 1 else if allB (fun j => inB (z j) 0 140) n = false then 2 else if n = 0 then 7 else 0
def heapR (z : Nat → Int) (n : Nat) (base : Int) : Int := if heapE z n base = 0 then heapN z base n * base * 1000 / n else 0

set_option maxRecDepth 100000 in
set_option maxHeartbeats 2000000 in
theorem heaping_any (sv : Value) (n : Nat) (z : Nat → Int) (base : Int) (w : World) (hz : IntsAt w sv n z) (hn : n ≤ 100000) :
    Calls Try.prog 21 #[sv, .int .i64 base] w fun e w' => e = .returned (.tuple #[.int .i64 (heapR z n base), .int .i64 (heapE z n base)]) ∧ Below w.heap.size w w' := by
  obtain ⟨a, cap, rfl⟩ := hz.len
  have HZ := Lib.hid hz; clear hz
  by_cases h200 : 200 < n
  · have hE : heapE z n base = 3 := by unfold heapE; rw [if_pos h200]
    have hR : heapR z n base = 0 := by unfold heapR; rw [hE]; rfl
    rw [hE, hR]; clear hE hR
    go_enter Try.func21, Try.ntmps21
    go_wp2
    go_ret2
    exact ⟨rfl, Below.refl _ _⟩
  cases hb : inB base 1 12
  · have hE : heapE z n base = 1 := by unfold heapE; rw [if_neg h200, if_pos hb]
    have hR : heapR z n base = 0 := by unfold heapR; rw [hE]; rfl
    rw [hE, hR]; clear hE hR
    go_enter Try.func21, Try.ntmps21
    go_wp2_with (go_at_call 62; refine (within_any _ _ _ _).mono ?_; rintro e w' ⟨rfl, rfl⟩)
    go_ret2
    exact ⟨rfl, Below.refl _ _⟩
  cases ha : allB (fun j => inB (z j) 0 140) n
  · have hE : heapE z n base = 2 := by unfold heapE; rw [if_neg h200, if_neg (by rw [hb]; decide), if_pos ha]
    have hR : heapR z n base = 0 := by unfold heapR; rw [hE]; rfl
    rw [hE, hR]; clear hE hR
    go_enter Try.func21, Try.ntmps21
    go_wp2_with (first | (go_at_call 62; refine (within_any _ _ _ _).mono ?_; rintro e w' ⟨rfl, rfl⟩) | (go_at_call 63; refine (all_int n _ z _ (by omega) HZ.out).mono ?_; rintro e w1 ⟨rfl, hb1⟩))
    go_ret2
    exact ⟨rfl, hb1⟩
  by_cases h0 : n = 0
  · have hE : heapE z n base = 7 := by unfold heapE; rw [if_neg h200, if_neg (by rw [hb]; decide), if_neg (by rw [ha]; decide), if_pos h0]
    have hR : heapR z n base = 0 := by unfold heapR; rw [hE]; rfl
    rw [hE, hR]; clear hE hR
    subst h0
    go_enter Try.func21, Try.ntmps21
    go_wp2_with (first | (go_at_call 62; refine (within_any _ _ _ _).mono ?_; rintro e w' ⟨rfl, rfl⟩) | (go_at_call 63; refine (all_int 0 _ z _ (by omega) HZ.out).mono ?_; rintro e w1 ⟨rfl, hb1⟩))
    go_ret2
    exact ⟨rfl, hb1⟩
  · have hE : heapE z n base = 0 := by unfold heapE; rw [if_neg h200, if_neg (by rw [hb]; decide), if_neg (by rw [ha]; decide), if_neg h0]
    have hR : heapR z n base = heapN z base n * base * 1000 / n := by unfold heapR; rw [hE, if_pos rfl]
    rw [hE, hR]; clear hE hR
    have hbb : 1 ≤ base ∧ base ≤ 12 := by simpa [inB] using hb
    have hall : ∀ j, j < n → 0 ≤ z j ∧ z j ≤ 140 := by
      intro j hj
      simp only [allB, List.all_eq_true, List.mem_range] at ha
      simpa [inB] using ha j hj
    have HALL := Lib.hid hall; clear hall
    obtain ⟨hb1', hb2'⟩ := hbb
    have hnz : ((n : Int) == 0) = false := by simp; omega
    obtain ⟨b, off, rfl, hbs, hcell⟩ : ∃ b off, a = some ⟨b, off, none⟩ ∧ b < w.heap.size ∧ ∀ j, j < n → w.cell? ⟨b, off + j, none⟩ = some (.int .i64 (z j)) := by
      rcases HZ.out with ⟨_, h⟩ | ⟨b, off, cap', e, hb, hz⟩
      · exact absurd h h0
      · cases e; exact ⟨b, off, rfl, hb, hz⟩
    have HCELL := Lib.hid hcell; clear hcell
    have hbz : (base == 0) = false := by simp; omega
    have hbm : (base == -1) = false := by simp; omega
    go_enter Try.func21, Try.ntmps21
    go_wp2_with (first | (go_at_call 62; refine (within_any _ _ _ _).mono ?_; rintro e w' ⟨rfl, rfl⟩) | (go_at_call 63; refine (all_int n _ z _ (by omega) HZ.out).mono ?_; rintro e w1 ⟨rfl, hb1⟩; have HB1 := Lib.hid hb1; clear hb1))
    go_loop [6, 27] (fun s i => ∃ k : Nat, k ≤ n ∧ i = .int .i64 k ∧ s = .int .i64 (heapN z base k)) (fun _ i => n - (intOf i).toNat)
    case atStart => exact ⟨0, Nat.zero_le _, rfl, rfl⟩
    case round =>
      obtain ⟨k, hk, rfl, rfl⟩ := hrel
      have hle := heapN_le z base k
      by_cases hlt : k < n
      · have hc : w1.cell? ⟨b, off + k, none⟩ = some (.int .i64 (z k)) := (HB1.out.cell (p := ⟨b, _, none⟩) hbs).trans (HCELL.out k hlt)
        obtain ⟨hz0, hz1⟩ := HALL.out k hlt
        cases hm : (z k % base == 0)
        all_goals
          go_wp2
          go_round
          case rel => exact ⟨k + 1, by omega, by go_num, by rw [heapN]; first | rw [if_pos (by simpa using hm)]; go_num | rw [if_neg (by simpa using hm)]⟩
          case measure => simp [intOf]; omega
      · obtain rfl : k = n := by omega
        have h1 : (heapN z base k : Int) * base ≤ 200 * 12 := Int.mul_le_mul (by omega) hb2' (by omega) (by omega)
        have h2 : 0 ≤ (heapN z base k : Int) * base := Int.mul_nonneg (by omega) (by omega)
        go_wp2
        go_ret2
        exact ⟨rfl, HB1.out⟩
end Go.Proofs.Ytagfcfojfjkmbaa

namespace Go.Proofs.Ytagfcfojfjkmbaa
open Go.RowKit Go.Shelf

theorem rows_wide {l n : Nat} {P : Program} {row : String} {args : Array Value} {w : World} {R : Value → World → Prop} (h : Rows P row args w R) : RowsIn (Fence.wide.inRound l) n P row args w R :=
  fun c cs _ => let ⟨v, w', r, s⟩ := h c cs; ⟨v, w', r, stepsIn_wide.2 s⟩
theorem upon_wide {l n : Nat} {P : Program} {o : Oper} {a : Act} {next : Act → World → Prop} {Q : Exit → Act → World → Prop} (r : Result Next) (h : o.upon P a next Q r) : o.uponIn (Fence.wide.inRound l) n P a next Q r := by
  cases r with
  | ok x w' =>
    cases x <;> simp only [Oper.upon, Oper.uponIn] at h ⊢ <;>
      first
        | exact h
        | exact ⟨(fun e => by cases e), CallsIn.inRound l (callsIn_wide.2 h)⟩
        | exact ⟨(fun e => by cases e), rows_wide h⟩
        | exact h.elim
  | halt x w' => cases x <;> simp only [Oper.upon, Oper.uponIn] at h ⊢ <;> exact h
theorem op_wide {l n : Nat} {P : Program} {ops : Array Oper} {Q : Exit → Act → World → Prop} (hd : ∀ (i : Nat) (o : Oper), ops[i]? = some o → ∀ c, o.op ≠ Op.defer c) (hl : ¬ LetsOut Q) {i : Nat} {K : Act → World → Prop} {a : Act} {w : World} (h : wpOp P ops Q i K a w) : wpOpIn (Fence.wide.inRound l) n P ops Q i K a w := by
  unfold wpOp at h
  unfold wpOpIn
  cases ho : ops[i]? with
  | none => simpa [ho] using h
  | some o =>
    simp only [ho] at h ⊢
    by_cases hw : Region.wanted o (yielded ops a.tmps) = true
    · simp only [hw, if_true] at h ⊢
      rcases h with h | ⟨_, h⟩
      · refine ⟨fun _ _ => trivial, ?_⟩
        show o.uponIn _ n P a K Q ((o.semAt (some l) a.eval).run P w)
        rw [Oper.semAt_some l a.eval o (hd i o ho)]
        exact upon_wide _ h
      · exact absurd h hl
    · simp only [hw] at h ⊢
      exact ⟨fun _ _ => trivial, h⟩
theorem any_wide {l n : Nat} {P : Program} {md : Region.Mode} {ops : Array Oper} {Q : Exit → Act → World → Prop} (hd : ∀ (i : Nat) (o : Oper), ops[i]? = some o → ∀ c, o.op ≠ Op.defer c) (hl : ¬ LetsOut Q) :
    ∀ (fuel : Nat) (listed : Array Bool) (a : Act) (w : World), wpAny P md ops Q fuel listed a w → wpAnyIn (Fence.wide.inRound l) n P md ops Q fuel listed a w
  | 0, _, _, _, h => h
  | fuel + 1, _, _, _, h => ⟨h.1, fun i hi => wpOpIn_mono (fun a' w' h' => any_wide hd hl fuel _ a' w' h') (op_wide hd hl (h.2 i hi))⟩
/-- It is enough to walk the region as if it stood in no round. -/
theorem region_wide {l n : Nat} {P : Program} {id : Nat} {ops : Array Oper} {Q : Exit → Act → World → Prop} {a : Act} {w : World} (S : World → Prop) (hm : P.follows .mixedOrders = true) (hd : ∀ (i : Nat) (o : Oper), ops[i]? = some o → ∀ c, o.op ≠ Op.defer c)
    (hS : S w.drew) (h : S w.drew → wpAnyH P .any ops (Exit.then (fun a w => Q .normal a w) (fun _ _ _ => False)) S ops.size (Array.replicate ops.size false) a w.drew) : (Code.region id ops true).wpIn (Fence.wide.inRound l) n P Q a w := by
  refine wpIn_mono (wpIn_region_any hm (any_wide hd ?_ _ _ _ _ (wpAny_of_held _ _ _ _ (h hS)))) ?_
  · rintro ⟨_, _, h⟩; exact h
  · intro e a w hq; cases e <;> first | exact hq | exact hq.elim
theorem no_defer {ops : Array Oper} (h : ops.all (fun o => match o.op with | .defer _ => false | _ => true) = true) : ∀ (i : Nat) (o : Oper), ops[i]? = some o → ∀ c, o.op ≠ Op.defer c := by
  intro i o ho c hc
  rw [Array.all_eq_true] at h
  obtain ⟨hi, rfl⟩ := Array.getElem?_eq_some_iff.1 ho
  have := h i hi
  rw [hc] at this; cases this
end Go.Proofs.Ytagfcfojfjkmbaa

namespace Go.Proofs.Ytagfcfojfjkmbaa
open Go.RowKit Go.Shelf

theorem meetL_sub (k : Nat) : ∀ (a b : RL), a.length + b.length ≤ k → ∀ r ∈ meetL a b, r.1 ≤ r.2 ∧ ∃ x ∈ a, x.1 ≤ r.1 ∧ r.2 ≤ x.2 := by
  induction k with
  | zero => intro a b hl; have : a = [] := by cases a <;> simp_all
            subst this; rw [meetL_nil_left]; simp
  | succ k ih =>
    intro a b hl
    cases a with
    | nil => rw [meetL_nil_left]; simp
    | cons x a =>
      cases b with
      | nil => rw [meetL_nil_right]; simp
      | cons y b =>
        rw [meetL_cons]
        simp only [List.length_cons] at hl
        have h1 := ih a (y :: b) (by simp; omega)
        have h2 := ih (x :: a) b (by simp; omega)
        intro r hr
        rcases List.mem_append.1 hr with h | h
        · split at h
          · simp only [List.mem_singleton] at h; subst h; simp only
            exact ⟨by assumption, x, by simp, by omega, by omega⟩
          · simp at h
        · split at h
          · obtain ⟨i1, y', hy, i2⟩ := h1 r h; exact ⟨i1, y', by simp [hy], i2⟩
          · exact h2 r h
theorem daysL_in (p : Pers) (out : Int → Bool) (h : p.lo ≤ p.hi) (k : Nat) : ∀ r ∈ daysL p out k, p.lo ≤ r.1 ∧ r.1 ≤ r.2 ∧ r.2 ≤ p.hi := by
  induction k with
  | zero => intro r hr; simp [daysL] at hr; subst hr; simp only; omega
  | succ k ih =>
    rw [daysL]; split
    · exact ih
    · intro r hr
      obtain ⟨i1, x, hx, i2, i3⟩ := meetL_sub _ _ _ (Nat.le_refl _) r hr
      have := ih x hx; omega
theorem born_in (p : Pers) : ∀ r ∈ p.born, -50000 ≤ r.1 ∧ r.1 ≤ r.2 ∧ r.2 ≤ 50000 := by
  unfold Pers.born
  split
  · rename_i h
    obtain ⟨_, _, _, l1, l2, l3, l4, l5, _⟩ := Pers.ok_facts h
    intro r hr
    have := daysL_in p _ l5 _ r hr; omega
  · simp

/-- With one more range of days of birth, earlier than those before. -/
def onF (day : Int) (l : RL) (x : BR) : RL := if x.1.1 ≤ day then ext l ((day - mn x.1.2 day) / 365) ((day - x.1.1) / 365) else l
def onL (day : Int) (xs : List BR) : RL := xs.foldl (onF day) []
theorem onL_snoc (day : Int) (xs : List BR) (x : BR) : onL day (xs ++ [x]) = onF day (onL day xs) x := by simp [onL]
theorem onL_facts (day : Int) (h1 : -50000 ≤ day) (h2 : day ≤ 50000) (n : Nat) : ∀ xs : List BR, xs.length = n → (onL day xs).length ≤ n ∧ ∀ r ∈ onL day xs, -900000000 ≤ r.1 ∧ r.1 ≤ 900000000 ∧ -900000000 ≤ r.2 ∧ r.2 ≤ 900000000 := by
  induction n with
  | zero => intro xs hx; have : xs = [] := List.eq_nil_of_length_eq_zero hx
            subst this; simp [onL]
  | succ n ih =>
    intro xs hx
    rcases List.eq_nil_or_concat xs with rfl | ⟨l0, x, rfl⟩
    · simp at hx
    · rw [List.concat_eq_append] at *
      obtain ⟨i1, i2⟩ := ih l0 (by simpa using hx)
      rw [onL_snoc]; unfold onF
      have hb := x.2
      split
      · refine ⟨by have := ext_length (onL day l0) ((day - mn x.1.2 day) / 365) ((day - x.1.1) / 365); omega, ext_bdS _ _ _ _ i2 ?_ ?_ ?_ ?_⟩ <;> (try unfold mn) <;> omega
      · exact ⟨by omega, i2⟩

def snds (pre : List (Nat × BR)) : List BR := pre.map (·.2)
theorem snds_snoc (pre : List (Nat × BR)) (x : Nat × BR) : snds (pre ++ [x]) = snds pre ++ [x.2] := by simp [snds]
theorem snds_length (pre : List (Nat × BR)) : (snds pre).length = pre.length := by simp [snds]
/-- In the rounds: the slice in box Bl holds L. -/
def OI (Bl : Nat) (Wb : World) (L : RL) (W : World) : Prop :=
  ∃ lv, W.heap[Bl]? = some (.cells #[lv] 38 (0, 0)) ∧ RS W Wb.heap.size lv L ∧ Fr (fun q => q = Bl) Wb W
theorem OI.own (Bl : Nat) (Wb : World) : OwnFrom Wb.heap.size (OI Bl Wb) := by
  rintro s W W' row ⟨lv, h1, h2, h3⟩ hg hr
  have hne : ∀ q c t fr, W.heap[q]? = some (.cells c t fr) → ¬ row = some q := fun q c t fr hq e => by
    obtain ⟨_, o, ho, hc⟩ := hr q e; rw [hq] at ho; cases ho; cases hc
  have hg' := Fr.grown hg
  refine ⟨lv, (hg'.block _ (Array.getElem?_eq_some_iff.1 h1).1 (hne _ _ _ _ h1)).trans h1, h2.fr hg' (fun g cur _ _ hc => hne _ _ _ _ hc), ?_⟩
  refine ⟨hg'.os.trans h3.os, hg'.tape.trans h3.tape, hg'.output.trans h3.output, Nat.le_trans h3.size hg'.size, fun q hq he => ?_⟩
  exact (hg'.block q (Nat.lt_of_lt_of_le hq h3.size) (fun e => by have := (hr q e).1; omega)).trans (h3.block q hq he)
theorem OI.step {Bl : Nat} {Wb W X W2 : World} {L L' : RL} {lv v' : Value} (hBl : Bl < Wb.heap.size)
    (h1 : W.heap[Bl]? = some (.cells #[lv] 38 (0, 0))) (h2 : RS W Wb.heap.size lv L) (h3 : Fr (fun q => q = Bl) Wb W) (hX : Below W.heap.size W X)
    (g1 : RS W2 Wb.heap.size v' L') (g2 : X.grownBy W2 lv.ownBlock) (g3 : v'.ownBlock = lv.ownBlock ∨ ∀ k, v'.ownBlock = some k → X.heap.size ≤ k) :
    KeepsOthers W (W2.setCell ⟨Bl, 0, none⟩ v') ∧ Kp Bl W (W2.setCell ⟨Bl, 0, none⟩ v') ∧ OI Bl Wb L' (W2.setCell ⟨Bl, 0, none⟩ v') := by
  have hl : ∀ q, lv.ownBlock = some q → Wb.heap.size ≤ q ∧ ∃ cur, W.heap[q]? = some (.cells cur 41 (0, 0)) := fun q hq => by
    rcases h2.2 with ⟨rfl, _⟩ | ⟨g, cap, cur, rfl, hg, hc, _⟩
    · cases hq
    · cases hq; exact ⟨hg, cur, hc⟩
  have hsB := (Array.getElem?_eq_some_iff.1 h1).1
  have hXs := hX.size
  have k1 : W2.heap[Bl]? = some (.cells #[lv] 38 (0, 0)) := (g2.block _ (by omega) (fun e => by have := (hl _ e.symm).1; omega)).trans ((hX.block _ hsB).trans h1)
  have f1 := (Fr.below hX (fun k => lv.ownBlock = some k)).trans (Fr.grown g2)
  have f2 := Fr.set W2 Bl 0 v'
  have k2 := set_one (u := v') k1
  have f : Fr (fun q => q = Bl ∨ lv.ownBlock = some q) W (W2.setCell ⟨Bl, 0, none⟩ v') := (f1.mono (fun _ _ h => .inr h)).trans (f2.mono (fun _ _ h => .inl h))
  refine ⟨⟨f.size, fun k o hk ho => ?_⟩, ⟨f.os, f.tape, f.output, f.size, fun k c t fr hk hne hno => ?_, ?_⟩, v', k2, ?_, ?_⟩
  · refine (f.block k (Array.getElem?_eq_some_iff.1 hk).1 ?_).trans hk
    rintro (rfl | h)
    · rw [h1] at hk; cases hk; cases ho
    · obtain ⟨_, cur, hc⟩ := hl _ h; rw [hc] at hk; cases hk; cases ho
  · refine (f.block k (Array.getElem?_eq_some_iff.1 hk).1 ?_).trans hk
    rintro (rfl | h)
    · exact hne rfl
    · exact hno (by rw [ownB_of h1]; exact h)
  · rw [ownB_of k2, ownB_of h1]; exact g3.imp id (fun h k hk => Nat.le_trans hXs (h k hk))
  · refine g1.fr f2 ?_
    rintro g cur hg hb _ rfl
    omega
  · refine ⟨f.os.trans h3.os, f.tape.trans h3.tape, f.output.trans h3.output, Nat.le_trans h3.size f.size, fun q hq he => ?_⟩
    refine (f.block q (Nat.lt_of_lt_of_le hq h3.size) ?_).trans (h3.block q hq he)
    rintro (h | h)
    · exact he h
    · have := (hl _ h).1; omega

theorem back_of_rs2 {Bl base : Nat} {w : World} {v : Value} {l : RL} (h : RS w base v l) (hB : Bl < w.heap.size) (ho : ownB w Bl = none) (hg : ∀ g, v.ownBlock = some g → g ≠ Bl)
    (hbd : ∀ r ∈ l, -1000000 ≤ r.1 ∧ r.1 ≤ 1000000 ∧ -1000000 ≤ r.2 ∧ r.2 ≤ 1000000) : BackAt Bl (w.alloc (.cells #[v] 38)) w.heap.size l.length (brAt l) := by
  have hnew : Mine Bl (w.alloc (.cells #[v] 38)) w.heap.size #[v] 38 := Mine.new (by omega) (fun k hk => by rw [ho] at hk; cases hk) _ _
  rcases h.2 with ⟨rfl, h0⟩ | ⟨g, cap, cur, rfl, _, hgc, _, _, hcs, hcur⟩
  · exact .inl ⟨hnew, h0⟩
  · refine .inr ⟨g, cap, cur, hnew, ⟨?_, hg g rfl, ?_⟩, fun j hj => ?_⟩
    · rw [(below_alloc w _).block _ (Array.getElem?_eq_some_iff.1 hgc).1]; exact hgc
    · rw [ownB_same ((below_alloc w _).block _ (by omega)), ho]; intro e; cases e
    · have hf := flat_get l j hj
      rw [← hcur, List.getElem?_take, List.getElem?_take, if_pos (by omega), if_pos (by omega)] at hf
      rw [brAt_val hbd j hj]
      simpa using hf

/-- The error of On, and the ages. -/
def Pers.onE (p : Pers) (day : Int) : Int := if p.fault = 0 then (if inB day (-50000) 50000 = false then 2 else match p.born with | [] => 9 | r :: _ => if day < r.1 then 7 else 0) else p.fault
def Pers.on (p : Pers) (day : Int) : RL := if p.onE day = 0 then onL day (yearsL p.born) else []

set_option maxRecDepth 100000 in
set_option maxHeartbeats 2000000 in
theorem on_bad (v : Value) (p : Pers) (day : Int) (w : World) (h : PersAt w v p) (hn : p.nr ≤ 100000) (hc : p.nc ≤ 100000) (hE : p.onE day ≠ 0) :
    Calls Try.prog 26 #[v, .int .i64 day] w (GivesE w w.heap.size [] (p.onE day)) := by
  obtain ⟨rv, cv, rfl⟩ := h.agg
  have HP := Lib.hid h; clear h
  have hcase : (p.fault ≠ 0 ∧ p.onE day = p.fault) ∨ (p.fault = 0 ∧ inB day (-50000) 50000 = false ∧ p.onE day = 2) ∨ (p.fault = 0 ∧ inB day (-50000) 50000 = true ∧ p.born = [] ∧ p.onE day = 9) ∨ (p.fault = 0 ∧ inB day (-50000) 50000 = true ∧ ∃ r l, p.born = r :: l ∧ day < r.1 ∧ p.onE day = 7) := by
    unfold Pers.onE at hE ⊢
    by_cases h : p.fault = 0
    · rw [if_pos h] at hE ⊢
      cases hd : inB day (-50000) 50000
      · simp [h]
      · cases hb : p.born with
        | nil => simp [h]
        | cons r l =>
          by_cases hr : day < r.1
          · exact .inr (.inr (.inr ⟨h, rfl, r, l, rfl, hr, by simp [hr]⟩))
          · simp [hd, hb, hr] at hE
    · exact .inl ⟨h, by rw [if_neg h]⟩
  clear hE
  have hlen := born_length p
  rcases hcase with ⟨h1, h2⟩ | ⟨h1, h2, h3⟩ | ⟨h1, h2, h3, h4⟩ | ⟨h1, h2, r, l, h3, h4, h5⟩
  · have hq : (p.fault != 0) = true := by simp [h1]
    rw [h2]; clear h1 h2
    go_enter Try.func26, Try.ntmps26
    go_wp2_with (go_at_call 65; refine (births_any _ p _ (HP.out.below ((below_alloc _ _).trans ((below_alloc _ _).mono (by simp)))) hn hc).mono ?_; rintro e w1 ⟨v1, rfl, hr1, hb1⟩)
    go_ret2
    exact ⟨_, rfl, RS.nil _ _, ((below_alloc w _).trans ((below_alloc _ _).mono (by simp))).trans (hb1.mono (by simp; omega))⟩
  · have hq : (p.fault != 0) = false := by simp [h1]
    rw [h3]; clear h1 h3
    go_enter Try.func26, Try.ntmps26
    go_wp2_with (first | (go_at_call 65; refine (births_any _ p _ (HP.out.below ((below_alloc _ _).trans ((below_alloc _ _).mono (by simp)))) hn hc).mono ?_; rintro e w1 ⟨v1, rfl, hr1, hb1⟩; obtain ⟨hc1, hf1⟩ := bcell hb1) | (go_at_call 66; refine (isDay_any _ _).mono ?_; rintro e w' ⟨rfl, rfl⟩))
    go_ret2
    exact ⟨_, rfl, RS.nil _ _, ((below_alloc w _).trans ((below_alloc _ _).mono (by simp))).trans (hb1.mono (by simp; omega))⟩
  · have hq : (p.fault != 0) = false := by simp [h1]
    rw [h4]; clear h1 h4
    have H3 := Lib.hid h3; clear h3
    go_enter Try.func26, Try.ntmps26
    go_wp2_with (first | (go_at_call 65; refine (births_any _ p _ (HP.out.below ((below_alloc _ _).trans ((below_alloc _ _).mono (by simp)))) hn hc).mono ?_; rintro e w1 ⟨v1, rfl, hr1, hb1⟩; obtain ⟨hc1, hf1⟩ := bcell hb1; rw [H3.out] at hr1; obtain ⟨a1, k1, rfl⟩ := hr1.slice; clear hr1) | (go_at_call 66; refine (isDay_any _ _).mono ?_; rintro e w' ⟨rfl, rfl⟩))
    go_ret2
    exact ⟨_, rfl, RS.nil _ _, ((below_alloc w _).trans ((below_alloc _ _).mono (by simp))).trans (hb1.mono (by simp; omega))⟩
  · have hq : (p.fault != 0) = false := by simp [h1]
    rw [h5]; clear h1 h5
    have H3 := Lib.hid h3
    have hll : l.length ≤ 1000 := by rw [h3] at hlen; simp at hlen; omega
    clear h3 hlen
    have hnz : (((l.length : Int) + 1) == 0) = false := by simp; omega
    go_enter Try.func26, Try.ntmps26
    go_wp2_with (first | (go_at_call 65; refine (births_any _ p _ (HP.out.below ((below_alloc _ _).trans ((below_alloc _ _).mono (by simp)))) hn hc).mono ?_; rintro e w1 ⟨v1, rfl, hr1, hb1⟩; obtain ⟨hc1, hf1⟩ := bcell hb1; have hs1 := hb1.size; rw [H3.out] at hr1; obtain ⟨b1, o1, k1, rfl, hk1, hbb, x1, x2, _⟩ := hr1.rg.cons; clear hr1) | (go_at_call 66; refine (isDay_any _ _).mono ?_; rintro e w' ⟨rfl, rfl⟩))
    go_quiet (fail)
    go_wp2
    go_ret2
    exact ⟨_, rfl, RS.nil _ _, (((below_alloc w _).trans ((below_alloc _ _).mono (by simp))).trans (hb1.mono (by simp; omega))).trans (below_drewS _ _ _)⟩
end Go.Proofs.Ytagfcfojfjkmbaa

namespace Go.Proofs.Ytagfcfojfjkmbaa
open Go.RowKit Go.Shelf

attribute [local go_sem] Oper.semAt_some
attribute [local go_sem ↓] Go.wp_at_zero Go.wp_at_succ

set_option maxRecDepth 100000 in
set_option maxHeartbeats 4000000 in
theorem on_good (v : Value) (p : Pers) (day : Int) (r : Int × Int) (l : RL) (w : World) (h : PersAt w v p) (hn : p.nr ≤ 100000) (hc : p.nc ≤ 100000) (hf : p.fault = 0) (hd : inB day (-50000) 50000 = true) (hb : p.born = r :: l) (hr : ¬ day < r.1) :
    Calls Try.prog 26 #[v, .int .i64 day] w (GivesE w w.heap.size (onL day (yearsL p.born)) 0) := by
  obtain ⟨rv, cv, rfl⟩ := h.agg
  have HP := Lib.hid h; clear h
  have hq : (p.fault != 0) = false := by simp [hf]
  have hlen := born_length p
  have HB0 := Lib.hid hb
  have hll : l.length ≤ 1000 := by rw [hb] at hlen; simp at hlen; omega
  have hnz : (((l.length : Int) + 1) == 0) = false := by simp; omega
  have hday : -50000 ≤ day ∧ day ≤ 50000 := by simpa [inB] using hd
  obtain ⟨hd1, hd2⟩ := hday
  clear hb hf hlen
  refine callsIn_wide.1 (callsIn_of_wp_marks (n := 0) Try.func26 rfl trivial ?_ rfl)
  simp only [Try.ntmps26, List.size_toArray, List.length_cons, List.length_nil, Nat.reduceAdd, Nat.reduceSub, Array.replicate_succ, Array.replicate_zero, List.push_toArray, List.append_toArray, List.nil_append, List.cons_append]
  refine wpIn_wide.2 ?_
  go_wp2_with (first | (go_at_call 65; refine (births_any _ p _ (HP.out.below ((below_alloc _ _).trans ((below_alloc _ _).mono (by simp)))) hn hc).mono ?_; rintro e w1 ⟨v1, rfl, hr1, hb1⟩; have hs1 := hb1.size; have hbx : w1.heap[w.heap.size + 1]? = some (.cells #[.int .i64 day] 3 (0, 0)) := (hb1.block _ (by simp)).trans (by have := heap_alloc_new (w.alloc (.cells #[.int .i64 p.lo, .int .i64 p.hi, rv, cv] 45)) (.cells #[.int .i64 day] 3); rw [World.size_alloc] at this; exact this); have hbc : w1.cell? ⟨w.heap.size + 1, 0, none⟩ = some (.int .i64 day) := cell_of_row _ _ 0 _ _ _ hbx; have HBX := Lib.hid hbx; have HRS := Lib.hid hr1; rw [HB0.out] at hr1; obtain ⟨b1, o1, k1, rfl, hk1, hbb, x1, x2, _⟩ := hr1.rg.cons; have HB1 := Lib.hid hb1; simp only [World.size_alloc] at hs1; clear hr1 hb1 hbx) | (go_at_call 66; refine (isDay_any _ _).mono ?_; rintro e w' ⟨rfl, rfl⟩))
  refine wp_calm ?_
  go_quiet (fail)
  go_wp2_with (go_at_call 67; refine (backward_any _ _ _ _).mono ?_; rintro e w2 ⟨rfl, rfl⟩)
  -- LOOP
  have hWa : Below w1.heap.size w1 ((w1.drewN nq).alloc (.cells #[.slice none 0 0] 38)) := (below_drewS _ _ nq).trans (below_alloc (w1.drewN nq) _)
  have hWas : ((w1.drewN nq).alloc (.cells #[.slice none 0 0] 38)).heap.size = w1.heap.size + 1 := World.size_alloc _ _
  have hWan : ((w1.drewN nq).alloc (.cells #[.slice none 0 0] 38)).heap[w1.heap.size]? = some (.cells #[.slice none 0 0] 38 (0, 0)) := heap_alloc_new (w1.drewN nq) _
  generalize (w1.drewN nq).alloc (.cells #[.slice none 0 0] 38) = Wa at *
  have hback := back_of_rs2 (Bl := w1.heap.size) (RS.bel HRS.out hWa) (by omega) (ownB_of hWan) (fun g hg => by cases hg; show b1 ≠ w1.heap.size; omega) (fun r hr => by have := born_in p r hr; omega)
  have hWbs := World.size_alloc Wa (.cells #[.slice (some ⟨b1, o1, none⟩) (l.length + 1) k1] 38)
  have hWbb := below_alloc Wa (.cells #[.slice (some ⟨b1, o1, none⟩) (l.length + 1) k1] 38)
  generalize Wa.alloc (.cells #[.slice (some ⟨b1, o1, none⟩) (l.length + 1) k1] 38) = Wb at *
  have hWbn : Wb.heap[w1.heap.size]? = some (.cells #[.slice none 0 0] 38 (0, 0)) := (hWbb.block _ (by omega)).trans hWan
  have hWbd : Wb.heap[w.heap.size + 1]? = some (.cells #[.int .i64 day] 3 (0, 0)) := (hWbb.block _ (by omega)).trans ((hWa.block _ (by omega)).trans HBX.out)
  have hBW : Below w.heap.size w Wb := (((below_alloc w _).trans ((below_alloc _ _).mono (by simp))).trans (HB1.out.mono (by simp; omega))).trans ((hWa.mono (by omega)).trans (hWbb.mono (by omega)))
  rw [hWas] at hback
  have hbl := born_length p
  refine wpIn_wide.1 (wide_range (n := 0) (gf := 92) (lb := #[.pointer (some ⟨w1.heap.size + 1, 0, none⟩)]) rfl (enters_of Try.func92 (by kernel_rfl) rfl)
    (backward_all w1.heap.size (w1.heap.size + 1) _ _ (by omega) _ (by omega) hback) (fun _ => rfl) Kp.trans (Kp.b (by omega))
    (fun (pre : List (Nat × BR)) (W : World) => OI w1.heap.size Wb (onL day (snds pre)) W) (fun s X Y row hs hg hr => OI.own _ _ _ X Y row hs hg hr) ⟨_, hWbn, World.ownsRow_nil _ _ _ _, Fr.refl _ _⟩
    (fun (pre : List (Nat × BR)) (x : Nat × BR) (a' : Act) (W' : World) => OI w1.heap.size Wb (onL day (snds pre)) W' ∧ ∃ Bx, W'.heap[Bx]? = some (.cells #[.int .i64 x.2.1.1, .int .i64 x.2.1.2] 41 (0, 0)) ∧ ownB W' w1.heap.size ≠ some Bx ∧ a' = { tmps := #[.agg #[.int .i64 p.lo, .int .i64 p.hi, rv, cv], .int .i64 day, .pointer (some ⟨w.heap.size, 0, none⟩), .pointer (some ⟨w.heap.size + 1, 0, none⟩), .slice none 0 0, .int .i64 0, .slice (some ⟨b1, o1, none⟩) (l.length + 1) k1, .int .i64 p.fault, .pointer (some ⟨w1.heap.size, 0, none⟩), undef, .pointer (some ⟨Bx, 0, none⟩), .tuple #[.slice (some ⟨b1, o1, none⟩) (l.length + 1) k1, .int .i64 p.fault], .agg #[.int .i64 p.lo, .int .i64 p.hi, rv, cv], .tuple #[.slice (some ⟨b1, o1, none⟩) (l.length + 1) k1, .int .i64 p.fault], .slice (some ⟨b1, o1, none⟩) (l.length + 1) k1, .int .i64 p.fault, .bool false, .int .i64 p.fault, .bool false, undef, .bool false, .int .i64 day, .bool true, .bool false, .bool false, .slice (some ⟨b1, o1, none⟩) (l.length + 1) k1, .int .i64 ((l.length : Int) + 1), .bool false, .bool (decide (day < r.1)), .slice (some ⟨b1, o1, none⟩) (l.length + 1) k1, .pointer (some ⟨b1, o1, none⟩), .pointer (some ⟨b1, o1, none⟩), .int .i64 r.1, .int .i64 day, .bool (decide (day < r.1)), .slice (some ⟨b1, o1, none⟩) (l.length + 1) k1, .func (.func 92) #[] #[.pointer (some ⟨w1.heap.size + 1, 0, none⟩)], .int .i64 (x.1 : Int), .agg #[.int .i64 x.2.1.1, .int .i64 x.2.1.2], undef, undef, undef, undef, undef, undef, undef, undef, undef, undef, undef, undef, undef, undef, undef, undef, undef, undef, undef, undef], defers := [] })
    ?hA ?assign ?body ?done)
  case hA =>
    rintro pre x a' s X Y row ⟨hs, Bx, hbx, hne, rfl⟩ hg hr
    have hno : ∀ (q : Nat) (c : Array Value) (t : TypeId) (fr : Nat × Nat), X.heap[q]? = some (Obj.cells c t fr) → Y.heap[q]? = some (Obj.cells c t fr) := fun q c t fr hq => by
      rw [hg.block _ (Array.getElem?_eq_some_iff.1 hq).1 (fun e => by obtain ⟨_, o, ho, hc⟩ := hr _ e.symm; rw [hq] at ho; cases ho; cases hc)]
      exact hq
    refine ⟨OI.own _ _ _ X Y row hs hg hr, Bx, hno _ _ _ _ hbx, ?_, rfl⟩
    obtain ⟨lv, h1, _⟩ := hs
    rw [ownB_of (hno _ _ _ _ h1), ← ownB_of h1]; exact hne
  case assign =>
    rintro l1 pre x W1 hy hlen
    have HY := Lib.hid hy
    have hW1 : w1.heap.size < W1.heap.size := by obtain ⟨_, h, _⟩ := hy; exact (Array.getElem?_eq_some_iff.1 h).1
    have hown : ownB (W1.alloc (.cells #[.int .i64 x.2.1.1, .int .i64 x.2.1.2] 41)) w1.heap.size ≠ some W1.heap.size := by
      obtain ⟨lv, h1, h2, _⟩ := hy
      rw [ownB_same ((below_alloc W1 _).block _ hW1), ownB_of h1]
      intro e; have := (h2.own _ e).2; omega
    have HOW := Lib.hid hown
    clear hy hown
    simp only [encB]
    gi_wp2
    exact ⟨Kp.alloc hW1 _, KeepsOthers.alloc _ _, OwnFrom.alloc (OI.own _ _) _ HY.out, W1.heap.size, heap_alloc_new _ _, HOW.out, rfl⟩
  case body =>
    rintro l1 pre x a' W1 hl ⟨rr, hrr⟩ ⟨⟨lv, y1, y2, y3⟩, Bx, hbx, hne, rfl⟩ hlen
    rw [ownB_of y1] at hne
    obtain ⟨la, lc, hlv⟩ := y2.slice
    generalize hln : (onL day (snds pre)).length = nl at hlv
    subst hlv
    have x0 : W1.cell? ⟨Bx, 0, none⟩ = some (.int .i64 x.2.1.1) := cell_of_row _ _ 0 _ _ _ hbx
    have x1' : W1.cell? ⟨Bx, 1, none⟩ = some (.int .i64 x.2.1.2) := cell_of_row _ _ 1 _ _ _ hbx
    have z0 : W1.cell? ⟨w1.heap.size, 0, none⟩ = some (.slice la nl lc) := cell_of_row _ _ 0 _ _ _ y1
    have z1 : W1.cell? ⟨w.heap.size + 1, 0, none⟩ = some (.int .i64 day) := cell_of_row _ _ 0 _ _ _ ((y3.block _ (by omega) (by omega)).trans hWbd)
    have hW1 := (Array.getElem?_eq_some_iff.1 y1).1
    have hBxs := (Array.getElem?_eq_some_iff.1 hbx).1
    have hWs := y3.size
    obtain ⟨hx1, hx2, hx3, hx4⟩ := x.2.2
    have hfold := onL_facts day hd1 hd2 (snds pre).length (snds pre) rfl
    have hplen : (snds pre).length ≤ 1000 := by rw [snds_length]; omega
    by_cases hle : x.2.1.1 ≤ day
    · have hsn : onL day (snds (pre ++ [x])) = ext (onL day (snds pre)) ((day - mn x.2.1.2 day) / 365) ((day - x.2.1.1) / 365) := by rw [snds_snoc, onL_snoc, onF, if_pos hle]
      have HX := Lib.hid (fun (X : World) (hX : Below W1.heap.size W1 X) lo hi => extended_grow Wb.heap.size (.slice la nl lc) (onL day (snds pre)) lo hi X (RS.bel y2 hX) (by omega) (Nat.le_trans hWs hX.size) (fun r hr => by have := hfold.2 r hr; omega))
      have HST := Lib.hid (fun (X W2 : World) (v' : Value) (hX : Below W1.heap.size W1 X) (g1 : RS W2 Wb.heap.size v' (ext (onL day (snds pre)) ((day - mn x.2.1.2 day) / 365) ((day - x.2.1.1) / 365))) g2 g3 => OI.step (by omega) y1 y2 y3 hX g1 g2 g3)
      have HOB : Hid (∀ q, (Value.slice la nl lc).ownBlock = some q → Wb.heap.size ≤ q) := fun q hq => (y2.own q hq).1
      have HNE := Lib.hid hne
      have HSN := Lib.hid hsn
      have HY1 := Lib.hid y1
      have HBX2 := Lib.hid hbx
      clear hsn y1 y2 y3 hfold hbx hne hln
      generalize hxl : x.2.1.1 = xl at *
      generalize hxh : x.2.1.2 = xh at *
      clear hxl hxh
      have mb : -1000000 ≤ mn xh day ∧ mn xh day ≤ day := by unfold mn; omega
      obtain ⟨mb1, mb2⟩ := mb
      gi_wp2_with fail
      refine region_wide (fun W' => W'.cell? ⟨w.heap.size + 1, 0, none⟩ = some (.int .i64 day) ∧ W'.cell? ⟨Bx, 0, none⟩ = some (.int .i64 xl) ∧ W'.cell? ⟨Bx, 1, none⟩ = some (.int .i64 xh)) (by kernel_rfl) (no_defer (by kernel_rfl)) ⟨z1, x0, x1'⟩ (fun hS => ?_)
      refine wpAnyH_take (i := 1) (oi := ⟨some 44, .load 3 (.tmp 3), _, _, _, _⟩) (v := .int .i64 day) rfl (by kernel_rfl) (by kernel_rfl) (by kernel_rfl) (fun _ _ _ h => h) (Or.inl ⟨by rfl, ?_⟩) hS ?_
      · intro W' hSw; (try dsimp only at hSw); obtain ⟨s0, s1, s2⟩ := hSw; go_simp
      simp only [Act.put, List.setIfInBounds_toArray, List.set_cons_zero, List.set_cons_succ]
      refine wpAnyH_take (i := 2) (oi := ⟨some 45, .fieldAddr 41 (.tmp 10) 1, _, _, _, _⟩) (v := .pointer (some ⟨Bx, 1, none⟩)) rfl (by kernel_rfl) (by kernel_rfl) (by kernel_rfl) (fun _ _ _ h => h) (Or.inl ⟨by rfl, ?_⟩) hS ?_
      · intro W' hSw; (try dsimp only at hSw); obtain ⟨s0, s1, s2⟩ := hSw; go_simp
      simp only [Act.put, List.setIfInBounds_toArray, List.set_cons_zero, List.set_cons_succ]
      refine wpAnyH_take (i := 3) (oi := ⟨some 46, .load 3 (.tmp 45), _, _, _, _⟩) (v := .int .i64 xh) rfl (by kernel_rfl) (by kernel_rfl) (by kernel_rfl) (fun _ _ _ h => h) (Or.inl ⟨by rfl, ?_⟩) hS ?_
      · intro W' hSw; (try dsimp only at hSw); obtain ⟨s0, s1, s2⟩ := hSw; go_simp
      simp only [Act.put, List.setIfInBounds_toArray, List.set_cons_zero, List.set_cons_succ]
      refine wpAnyH_take (i := 4) (oi := ⟨some 47, .load 3 (.tmp 3), _, _, _, _⟩) (v := .int .i64 day) rfl (by kernel_rfl) (by kernel_rfl) (by kernel_rfl) (fun _ _ _ h => h) (Or.inl ⟨by rfl, ?_⟩) hS ?_
      · intro W' hSw; (try dsimp only at hSw); obtain ⟨s0, s1, s2⟩ := hSw; go_simp
      simp only [Act.put, List.setIfInBounds_toArray, List.set_cons_zero, List.set_cons_succ]
      refine wpAnyH_take (i := 9) (oi := ⟨some 52, .load 3 (.tmp 3), _, _, _, _⟩) (v := .int .i64 day) rfl (by kernel_rfl) (by kernel_rfl) (by kernel_rfl) (fun _ _ _ h => h) (Or.inl ⟨by rfl, ?_⟩) hS ?_
      · intro W' hSw; (try dsimp only at hSw); obtain ⟨s0, s1, s2⟩ := hSw; go_simp
      simp only [Act.put, List.setIfInBounds_toArray, List.set_cons_zero, List.set_cons_succ]
      refine wpAnyH_take (i := 10) (oi := ⟨some 53, .fieldAddr 41 (.tmp 10) 0, _, _, _, _⟩) (v := .pointer (some ⟨Bx, 0, none⟩)) rfl (by kernel_rfl) (by kernel_rfl) (by kernel_rfl) (fun _ _ _ h => h) (Or.inl ⟨by rfl, ?_⟩) hS ?_
      · intro W' hSw; (try dsimp only at hSw); obtain ⟨s0, s1, s2⟩ := hSw; go_simp
      simp only [Act.put, List.setIfInBounds_toArray, List.set_cons_zero, List.set_cons_succ]
      refine wpAnyH_take (i := 11) (oi := ⟨some 54, .load 3 (.tmp 53), _, _, _, _⟩) (v := .int .i64 xl) rfl (by kernel_rfl) (by kernel_rfl) (by kernel_rfl) (fun _ _ _ h => h) (Or.inl ⟨by rfl, ?_⟩) hS ?_
      · intro W' hSw; (try dsimp only at hSw); obtain ⟨s0, s1, s2⟩ := hSw; go_simp
      simp only [Act.put, List.setIfInBounds_toArray, List.set_cons_zero, List.set_cons_succ]
      have e1 : IntKind.i64.wrap (day - xl) = day - xl := IntWalk.i64_in _ (by omega)
      have e2 : (day - xl).tdiv 365 = (day - xl) / 365 := Int.tdiv_eq_ediv_of_nonneg (by omega)
      have e3 : IntKind.i64.wrap ((day - xl) / 365) = (day - xl) / 365 := IntWalk.i64_in _ (by omega)
      have e4 : IntKind.i64.wrap (day - mn xh day) = day - mn xh day := IntWalk.i64_in _ (by omega)
      have e5 : (day - mn xh day).tdiv 365 = (day - mn xh day) / 365 := Int.tdiv_eq_ediv_of_nonneg (by omega)
      have e6 : IntKind.i64.wrap ((day - mn xh day) / 365) = (day - mn xh day) / 365 := IntWalk.i64_in _ (by omega)
      refine wpAnyH_take (i := 12) (oi := ⟨some 55, .binOp .sub 3 (.tmp 52) (.tmp 54) 3, _, _, _, _⟩) (v := .int .i64 (day - xl)) rfl (by kernel_rfl) (by kernel_rfl) (by kernel_rfl) (fun _ _ _ h => h) (Or.inl ⟨by rfl, ?_⟩) hS ?_
      · intro W' hSw; (try dsimp only at hSw); obtain ⟨s0, s1, s2⟩ := hSw; go_simp
      simp only [Act.put, List.setIfInBounds_toArray, List.set_cons_zero, List.set_cons_succ]
      refine wpAnyH_take (i := 13) (oi := ⟨some 56, .binOp .quo 3 (.tmp 55) (.const (.int .i64 365)) 3, _, _, _, _⟩) (v := .int .i64 ((day - xl) / 365)) rfl (by kernel_rfl) (by kernel_rfl) (by kernel_rfl) (fun _ _ _ h => h) (Or.inl ⟨by rfl, ?_⟩) hS ?_
      · intro W' hSw; (try dsimp only at hSw); obtain ⟨s0, s1, s2⟩ := hSw; go_simp
      simp only [Act.put, List.setIfInBounds_toArray, List.set_cons_zero, List.set_cons_succ]
      have HSB : Hid (∀ X : World, Below W1.heap.size W1 X → X.cell? ⟨w.heap.size + 1, 0, none⟩ = some (.int .i64 day) ∧ X.cell? ⟨Bx, 0, none⟩ = some (.int .i64 xl) ∧ X.cell? ⟨Bx, 1, none⟩ = some (.int .i64 xh)) := fun X hX => ⟨(hX.cell (p := ⟨w.heap.size + 1, _, none⟩) (by show w.heap.size + 1 < _; omega)).trans z1, (hX.cell (p := ⟨Bx, _, none⟩) hBxs).trans x0, (hX.cell (p := ⟨Bx, _, none⟩) hBxs).trans x1'⟩
      have HNW : Hid (∀ X : World, (X = (W1.alloc (.cells #[.int .i64 xh, .int .i64 day] 3)).drew ∨ X = W1.drew.alloc (.cells #[.int .i64 xh, .int .i64 day] 3)) → X.heap[W1.heap.size]? = some (.cells #[.int .i64 xh, .int .i64 day] 3 (0, 0))) := fun X hX => by rcases hX with rfl | rfl <;> exact heap_alloc_new W1 _
      have HSG : Hid (∀ X W2 : World, Below W1.heap.size W1 X → X.grownBy W2 (Value.slice la nl lc).ownBlock → W2.heap[w1.heap.size]? = some (.cells #[.slice la nl lc] 38 (0, 0)) ∧ W2.cell? ⟨w1.heap.size, 0, none⟩ = some (.slice la nl lc) ∧ W2.frozen? ⟨w1.heap.size, 0, none⟩ = false ∧ (W2.cell? ⟨w.heap.size + 1, 0, none⟩ = some (.int .i64 day) ∧ W2.cell? ⟨Bx, 0, none⟩ = some (.int .i64 xl) ∧ W2.cell? ⟨Bx, 1, none⟩ = some (.int .i64 xh)) ∧ ∀ u, ((W2.setCell ⟨w1.heap.size, 0, none⟩ u).cell? ⟨w.heap.size + 1, 0, none⟩ = some (.int .i64 day) ∧ (W2.setCell ⟨w1.heap.size, 0, none⟩ u).cell? ⟨Bx, 0, none⟩ = some (.int .i64 xl) ∧ (W2.setCell ⟨w1.heap.size, 0, none⟩ u).cell? ⟨Bx, 1, none⟩ = some (.int .i64 xh))) := fun X W2 hX hg => by
        have hb := grown_block hg hX hW1 (fun q e => by have := HOB.out q e; omega) HY1.out
        have hbX := grown_block hg hX hBxs (fun q e e2 => HNE.out (by rw [e, e2])) HBX2.out
        have hXc := hX.size
        have c1 : W2.cell? ⟨w.heap.size + 1, 0, none⟩ = some (.int .i64 day) := by
          rw [hg.cell_far ⟨w.heap.size + 1, 0, none⟩ (by show w.heap.size + 1 < _; omega) (fun e => by have := HOB.out (w.heap.size + 1) e.symm; omega), hX.cell (p := ⟨w.heap.size + 1, 0, none⟩) (by show w.heap.size + 1 < _; omega)]; exact z1
        have hne2 : Bx ≠ w1.heap.size := fun e => by rw [e] at hbX; rw [hb] at hbX; cases hbX
        refine ⟨hb, cell_of_row _ _ 0 _ _ _ hb, frozen_of_row _ _ 0 _ _ hb, ⟨c1, cell_of_row _ _ 0 _ _ _ hbX, cell_of_row _ _ 1 _ _ _ hbX⟩, fun u => ⟨?_, ?_, ?_⟩⟩
        · rw [World.cell?_setCell_far _ _ _ _ (by show w1.heap.size ≠ w.heap.size + 1; omega)]; exact c1
        · rw [World.cell?_setCell_far _ _ _ _ (by show w1.heap.size ≠ Bx; omega)]; exact cell_of_row _ _ 0 _ _ _ hbX
        · rw [World.cell?_setCell_far _ _ _ _ (by show w1.heap.size ≠ Bx; omega)]; exact cell_of_row _ _ 1 _ _ _ hbX
      refine wpAnyH_ready (rs := [0, 5]) (by kernel_rfl) (by simp) ?_
      refine AllReadyH.cons (o := ⟨some 43, .load 38 (.tmp 8), _, _, _, _⟩) rfl (fun K hK => ?_) ?_
      ·
        go_simp
        refine hK.out _ _ ?_ (fun hS => ?_)
        · exact HSB.out _ (by first | exact (Below.refl _ _).drew | exact (below_alloc _ _).drew | exact ((Below.refl _ _).drew).alloc (by simp) _)
        clear hK K
        try simp only [Act.put, List.setIfInBounds_toArray, List.set_cons_zero, List.set_cons_succ]
        refine wpAnyH_ready (rs := [5]) (by kernel_rfl) (by simp) ?_
        refine AllReadyH.cons (o := ⟨some 48, .buildSlice 22 2 #[(0, .tmp 46), (1, .tmp 47)], _, _, _, _⟩) rfl (fun K hK => ?_) ?_
        ·
          go_simp
          refine hK.out _ _ ?_ (fun hS => ?_)
          · exact HSB.out _ (by first | exact (Below.refl _ _).drew | exact (below_alloc _ _).drew | exact ((Below.refl _ _).drew).alloc (by simp) _)
          clear hK K
          try simp only [Act.put, List.setIfInBounds_toArray, List.set_cons_zero, List.set_cons_succ]
          refine wpAnyH_ready (rs := [6]) (by kernel_rfl) (by simp) ?_
          refine AllReadyH.cons (o := ⟨some 49, .call ⟨.value (.func 69), #[.tmp 48], #[22]⟩, _, _, _, _⟩) rfl (fun K hK => ?_) ?_
          ·
            go_simp
            refine (smallest_mn _ xh day _ ?_ ?_).mono ?_
            · exact cell_of_row _ _ 0 _ _ _ (HNW.out _ (by first | exact .inl rfl | exact .inr rfl))
            · exact cell_of_row _ _ 1 _ _ _ (HNW.out _ (by first | exact .inl rfl | exact .inr rfl))
            rintro e w' ⟨rfl, rfl⟩
            (try go_wp2_with fail)
            refine hK.out _ _ ?_ (fun hS => ?_)
            · exact HSB.out _ (by first | exact (Below.refl _ _).drew | exact (below_alloc _ _).drew | exact ((Below.refl _ _).drew).alloc (by simp) _)
            clear hK K
            try simp only [Act.put, List.setIfInBounds_toArray, List.set_cons_zero, List.set_cons_succ]
            refine wpAnyH_take (i := 7) (oi := ⟨some 50, .binOp .sub 3 (.tmp 44) (.tmp 49) 3, _, _, _, _⟩) (v := .int .i64 (day - mn xh day)) rfl (by kernel_rfl) (by kernel_rfl) (by kernel_rfl) (fun _ _ _ h => h) (Or.inl ⟨by rfl, ?_⟩) hS ?_
            · intro W' hSw; (try dsimp only at hSw); obtain ⟨s0, s1, s2⟩ := hSw; go_simp
            simp only [Act.put, List.setIfInBounds_toArray, List.set_cons_zero, List.set_cons_succ]
            refine wpAnyH_take (i := 8) (oi := ⟨some 51, .binOp .quo 3 (.tmp 50) (.const (.int .i64 365)) 3, _, _, _, _⟩) (v := .int .i64 ((day - mn xh day) / 365)) rfl (by kernel_rfl) (by kernel_rfl) (by kernel_rfl) (fun _ _ _ h => h) (Or.inl ⟨by rfl, ?_⟩) hS ?_
            · intro W' hSw; (try dsimp only at hSw); obtain ⟨s0, s1, s2⟩ := hSw; go_simp
            simp only [Act.put, List.setIfInBounds_toArray, List.set_cons_zero, List.set_cons_succ]
            refine wpAnyH_ready (rs := [14]) (by kernel_rfl) (by simp) ?_
            refine AllReadyH.cons (o := ⟨some 57, .call ⟨.value (.func 68), #[.tmp 43, .tmp 51, .tmp 56], #[38, 3, 3]⟩, _, _, _, _⟩) rfl (fun K hK => ?_) ?_
            ·
              go_simp
              refine (HX.out _ (by first | exact (Below.refl _ _).drew | exact (below_alloc _ _).drew | exact ((Below.refl _ _).drew).alloc (by simp) _) _ _).mono ?_
              rintro e W2 ⟨v', rfl, g1, g2, g3⟩
              have HG := Lib.hid (HST.out _ W2 v' (by first | exact (Below.refl _ _).drew | exact (below_alloc _ _).drew | exact ((Below.refl _ _).drew).alloc (by simp) _) g1 g2 g3)
              have hSG := HSG.out _ W2 (by first | exact (Below.refl _ _).drew | exact (below_alloc _ _).drew | exact ((Below.refl _ _).drew).alloc (by simp) _) g2
              obtain ⟨hblk, hc2, hf2, hSG2, hSG3⟩ := hSG
              obtain ⟨la', lc', rfl⟩ := g1.slice
              clear g1 g2 g3
              (try go_wp2_with fail)
              refine hK.out _ _ ?_ (fun hS => ?_)
              · exact hSG2
              clear hK K
              try simp only [Act.put, List.setIfInBounds_toArray, List.set_cons_zero, List.set_cons_succ]
              refine wpAnyH_ready (rs := [15]) (by kernel_rfl) (by simp) ?_
              refine AllReadyH.cons (o := ⟨none, .store 38 (.tmp 8) (.tmp 57), _, _, _, _⟩) rfl (fun K hK => ?_) ?_
              ·
                go_simp
                refine hK.out _ _ ?_ (fun hS => ?_)
                · exact hSG3 _
                clear hK K
                try simp only [Act.put, List.setIfInBounds_toArray, List.set_cons_zero, List.set_cons_succ]
                refine wpAnyH_done (by kernel_rfl) ?_ _
                (try gi_wp2)
                rw [HSN.out]
                exact HG.out
              exact AllReadyH.nil
            exact AllReadyH.nil
          exact AllReadyH.nil
        exact AllReadyH.nil
      refine AllReadyH.cons (o := ⟨some 48, .buildSlice 22 2 #[(0, .tmp 46), (1, .tmp 47)], _, _, _, _⟩) rfl (fun K hK => ?_) ?_
      ·
        go_simp
        refine hK.out _ _ ?_ (fun hS => ?_)
        · exact HSB.out _ (by first | exact (Below.refl _ _).drew | exact (below_alloc _ _).drew | exact ((Below.refl _ _).drew).alloc (by simp) _)
        clear hK K
        try simp only [Act.put, List.setIfInBounds_toArray, List.set_cons_zero, List.set_cons_succ]
        refine wpAnyH_ready (rs := [0, 6]) (by kernel_rfl) (by simp) ?_
        refine AllReadyH.cons (o := ⟨some 43, .load 38 (.tmp 8), _, _, _, _⟩) rfl (fun K hK => ?_) ?_
        ·
          go_simp
          refine hK.out _ _ ?_ (fun hS => ?_)
          · exact HSB.out _ (by first | exact (Below.refl _ _).drew | exact (below_alloc _ _).drew | exact ((Below.refl _ _).drew).alloc (by simp) _)
          clear hK K
          try simp only [Act.put, List.setIfInBounds_toArray, List.set_cons_zero, List.set_cons_succ]
          refine wpAnyH_ready (rs := [6]) (by kernel_rfl) (by simp) ?_
          refine AllReadyH.cons (o := ⟨some 49, .call ⟨.value (.func 69), #[.tmp 48], #[22]⟩, _, _, _, _⟩) rfl (fun K hK => ?_) ?_
          ·
            go_simp
            refine (smallest_mn _ xh day _ ?_ ?_).mono ?_
            · exact cell_of_row _ _ 0 _ _ _ (HNW.out _ (by first | exact .inl rfl | exact .inr rfl))
            · exact cell_of_row _ _ 1 _ _ _ (HNW.out _ (by first | exact .inl rfl | exact .inr rfl))
            rintro e w' ⟨rfl, rfl⟩
            (try go_wp2_with fail)
            refine hK.out _ _ ?_ (fun hS => ?_)
            · exact HSB.out _ (by first | exact (Below.refl _ _).drew | exact (below_alloc _ _).drew | exact ((Below.refl _ _).drew).alloc (by simp) _)
            clear hK K
            try simp only [Act.put, List.setIfInBounds_toArray, List.set_cons_zero, List.set_cons_succ]
            refine wpAnyH_take (i := 7) (oi := ⟨some 50, .binOp .sub 3 (.tmp 44) (.tmp 49) 3, _, _, _, _⟩) (v := .int .i64 (day - mn xh day)) rfl (by kernel_rfl) (by kernel_rfl) (by kernel_rfl) (fun _ _ _ h => h) (Or.inl ⟨by rfl, ?_⟩) hS ?_
            · intro W' hSw; (try dsimp only at hSw); obtain ⟨s0, s1, s2⟩ := hSw; go_simp
            simp only [Act.put, List.setIfInBounds_toArray, List.set_cons_zero, List.set_cons_succ]
            refine wpAnyH_take (i := 8) (oi := ⟨some 51, .binOp .quo 3 (.tmp 50) (.const (.int .i64 365)) 3, _, _, _, _⟩) (v := .int .i64 ((day - mn xh day) / 365)) rfl (by kernel_rfl) (by kernel_rfl) (by kernel_rfl) (fun _ _ _ h => h) (Or.inl ⟨by rfl, ?_⟩) hS ?_
            · intro W' hSw; (try dsimp only at hSw); obtain ⟨s0, s1, s2⟩ := hSw; go_simp
            simp only [Act.put, List.setIfInBounds_toArray, List.set_cons_zero, List.set_cons_succ]
            refine wpAnyH_ready (rs := [14]) (by kernel_rfl) (by simp) ?_
            refine AllReadyH.cons (o := ⟨some 57, .call ⟨.value (.func 68), #[.tmp 43, .tmp 51, .tmp 56], #[38, 3, 3]⟩, _, _, _, _⟩) rfl (fun K hK => ?_) ?_
            ·
              go_simp
              refine (HX.out _ (by first | exact (Below.refl _ _).drew | exact (below_alloc _ _).drew | exact ((Below.refl _ _).drew).alloc (by simp) _) _ _).mono ?_
              rintro e W2 ⟨v', rfl, g1, g2, g3⟩
              have HG := Lib.hid (HST.out _ W2 v' (by first | exact (Below.refl _ _).drew | exact (below_alloc _ _).drew | exact ((Below.refl _ _).drew).alloc (by simp) _) g1 g2 g3)
              have hSG := HSG.out _ W2 (by first | exact (Below.refl _ _).drew | exact (below_alloc _ _).drew | exact ((Below.refl _ _).drew).alloc (by simp) _) g2
              obtain ⟨hblk, hc2, hf2, hSG2, hSG3⟩ := hSG
              obtain ⟨la', lc', rfl⟩ := g1.slice
              clear g1 g2 g3
              (try go_wp2_with fail)
              refine hK.out _ _ ?_ (fun hS => ?_)
              · exact hSG2
              clear hK K
              try simp only [Act.put, List.setIfInBounds_toArray, List.set_cons_zero, List.set_cons_succ]
              refine wpAnyH_ready (rs := [15]) (by kernel_rfl) (by simp) ?_
              refine AllReadyH.cons (o := ⟨none, .store 38 (.tmp 8) (.tmp 57), _, _, _, _⟩) rfl (fun K hK => ?_) ?_
              ·
                go_simp
                refine hK.out _ _ ?_ (fun hS => ?_)
                · exact hSG3 _
                clear hK K
                try simp only [Act.put, List.setIfInBounds_toArray, List.set_cons_zero, List.set_cons_succ]
                refine wpAnyH_done (by kernel_rfl) ?_ _
                (try gi_wp2)
                rw [HSN.out]
                exact HG.out
              exact AllReadyH.nil
            exact AllReadyH.nil
          exact AllReadyH.nil
        refine AllReadyH.cons (o := ⟨some 49, .call ⟨.value (.func 69), #[.tmp 48], #[22]⟩, _, _, _, _⟩) rfl (fun K hK => ?_) ?_
        ·
          go_simp
          refine (smallest_mn _ xh day _ ?_ ?_).mono ?_
          · exact cell_of_row _ _ 0 _ _ _ (HNW.out _ (by first | exact .inl rfl | exact .inr rfl))
          · exact cell_of_row _ _ 1 _ _ _ (HNW.out _ (by first | exact .inl rfl | exact .inr rfl))
          rintro e w' ⟨rfl, rfl⟩
          (try go_wp2_with fail)
          refine hK.out _ _ ?_ (fun hS => ?_)
          · exact HSB.out _ (by first | exact (Below.refl _ _).drew | exact (below_alloc _ _).drew | exact ((Below.refl _ _).drew).alloc (by simp) _)
          clear hK K
          try simp only [Act.put, List.setIfInBounds_toArray, List.set_cons_zero, List.set_cons_succ]
          refine wpAnyH_take (i := 7) (oi := ⟨some 50, .binOp .sub 3 (.tmp 44) (.tmp 49) 3, _, _, _, _⟩) (v := .int .i64 (day - mn xh day)) rfl (by kernel_rfl) (by kernel_rfl) (by kernel_rfl) (fun _ _ _ h => h) (Or.inl ⟨by rfl, ?_⟩) hS ?_
          · intro W' hSw; (try dsimp only at hSw); obtain ⟨s0, s1, s2⟩ := hSw; go_simp
          simp only [Act.put, List.setIfInBounds_toArray, List.set_cons_zero, List.set_cons_succ]
          refine wpAnyH_take (i := 8) (oi := ⟨some 51, .binOp .quo 3 (.tmp 50) (.const (.int .i64 365)) 3, _, _, _, _⟩) (v := .int .i64 ((day - mn xh day) / 365)) rfl (by kernel_rfl) (by kernel_rfl) (by kernel_rfl) (fun _ _ _ h => h) (Or.inl ⟨by rfl, ?_⟩) hS ?_
          · intro W' hSw; (try dsimp only at hSw); obtain ⟨s0, s1, s2⟩ := hSw; go_simp
          simp only [Act.put, List.setIfInBounds_toArray, List.set_cons_zero, List.set_cons_succ]
          refine wpAnyH_ready (rs := [0]) (by kernel_rfl) (by simp) ?_
          refine AllReadyH.cons (o := ⟨some 43, .load 38 (.tmp 8), _, _, _, _⟩) rfl (fun K hK => ?_) ?_
          ·
            go_simp
            refine hK.out _ _ ?_ (fun hS => ?_)
            · exact HSB.out _ (by first | exact (Below.refl _ _).drew | exact (below_alloc _ _).drew | exact ((Below.refl _ _).drew).alloc (by simp) _)
            clear hK K
            try simp only [Act.put, List.setIfInBounds_toArray, List.set_cons_zero, List.set_cons_succ]
            refine wpAnyH_ready (rs := [14]) (by kernel_rfl) (by simp) ?_
            refine AllReadyH.cons (o := ⟨some 57, .call ⟨.value (.func 68), #[.tmp 43, .tmp 51, .tmp 56], #[38, 3, 3]⟩, _, _, _, _⟩) rfl (fun K hK => ?_) ?_
            ·
              go_simp
              refine (HX.out _ (by first | exact (Below.refl _ _).drew | exact (below_alloc _ _).drew | exact ((Below.refl _ _).drew).alloc (by simp) _) _ _).mono ?_
              rintro e W2 ⟨v', rfl, g1, g2, g3⟩
              have HG := Lib.hid (HST.out _ W2 v' (by first | exact (Below.refl _ _).drew | exact (below_alloc _ _).drew | exact ((Below.refl _ _).drew).alloc (by simp) _) g1 g2 g3)
              have hSG := HSG.out _ W2 (by first | exact (Below.refl _ _).drew | exact (below_alloc _ _).drew | exact ((Below.refl _ _).drew).alloc (by simp) _) g2
              obtain ⟨hblk, hc2, hf2, hSG2, hSG3⟩ := hSG
              obtain ⟨la', lc', rfl⟩ := g1.slice
              clear g1 g2 g3
              (try go_wp2_with fail)
              refine hK.out _ _ ?_ (fun hS => ?_)
              · exact hSG2
              clear hK K
              try simp only [Act.put, List.setIfInBounds_toArray, List.set_cons_zero, List.set_cons_succ]
              refine wpAnyH_ready (rs := [15]) (by kernel_rfl) (by simp) ?_
              refine AllReadyH.cons (o := ⟨none, .store 38 (.tmp 8) (.tmp 57), _, _, _, _⟩) rfl (fun K hK => ?_) ?_
              ·
                go_simp
                refine hK.out _ _ ?_ (fun hS => ?_)
                · exact hSG3 _
                clear hK K
                try simp only [Act.put, List.setIfInBounds_toArray, List.set_cons_zero, List.set_cons_succ]
                refine wpAnyH_done (by kernel_rfl) ?_ _
                (try gi_wp2)
                rw [HSN.out]
                exact HG.out
              exact AllReadyH.nil
            exact AllReadyH.nil
          exact AllReadyH.nil
        exact AllReadyH.nil
      exact AllReadyH.nil
    · have hsn : onL day (snds (pre ++ [x])) = onL day (snds pre) := by rw [snds_snoc, onL_snoc, onF, if_neg hle]
      have HSN : Hid (OI w1.heap.size Wb (onL day (snds (pre ++ [x]))) W1) := by rw [hsn]; exact ⟨_, y1, y2, y3⟩
      clear hsn y1 y2 y3 hfold hbx hne hln
      generalize hxl : x.2.1.1 = xl at *
      generalize hxh : x.2.1.2 = xh at *
      clear hxl hxh
      gi_wp2
      exact ⟨KeepsOthers.refl _, Kp.refl _ _, HSN.out⟩
  case done =>
    rintro D xs W5 hD hxs ⟨lv, y1, y2, y3⟩ hK
    have hxl : onL day (snds xs) = onL day (yearsL p.born) := by rw [hxs]; rfl
    rw [hxl] at y2
    obtain ⟨la, lc, hlv⟩ := y2.slice
    generalize (onL day (yearsL p.born)).length = nl at hlv
    subst hlv
    have z0 : W5.cell? ⟨w1.heap.size, 0, none⟩ = some (.slice la nl lc) := cell_of_row _ _ 0 _ _ _ y1
    have HK := Lib.hid hK
    have HY2 := Lib.hid y2; have HY3 := Lib.hid y3
    have hW5 := y3.size
    clear hK y1 y2 y3 hxl hxs
    go_wp2
    refine ⟨by simp, .inl ⟨_, _, rfl, run_takeDeferred HK.out, ?_⟩⟩
    refine ⟨.tuple #[.slice la nl lc, .int .i64 0], by simp [results, Try.results26, go_sem], _, rfl, (RS.fr HY2.out (Fr.put W5 D _) ?_).mono (by omega), ?_⟩
    · rintro g cur _ _ hg rfl; rw [HK.out] at hg; cases hg
    · exact (hBW.trans (HY3.out.low (by omega) (fun q hq e => by omega))).trans ((Fr.put W5 D _).low (by omega) (fun q hq e => by omega))
end Go.Proofs.Ytagfcfojfjkmbaa
