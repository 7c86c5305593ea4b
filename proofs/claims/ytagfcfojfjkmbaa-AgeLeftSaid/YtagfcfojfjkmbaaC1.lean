/- meet: what is in both of two lists of ranges. -/
import Derived.Test.YtagfcfojfjkmbaaB3
import Derived.Test.YtagfcfojfjkmbaaA2
import Derived.Test.YtagfcfojfjkmbaaM1
import Derived.Deep.QuietTactic
import Derived.BigQuiet
import Derived.Deep.DeepCutAuto
namespace Go.Proofs.Ytagfcfojfjkmbaa
open Go.RowKit

/-- A slice that reads as the ranges l. -/
def RgAt (w : World) (sv : Value) (l : RL) : Prop :=
  (l = [] ∧ ∃ a cap, sv = .slice a 0 cap) ∨ ∃ b off cap, sv = .slice (some ⟨b, off, none⟩) l.length cap ∧ l.length ≤ cap ∧ b < w.heap.size ∧ ∀ j (h : j < l.length), w.cell? ⟨b, off + j * 2, none⟩ = some (.int .i64 l[j].1) ∧ w.cell? ⟨b, off + j * 2 + 1, none⟩ = some (.int .i64 l[j].2)
theorem RgAt.below {w w' : World} {sv : Value} {l : RL} (h : RgAt w sv l) {B : Nat} (hB : Below B w w') (hs : ∀ b off n cap, sv = .slice (some ⟨b, off, none⟩) n cap → l ≠ [] → b < B) : RgAt w' sv l := by
  rcases h with h | ⟨b, off, cap, rfl, hc, hb, hz⟩
  · exact .inl h
  · by_cases hl : l = []
    · subst hl; exact .inl ⟨rfl, _, _, rfl⟩
    · have hbB := hs b off _ _ rfl hl
      exact .inr ⟨b, off, cap, rfl, hc, Nat.lt_of_lt_of_le hb hB.size, fun j hj => ⟨(hB.cell (p := ⟨b, _, none⟩) hbB).trans (hz j hj).1, (hB.cell (p := ⟨b, _, none⟩) hbB).trans (hz j hj).2⟩⟩
theorem RgAt.kept {w w' : World} {sv : Value} {l : RL} (h : RgAt w sv l) (hB : Below w.heap.size w w') : RgAt w' sv l :=
  h.below hB (fun b off n cap e hl => by
    rcases h with ⟨h, _⟩ | ⟨b', off', cap', e', _, hb, _⟩
    · exact absurd h hl
    · rw [e] at e'; cases e'; exact hb)
theorem RgAt.slice {w : World} {sv : Value} {l : RL} (h : RgAt w sv l) : ∃ a cap, sv = .slice a l.length cap := by
  rcases h with ⟨rfl, a, cap, rfl⟩ | ⟨b, off, cap, rfl, _⟩
  · exact ⟨_, _, rfl⟩
  · exact ⟨_, _, rfl⟩
theorem RgAt.cons {w : World} {sv : Value} {x : Int × Int} {l : RL} (h : RgAt w sv (x :: l)) : ∃ b off cap, sv = .slice (some ⟨b, off, none⟩) (l.length + 1) cap ∧ l.length + 1 ≤ cap ∧ b < w.heap.size ∧ w.cell? ⟨b, off, none⟩ = some (.int .i64 x.1) ∧ w.cell? ⟨b, off + 1, none⟩ = some (.int .i64 x.2) ∧ ∀ c, (cap = 1 ∧ c = 0 → RgAt w (.slice (some ⟨b, off, none⟩) l.length c) l) ∧ (cap ≠ 1 ∧ c + 1 = cap → RgAt w (.slice (some ⟨b, off + 2, none⟩) l.length c) l) := by
  rcases h with ⟨h, _⟩ | ⟨b, off, cap, rfl, hc, hb, hz⟩
  · cases h
  · simp only [List.length_cons] at hc hz
    have h0 := hz 0 (by omega)
    simp only [Nat.zero_mul, Nat.add_zero, List.getElem_cons_zero] at h0
    refine ⟨b, off, cap, rfl, hc, hb, h0.1, h0.2, fun c => ⟨fun hcap => ?_, fun hcap => ?_⟩⟩
    · have : l = [] := List.eq_nil_of_length_eq_zero (by omega)
      subst this
      exact .inl ⟨rfl, _, _, rfl⟩
    · refine .inr ⟨b, off + 2, _, rfl, by omega, hb, fun j hj => ?_⟩
      have := hz (j + 1) (by omega)
      rw [show off + (j + 1) * 2 = off + 2 + j * 2 from by omega, List.getElem_cons_succ] at this
      exact this
theorem RS.rg {w : World} {base : Nat} {v : Value} {l : RL} (h : RS w base v l) : RgAt w v l := by
  have h0 := h
  rcases h.2 with ⟨rfl, hl⟩ | ⟨g, cap, cur, rfl, hg, hc, hfit, hcap, _, _⟩
  · have : l = [] := List.eq_nil_of_length_eq_zero (by simpa using hl)
    subst this; exact .inl ⟨rfl, _, _, rfl⟩
  · refine .inr ⟨g, 0, cap, rfl, by first | omega | assumption, (Array.getElem?_eq_some_iff.1 hc).1, fun j hj => ?_⟩
    have hf := flat_get l j hj
    have hl := flat_length l
    unfold RS at h0
    rw [Nat.zero_add, h0.cellAt _ (by omega), h0.cellAt _ (by omega)]
    exact hf

theorem RS.bel {w w' : World} {base : Nat} {v : Value} {l : RL} (h : RS w base v l) (hb : Below w.heap.size w w') : RS w' base v l := by
  unfold RS at *
  refine ⟨h.1, ?_⟩
  rcases h.2 with h | ⟨g, cap, cur, rfl, hg, hc, r⟩
  · exact .inl h
  · exact .inr ⟨g, cap, cur, rfl, hg, (hb.block _ (Array.getElem?_eq_some_iff.1 hc).1).trans hc, r⟩
theorem below_drewS (B : Nat) (w : World) (n : Nat) : Below B w (w.drewN n) := ⟨rfl, rfl, rfl, Nat.le_refl _, fun _ _ => rfl⟩
def lenOf : Value → Nat | .slice _ n _ => n | _ => 0

/-- min and max, not looked into by the walk. -/
def mn (x y : Int) : Int := min x y
def mx (x y : Int) : Int := max x y
theorem smallest_mn (b : Nat) (x y : Int) (w : World) (h0 : w.cell? ⟨b, 0, none⟩ = some (.int .i64 x)) (h1 : w.cell? ⟨b, 1, none⟩ = some (.int .i64 y)) :
    Calls Try.prog 69 #[.slice (some ⟨b, 0, none⟩) 2 2] w fun e w' => e = .returned (.int .i64 (mn x y)) ∧ w = w' := smallest_any b x y w h0 h1
theorem mx_lt {x y : Int} (h : x < y) : mx x y = y := by unfold mx; omega
theorem mx_ge {x y : Int} (h : ¬ x < y) : mx x y = x := by unfold mx; omega

/-- Where the loop stands. -/
def MeetAt (w : World) (a b : RL) (v0 v1 v4 : Value) (wr : World) : Prop :=
  ∃ a' b' o : RL, o ++ meetL a' b' = meetL a b ∧ a'.length ≤ a.length ∧ b'.length ≤ b.length ∧ RgAt w v0 a' ∧ RgAt w v1 b' ∧ RS wr w.heap.size v4 o ∧ Below w.heap.size w wr

theorem meet_app {a b a' b' o : RL} (h : o ++ meetL a' b' = meetL a b) : o.length ≤ a.length + b.length := by
  have := congrArg List.length h
  have h2 := meetL_length _ a b (Nat.le_refl _)
  simp at this; omega

attribute [local go_sem ↓] Go.wp_at_zero Go.wp_at_succ
set_option maxRecDepth 100000 in
set_option maxHeartbeats 4000000 in
theorem meet_any (va vb : Value) (a b : RL) (w : World) (ha : RgAt w va a) (hb : RgAt w vb b) (la : a.length ≤ 10000) (lb : b.length ≤ 10000) :
    Calls Try.prog 96 #[va, vb] w (Gives w w.heap.size (meetL a b)) := by
  obtain ⟨i0, hi0, hz0, hz1, hz2⟩ := info_parts Try.infoRange
  have HM : MeetAt w a b va vb (.slice none 0 0) w := ⟨a, b, [], rfl, Nat.le_refl _, Nat.le_refl _, ha, hb, World.ownsRow_nil _ _ _ _, Below.refl _ _⟩
  clear ha hb
  go_enter Try.func96, Try.ntmps96
  go_wp2
  go_loopw [0, 1, 4] (fun v0 v1 v4 wr => MeetAt w a b v0 v1 v4 wr) (fun v0 v1 _ _ => lenOf v0 + lenOf v1)
  case atStart => exact HM
  case round =>
    clear HM
    obtain ⟨a', b', o, he, ha', hb', h0, h1, h4, hB⟩ := hrel
    have hol := meet_app he
    have HE := Lib.hid he; clear he
    have H4 := Lib.hid h4; clear h4
    have HB := Lib.hid hB; clear hB
    have H0 := Lib.hid h0
    have H1 := Lib.hid h1
    cases a' with
    | nil =>
      obtain ⟨s, cap, rfl⟩ := h0.slice
      clear h0 h1
      go_wp2
      go_ret
      exact ⟨_, rfl, by have := HE.out; rw [meetL_nil_left, List.append_nil] at this; rw [← this]; exact H4.out, HB.out⟩
    | cons x a' =>
      obtain ⟨ba, oa, ca, rfl, hca, hba, x1, x2, ta⟩ := h0.cons
      have TA := Lib.hid ta; clear ta
      cases b' with
      | nil =>
        obtain ⟨s, cap, rfl⟩ := h1.slice
        clear h0 h1
        go_wp2
        go_ret
        exact ⟨_, rfl, by have := HE.out; rw [meetL_nil_right, List.append_nil] at this; rw [← this]; exact H4.out, HB.out⟩
      | cons y b' =>
        obtain ⟨bb, ob, cb, rfl, hcb, hbb, y1, y2, tb⟩ := h1.cons
        have TB := Lib.hid tb; clear tb
        clear h0 h1
        obtain ⟨xl, xh⟩ := x
        obtain ⟨yl, yh⟩ := y
        simp only [List.length_cons] at ha' hb' x1 x2 y1 y2
        have X1 := Lib.hid x1; have X2 := Lib.hid x2; have Y1 := Lib.hid y1; have Y2 := Lib.hid y2
        have c1 : wr.cell? ⟨ba, oa, none⟩ = some (.int .i64 xl) := (HB.out.cell (p := ⟨ba, _, none⟩) hba).trans x1
        have c2 : wr.cell? ⟨ba, oa + 1, none⟩ = some (.int .i64 xh) := (HB.out.cell (p := ⟨ba, _, none⟩) hba).trans x2
        have c3 : wr.cell? ⟨bb, ob, none⟩ = some (.int .i64 yl) := (HB.out.cell (p := ⟨bb, _, none⟩) hbb).trans y1
        have c4 : wr.cell? ⟨bb, ob + 1, none⟩ = some (.int .i64 yh) := (HB.out.cell (p := ⟨bb, _, none⟩) hbb).trans y2
        clear x1 x2 y1 y2
        have hbs := HB.out.size
        go_upto_region 2 with fail
        go_cut [5, 6] (fun s5 s6 wx => s5 = .int .i64 (mx xl yl) ∧ s6 = .int .i64 (mn xh yh) ∧ Below wr.heap.size wr wx)
        case first =>
          have cl : (xl < yl ∧ mx xl yl = yl) ∨ (¬ xl < yl ∧ mx xl yl = xl) := by
            by_cases h : xl < yl
            · exact .inl ⟨h, mx_lt h⟩
            · exact .inr ⟨h, mx_ge h⟩
          have ea := World.new_ne wr ⟨ba, oa + 1, none⟩ c2
          rcases cl with ⟨hxy, hm⟩ | ⟨hxy, hm⟩
          all_goals
            have HMX := Lib.hid hm; clear hm
            go_region_held3 (fun w' => w'.cell? ⟨ba, oa, none⟩ = some (.int .i64 xl) ∧ w'.cell? ⟨ba, oa + 1, none⟩ = some (.int .i64 xh) ∧ w'.cell? ⟨bb, ob, none⟩ = some (.int .i64 yl) ∧ w'.cell? ⟨bb, ob + 1, none⟩ = some (.int .i64 yh)) (go_keep)
              (first | (go_at_call 69; refine (smallest_mn _ xh yh _ ?_ ?_).mono ?_; (simp [*]); (simp [*]); rintro e w' ⟨rfl, rfl⟩))
            all_goals
              go_wp2_with fail
              go_meet
              exact ⟨(show Value.int .i64 _ = _ from by rw [HMX.out]), rfl, by first | exact (below_alloc _ _).drew | exact (Below.refl _ _).drew.alloc (by simp) _⟩
        case rest =>
          obtain ⟨rfl, rfl, hbx⟩ := hcut
          have hB1 := HB.out.trans (hbx.mono hbs)
          have h4 : RS wc w.heap.size u4 o := RS.bel H4.out hbx
          have HB1 := Lib.hid hB1; clear hB1
          have HO := Lib.hid h4; clear h4 hbx
          have hcs := HB1.out.size
          have hlen : o.length ≤ 30000 := by omega
          by_cases hlow : mx xl yl ≤ mn xh yh
          · have hout : Hid (o ++ [(mx xl yl, mn xh yh)] ++ (if xh < yh then meetL a' ((yl, yh) :: b') else meetL ((xl, xh) :: a') b') = meetL a b) := by
              have h := HE.out
              rw [meetL_cons] at h
              simp only at h
              rw [if_pos (show max xl yl ≤ min xh yh from hlow), ← List.append_assoc] at h
              exact h
            go_upto_region 5 with (at_builtin; refine wpList_append_own _ rfl _ _ 38 rfl w.heap.size 41 i0 (.agg #[.int .i64 0, .int .i64 0]) 2 16 Try.underlying38 hi0 hz0 hz1 hz2 rfl (by decide) u4 o.length (flat o) rfl (World.ownsRow.alloc HO.out _) ⟨wc.heap.size, 0, none⟩ 1 1 [.int .i64 (mx xl yl), .int .i64 (mn xh yh)] rfl rfl ?c1 ?c2 ?c3 ?c4 ?c5 ?_)
            case c1 => exact World.news_of_block (heap_alloc_new wc _)
            case c2 => simp [Value.oneCell']
            case c3 => unfold maxLen; omega
            case c4 => omega
            case c5 => simp; omega
            intro v' w1 h1 h2 _
            have hB2 : Below w.heap.size w w1 := (HB1.out.trans ((below_alloc wc _).mono hcs)).grown h2 (by simp; omega) (fun k hk => (HO.out.own k hk).1)
            have HR : Hid (RS w1 w.heap.size v' (o ++ [(mx xl yl, mn xh yh)])) := by
              unfold Hid RS; rw [flat_append]; simpa [flat] using h1
            have HB2 := Lib.hid hB2; clear h1 h2 hB2
            have d2 : w1.cell? ⟨ba, oa + 1, none⟩ = some (.int .i64 xh) := (HB2.out.cell (p := ⟨ba, _, none⟩) hba).trans X2.out
            have d4 : w1.cell? ⟨bb, ob + 1, none⟩ = some (.int .i64 yh) := (HB2.out.cell (p := ⟨bb, _, none⟩) hbb).trans Y2.out
            clear c1 c2 c3 c4
            by_cases hxy : xh < yh
            · by_cases hcap : ca = 1
              all_goals
                go_wp2
                go_quiet (fail)
                go_wp2
                go_roundw
                case rel =>
                  refine ⟨a', (yl, yh) :: b', o ++ [(mx xl yl, mn xh yh)], by have h := hout.out; rw [if_pos hxy] at h; exact h, by omega, by simp; omega, ?_, H1.out, RS.bel HR.out (below_drewS _ _ _), HB2.out.trans (below_drewS _ _ _)⟩
                  first | exact (TA.out _).1 ⟨hcap, by omega⟩ | exact (TA.out _).2 ⟨hcap, by omega⟩
                case measure => simp [lenOf]
            · by_cases hcap : cb = 1
              all_goals
                go_wp2
                go_quiet (fail)
                go_wp2
                go_roundw
                case rel =>
                  refine ⟨(xl, xh) :: a', b', o ++ [(mx xl yl, mn xh yh)], by have h := hout.out; rw [if_neg (by omega)] at h; exact h, by simp; omega, by omega, H0.out, ?_, RS.bel HR.out (below_drewS _ _ _), HB2.out.trans (below_drewS _ _ _)⟩
                  first | exact (TB.out _).1 ⟨hcap, by omega⟩ | exact (TB.out _).2 ⟨hcap, by omega⟩
                case measure => simp [lenOf]
          · have hout : Hid (o ++ (if xh < yh then meetL a' ((yl, yh) :: b') else meetL ((xl, xh) :: a') b') = meetL a b) := by
              have h := HE.out
              rw [meetL_cons] at h
              simp only at h
              rw [if_neg (show ¬ max xl yl ≤ min xh yh from hlow), List.nil_append] at h
              exact h
            have d2 : wc.cell? ⟨ba, oa + 1, none⟩ = some (.int .i64 xh) := (HB1.out.cell (p := ⟨ba, _, none⟩) hba).trans X2.out
            have d4 : wc.cell? ⟨bb, ob + 1, none⟩ = some (.int .i64 yh) := (HB1.out.cell (p := ⟨bb, _, none⟩) hbb).trans Y2.out
            clear c1 c2 c3 c4
            by_cases hxy : xh < yh
            · by_cases hcap : ca = 1
              all_goals
                go_wp2
                go_quiet (fail)
                go_wp2
                go_roundw
                case rel =>
                  refine ⟨a', (yl, yh) :: b', o, by have h := hout.out; rw [if_pos hxy] at h; exact h, by omega, by simp; omega, ?_, H1.out, RS.bel HO.out (below_drewS _ _ _), HB1.out.trans (below_drewS _ _ _)⟩
                  first | exact (TA.out _).1 ⟨hcap, by omega⟩ | exact (TA.out _).2 ⟨hcap, by omega⟩
                case measure => simp [lenOf]
            · by_cases hcap : cb = 1
              all_goals
                go_wp2
                go_quiet (fail)
                go_wp2
                go_roundw
                case rel =>
                  refine ⟨(xl, xh) :: a', b', o, by have h := hout.out; rw [if_neg (by omega)] at h; exact h, by simp; omega, by omega, H0.out, ?_, RS.bel HO.out (below_drewS _ _ _), HB1.out.trans (below_drewS _ _ _)⟩
                  first | exact (TB.out _).1 ⟨hcap, by omega⟩ | exact (TB.out _).2 ⟨hcap, by omega⟩
                case measure => simp [lenOf]
end Go.Proofs.Ytagfcfojfjkmbaa
