/- Walk: the chapter's map: values; between, parish. -/
import Derived.Test.YtpnkgjkoophckaaYF
namespace Go.Proofs.Ytpnkgjkoophckaa
open Go.RowKit Go.Shelf Go.Maps

/-- The chapter's map. -/
def pm : Mp := ⟨4, fun i => if i = 0 then (2, 3) else if i = 1 then (4, 5) else if i = 2 then (3, 3) else (6, 8), 4,
  fun i => if i = 0 then 0 else if i = 1 then 1 else if i = 2 then 0 else 2, fun i => if i = 0 then 1 else if i = 1 then 2 else 3, fun i => if i = 0 then (2, 3) else if i = 1 then (1, 2) else if i = 2 then (4, 4) else (5, 6)⟩
theorem pm_fault : pm.fault = 0 := by decide +kernel
theorem pm_tm : (List.range 4).map (fun a => (List.range 4).map (fun b => tmA pm a b)) = [[0, 3, 5, 4], [3, 0, 2, 7], [5, 2, 0, 6], [4, 7, 6, 0]] := by decide +kernel
theorem pm_lg : lgM pm 15 = 34 := by decide +kernel
def pz (j : Nat) : Int := j
theorem pm_tour : tourE pm pz 4 = 0 ∧ orL pz 4 = 15 := by decide +kernel
theorem pm_dv : dvdE pm 16 = 0 ∧ (dvW pm 16).length = 3 := by decide +kernel
theorem pm_lst : lstE pm 2 = 0 ∧ lstV pm 2 = 19 := by decide +kernel
def py : Wl := ⟨5, fun j => if j = 0 then 0 else if j = 1 then 1 else if j = 2 then 2 else if j = 3 then 1 else 0, 2, fun j => if j = 0 then 1 else 2⟩
theorem pm_bounds : boundsE pm py = 0 ∧ boundsR pm py = (13, 18) := by decide +kernel
theorem between_any (lo hi : Int) (w : World) : Calls Try.prog 56 #[.int .i64 lo, .int .i64 hi] w fun e w' => e = .returned (.agg #[.int .i64 lo, .int .i64 hi]) ∧ Below w.heap.size w w' := by
  go_enter Try.func56, Try.ntmps56
  go_wp2
  exact bodyPost_ret (v := .agg #[.int .i64 lo, .int .i64 hi]) (by simp [results, Try.results56, go_sem]) rfl ⟨rfl, below_alloc _ _⟩
theorem BF.ne {w X : World} {L : List (Nat × Array Value × TypeId)} (h : BF w X L) {b b' : Nat} {cs cs' : Array Value} {T T' : TypeId} (h1 : (b, cs, T) ∈ L) (h2 : (b', cs', T') ∈ L) (ht : T ≠ T') : b ≠ b' := by
  rintro rfl
  have e1 := (h.bk _ _ _ h1).2
  rw [(h.bk _ _ _ h2).2] at e1
  injection e1 with e; injection e with _ e
  exact ht e.symm
theorem parish_fin {w X : World} {R Wb M : Nat} (h : BF w X [(R, #[.int .i64 0, .int .i64 1, .int .i64 2, .int .i64 3, .int .i64 1, .int .i64 2, .int .i64 1, .int .i64 2, .int .i64 0, .int .i64 3, .int .i64 4, .int .i64 4, .int .i64 2, .int .i64 3, .int .i64 5, .int .i64 6], 120), (Wb, #[.int .i64 2, .int .i64 3, .int .i64 4, .int .i64 5, .int .i64 3, .int .i64 3, .int .i64 6, .int .i64 8], 100), (M, #[.slice none 0 0, .slice none 0 0], 37)]) :
    (((X.setCell ⟨M, 0, none⟩ (.slice (some ⟨Wb, 0, none⟩) 4 4)).setCell ⟨M, 1, none⟩ (.slice (some ⟨R, 0, none⟩) 4 4)).cell? ⟨M, 0, none⟩ = some (.slice (some ⟨Wb, 0, none⟩) 4 4)) ∧
    (((X.setCell ⟨M, 0, none⟩ (.slice (some ⟨Wb, 0, none⟩) 4 4)).setCell ⟨M, 1, none⟩ (.slice (some ⟨R, 0, none⟩) 4 4)).cell? ⟨M, 1, none⟩ = some (.slice (some ⟨R, 0, none⟩) 4 4)) ∧
    MpIn ((X.setCell ⟨M, 0, none⟩ (.slice (some ⟨Wb, 0, none⟩) 4 4)).setCell ⟨M, 1, none⟩ (.slice (some ⟨R, 0, none⟩) 4 4)) ⟨some ⟨Wb, 0, none⟩, 4, some ⟨R, 0, none⟩, 4⟩ pm ∧
    Below w.heap.size w ((X.setCell ⟨M, 0, none⟩ (.slice (some ⟨Wb, 0, none⟩) 4 4)).setCell ⟨M, 1, none⟩ (.slice (some ⟨R, 0, none⟩) 4 4)) := by
  have n1 : R ≠ M := h.ne (.head _) (.tail _ (.tail _ (.head _))) (by decide)
  have n2 : Wb ≠ M := h.ne (.tail _ (.head _)) (.tail _ (.tail _ (.head _))) (by decide)
  have h2 := h.set2 (.tail _ (.tail _ (.head _))) (.slice (some ⟨Wb, 0, none⟩) 4 4) (.slice (some ⟨R, 0, none⟩) 4 4) (L' := [(R, #[.int .i64 0, .int .i64 1, .int .i64 2, .int .i64 3, .int .i64 1, .int .i64 2, .int .i64 1, .int .i64 2, .int .i64 0, .int .i64 3, .int .i64 4, .int .i64 4, .int .i64 2, .int .i64 3, .int .i64 5, .int .i64 6], 120), (Wb, #[.int .i64 2, .int .i64 3, .int .i64 4, .int .i64 5, .int .i64 3, .int .i64 3, .int .i64 6, .int .i64 8], 100)]) (List.forall_mem_cons.2 ⟨⟨n1, .head _⟩, List.forall_mem_cons.2 ⟨⟨n2, .tail _ (.head _)⟩, List.forall_mem_nil _⟩⟩)
  have cw := fun i => h2.cell (.tail _ (.tail _ (.head _))) i
  have cr := fun i => h2.cell (.tail _ (.head _)) i
  refine ⟨h2.cell (.head _) 0, h2.cell (.head _) 1, ⟨.inr ⟨Wb, 0, 4, rfl, (h2.lt (.tail _ (.tail _ (.head _)))).2, fun j hj => ?_⟩, .inr ⟨R, 0, 4, rfl, (h2.lt (.tail _ (.head _))).2, fun j hj => ?_⟩⟩, h2.fr⟩
  · rcases j with _ | _ | _ | _ | j
    · exact ⟨cw 0, cw 1⟩
    · exact ⟨cw 2, cw 3⟩
    · exact ⟨cw 4, cw 5⟩
    · exact ⟨cw 6, cw 7⟩
    · exact absurd hj (by show ¬ j + 4 < 4; omega)
  · rcases j with _ | _ | _ | _ | j
    · exact ⟨cr 0, cr 1, cr 2, cr 3⟩
    · exact ⟨cr 4, cr 5, cr 6, cr 7⟩
    · exact ⟨cr 8, cr 9, cr 10, cr 11⟩
    · exact ⟨cr 12, cr 13, cr 14, cr 15⟩
    · exact absurd hj (by show ¬ j + 4 < 4; omega)
/-- What parish gives. -/
def GivesM (w : World) (e : Ending) (w' : World) : Prop := ∃ x : MV, e = .returned (.agg #[.slice x.wa 4 x.wc, .slice x.ra 4 x.rc]) ∧ MpIn w' x pm ∧ Below w.heap.size w w'
set_option maxRecDepth 100000 in
set_option maxHeartbeats 8000000 in
theorem parish_any (w : World) : Calls Try.prog 65 #[] w (GivesM w) := by
  unfold GivesM
  have HA0 : Hid (BF w (w.alloc (.cells #[.slice none 0 0, .slice none 0 0] 37)) [(w.heap.size, #[.slice none 0 0, .slice none 0 0], 37)]) := (BF.base w).alloc _ _
  go_enter Try.func65, Try.ntmps65
  go_wp2_with (go_at_call 56; refine (between_any _ _ _).mono ?_; rintro _ w1 ⟨rfl, hb⟩; (first | (have HA0 := Lib.hid (HA0.out.below hb)) | (have HA0 := Lib.hid ((HA0.out.alloc _ _).below hb))); clear hb; (first | (have HN := Lib.hid (HA0.out.alloc #[.int .i64 0, .int .i64 1, .int .i64 2, .int .i64 3, .int .i64 1, .int .i64 2, .int .i64 1, .int .i64 2, .int .i64 0, .int .i64 3, .int .i64 4, .int .i64 4, .int .i64 2, .int .i64 3, .int .i64 5, .int .i64 6] 120); have e0 := HN.out.cell (.tail _ (.tail _ (.head _))) 0; have e1 := HN.out.cell (.tail _ (.tail _ (.head _))) 1; have f0 := HN.out.thaw (.tail _ (.tail _ (.head _))) 0; have f1 := HN.out.thaw (.tail _ (.tail _ (.head _))) 1) | skip))
  obtain ⟨g0, g1, hm, hb⟩ := parish_fin HN.out
  exact bodyPost_ret (v := .agg #[.slice (some ⟨_, 0, none⟩) 4 4, .slice (some ⟨_, 0, none⟩) 4 4]) (by simp [results, Try.results65, go_sem, g0, g1]) rfl ⟨_, rfl, hm, hb⟩
end Go.Proofs.Ytpnkgjkoophckaa
