/- FlowPlays: Agrees of the reference. Printed by gen_je.py. -/
import Derived.Test.YtjaoflfophcibaaJC
namespace Go.Proofs.Ytjaoflfophcibaa
open Go.RowKit Go.Shelf

def agrR (t : Tb) (S : Nat → Nat → Int) : Bool := allB (fun c => allB (fun g => inB (S c g) (t.ct c g).1 (t.ct c g).2) t.ng) t.nc
theorem agrR_fits {t : Tb} {x : Tr} (h : 0 < t.ng) : agrR t (siz t.ng x) = t.fits x := by
  rw [Bool.eq_iff_iff]
  constructor
  · intro hA
    refine allB_true (fun k hk => ?_)
    have hg : k % t.ng < t.ng := Nat.mod_lt _ h
    have hc : k / t.ng < t.nc := (Nat.div_lt_iff_lt_mul h).2 hk
    exact allB_at (p := fun g => inB (siz t.ng x (k / t.ng) g) (t.ct (k / t.ng) g).1 (t.ct (k / t.ng) g).2) (allB_at (p := fun c => allB (fun g => inB (siz t.ng x c g) (t.ct c g).1 (t.ct c g).2) t.ng) hA hc) hg
  · intro hF
    refine allB_true (fun c hc => allB_true (fun g hg => ?_))
    have hk : c * t.ng + g < t.nc * t.ng := by
      have := Nat.mul_le_mul_right t.ng (show c + 1 ≤ t.nc by omega)
      rw [Nat.succ_mul] at this
      omega
    have h2 := allB_at (p := fitK t x) hF hk
    unfold fitK at h2
    rw [Nat.mul_comm c, Nat.mul_add_div h, Nat.mul_add_mod, Nat.div_eq_of_lt hg, Nat.mod_eq_of_lt hg, Nat.add_zero] at h2
    exact h2
theorem off0_at : ∀ i, i < 16 → (outL off0).toArray[i]? = some (.bool false) := fun i hi => by
  unfold outL
  rw [List.getElem?_toArray, List.getElem?_map, List.getElem?_range hi]
  rfl
set_option maxRecDepth 100000 in
set_option maxHeartbeats 8000000 in
theorem agrees_any (u : WV) (t : Tb) (sa : Option Addr) (sc : Nat) (S : Nat → Nat → Int) (w : World) (hl : WLi w u t) (hs : t.small) (ht : Okt t) (hS : IRows w (.slice sa t.nc sc) t.nc (fun _ => t.ng) S) :
    Calls Try.prog 53 #[.agg #[u.cv t, u.bv t, u.rv t, u.nv t], .slice sa t.nc sc, .agg (outL off0).toArray] w fun e w' => e = .returned (.bool (agrR t S)) ∧ Below w.heap.size w w' := by
  have HG : Hid (∀ X, Below w.heap.size w X → Calls Try.prog 23 #[.agg #[u.cv t, u.bv t, u.rv t, u.nv t]] X fun e w' => e = .returned (.int .i64 (t.ng : Nat)) ∧ Below X.heap.size X w') := fun X hX => rgroups_any _ t X (hl.below hX).tb hs
  have ng2 := ht.ng2; have ng4 := ht.ng4; have nc4 := ht.nc4
  have HRL := Lib.hid (fun c hc => ht.rl c hc)
  have HL := Lib.hid hl; have HSR := Lib.hid hS
  clear hl hS ht hs
  obtain ⟨uca, ucc, uba, ubc, ura, urc, una, unc⟩ := u
  simp only [WV.cv, WV.bv, WV.rv, WV.nv] at HG ⊢
  have HA0 : Hid (BF w ((w.alloc (.cells #[.slice uca t.nc ucc, .slice uba t.nb ubc, .slice ura t.nr urc, .slice una t.nn unc] 25)).alloc (.cells (outL off0).toArray 46)) [(w.heap.size, #[.slice uca t.nc ucc, .slice uba t.nb ubc, .slice ura t.nr urc, .slice una t.nn unc], 25), (w.heap.size + 1, (outL off0).toArray, 46)]) := BF.made2 w _ _ _ _
  have HO0 := Lib.hid off0_at
  obtain ⟨OF, hOF⟩ : ∃ OF, (outL off0).toArray = OF := ⟨_, rfl⟩
  rw [hOF] at HA0 HO0 ⊢
  clear hOF
  go_enter Try.func53, Try.ntmps53
  go_wp2_with (refine wpList_box_row rfl 46 (.tmp 2) rfl OF rfl ?_)
  go_loopw [7] (fun i wr => ∃ c : Nat, c ≤ t.nc ∧ i = .int .i64 c ∧ BF w wr [(w.heap.size, #[.slice uca t.nc ucc, .slice uba t.nb ubc, .slice ura t.nr urc, .slice una t.nn unc], 25), (w.heap.size + 1, OF, 46)] ∧ ∀ q, q < c → allB (fun g => inB (S q g) (t.ct q g).1 (t.ct q g).2) t.ng = true) (fun i _ => t.nc - (intOf i).toNat)
  case atStart => exact ⟨0, Nat.zero_le _, rfl, HA0.out, fun _ h => absurd h (Nat.not_lt_zero _)⟩
  case round =>
    obtain ⟨c, hc, rfl, hbf, hall⟩ := hrel
    rename World => wx
    have HA := Lib.hid hbf; have HQ := Lib.hid hall
    clear hbf hall HA0
    have ki : (0 : Int) ≤ (c : Int) := by omega
    have c0 := HA.out.cell (.head _) 0
    by_cases hlt : c < t.nc
    · have kj : (c : Int) < (t.nc : Int) := by omega
      obtain ⟨cb, co, ra1, rc1, rfl, hcb, p1, hr1⟩ := HL.out.1.at hlt
      obtain ⟨sb, so, ra, rc, rfl, hsb, y1, hsr⟩ := HSR.out.at (k := c) hlt
      rw [HRL.out c hlt] at p1 hr1
      have HR1 := Lib.hid hr1; have HS1 := Lib.hid hsr
      have HC5 : Hid (∀ X, Below w.heap.size w X → X.cell? ⟨cb, co + c, none⟩ = some (.slice ra1 t.ng rc1) ∧ X.cell? ⟨sb, so + c, none⟩ = some (.slice ra t.ng rc)) := fun X hX => ⟨kept hX hcb p1, kept hX hsb y1⟩
      clear p1 y1 hr1 hsr hcb hsb
      go_wp2_with fail
      clear c0
      go_loopw [8] (fun i wr => ∃ g : Nat, g ≤ t.ng ∧ i = .int .i64 g ∧ BF w wr [(w.heap.size, #[.slice (some ⟨cb, co, none⟩) t.nc ucc, .slice uba t.nb ubc, .slice ura t.nr urc, .slice una t.nn unc], 25), (w.heap.size + 1, OF, 46)] ∧ ∀ q, q < g → inB (S c q) (t.ct c q).1 (t.ct c q).2 = true) (fun i _ => t.ng - (intOf i).toNat)
      case atStart => exact ⟨0, Nat.zero_le _, rfl, HA.out, fun _ h => absurd h (Nat.not_lt_zero _)⟩
      case round =>
        obtain ⟨g, hg, rfl, hbf, hall⟩ := hrel
        rename World => wy
        clear HA
        have HA := Lib.hid hbf; have HQ2 := Lib.hid hall
        clear hbf hall
        have gi : (0 : Int) ≤ (g : Int) := by omega
        have c0 := HA.out.cell (.head _) 0; have c1 := HA.out.cell (.head _) 1; have c2 := HA.out.cell (.head _) 2; have c3 := HA.out.cell (.head _) 3
        by_cases hlg : g < t.ng
        · as_aux_lemma =>
          have gj : (g : Int) < (t.ng : Int) := by omega
          have ci4 : (c : Int) < 4 := by omega
          have gi4 : (g : Int) < 4 := by omega
          obtain ⟨rb1, ro1, rfl, hrb1, p1, p2⟩ := HR1.out.at (k := g) hlg
          obtain ⟨rb, ro, rfl, hrb, y1⟩ := HS1.out.at (k := g) hlg
          obtain ⟨q1, q2, HPQ⟩ : ∃ q1 q2, Hid (t.ct c g = (q1, q2)) := ⟨_, _, rfl⟩
          obtain ⟨sz, HSZ⟩ : ∃ sz, Hid (S c g = sz) := ⟨_, rfl⟩
          rw [HPQ.out] at p1 p2
          rw [HSZ.out] at y1
          simp only at p1 p2 y1
          have HP : Hid (∀ X, Below w.heap.size w X → X.cell? ⟨rb1, ro1 + g * 2, none⟩ = some (.int .i64 q1) ∧ X.cell? ⟨rb1, ro1 + g * 2 + 1, none⟩ = some (.int .i64 q2) ∧ X.cell? ⟨rb, ro + g, none⟩ = some (.int .i64 sz)) := fun X hX => ⟨kept hX hrb1 p1, kept hX hrb1 p2, kept hX hrb y1⟩
          clear p1 p2 y1 hrb1 hrb
          obtain ⟨hh, HH⟩ : ∃ hh, Hid (inB sz q1 q2 = hh) := ⟨_, rfl⟩
          have HIG : Hid (inB (S c g) (t.ct c g).1 (t.ct c g).2 = hh) := by
            show inB (S c g) (t.ct c g).1 (t.ct c g).2 = hh
            rw [HPQ.out, HSZ.out, HH.out]
          go_wp2_with (go_at_call 23; refine (HG.out _ HA.out.fr).mono ?_; rintro _ wu ⟨rfl, hbu⟩; have HAU := Lib.hid (HA.out.below hbu); clear hbu c0 c1 c2 c3; have c0 := HAU.out.cell (.head _) 0; have d0 := (HC5.out _ HAU.out.fr).1; have d1 := (HP.out _ HAU.out.fr).1; have d2 := (HP.out _ HAU.out.fr).2.1)
          have HAZ : Hid (BF w (wu.alloc (.cells #[.int .i64 q1, .int .i64 q2] 43)) ((wu.heap.size, #[.int .i64 q1, .int .i64 q2], 43) :: [(w.heap.size, #[.slice (some ⟨cb, co, none⟩) t.nc ucc, .slice uba t.nb ubc, .slice ura t.nr urc, .slice una t.nn unc], 25), (w.heap.size + 1, OF, 46)])) := HAU.out.alloc _ _
          clear c0 d0 d1 d2
          obtain ⟨RB, hRB⟩ : ∃ RB, RB = wu.heap.size := ⟨_, rfl⟩
          rw [← hRB] at HAZ ⊢
          generalize (wu.alloc (.cells #[.int .i64 q1, .int .i64 q2] 43)) = wz at *
          clear hRB HAU HA
          have HAX := Lib.hid (HAZ.out.below (Below.refl _ wz).drew)
          have HC8 : Hid (∀ X, BF w X ((RB, #[.int .i64 q1, .int .i64 q2], 43) :: [(w.heap.size, #[.slice (some ⟨cb, co, none⟩) t.nc ucc, .slice uba t.nb ubc, .slice ura t.nr urc, .slice una t.nn unc], 25), (w.heap.size + 1, OF, 46)]) → (X.cell? ⟨w.heap.size + 1, c * 4 + g, none⟩ = some (.bool false) ∧ X.cell? ⟨sb, so + c, none⟩ = some (.slice (some ⟨rb, ro, none⟩) t.ng rc) ∧ X.cell? ⟨rb, ro + g, none⟩ = some (.int .i64 sz) ∧ X.cell? ⟨RB, 0, none⟩ = some (.int .i64 q1) ∧ X.cell? ⟨RB, 1, none⟩ = some (.int .i64 q2))) := fun X h => ⟨(h.cell (.tail _ (.tail _ (.head _))) (c * 4 + g)).trans (HO0.out _ (by omega)), (HC5.out X h.fr).2, (HP.out X h.fr).2.2, h.cell (.head _) 0, h.cell (.head _) 1⟩
          go_cut [51] (fun s51 wz => s51 = .bool (!hh) ∧ BF w wz ((RB, #[.int .i64 q1, .int .i64 q2], 43) :: [(w.heap.size, #[.slice (some ⟨cb, co, none⟩) t.nc ucc, .slice uba t.nb ubc, .slice ura t.nr urc, .slice una t.nn unc], 25), (w.heap.size + 1, OF, 46)]))
          case first => as_aux_lemma =>
            refine wp_region_held_drew (S := fun X => X.cell? ⟨w.heap.size + 1, c * 4 + g, none⟩ = some (.bool false) ∧ X.cell? ⟨sb, so + c, none⟩ = some (.slice (some ⟨rb, ro, none⟩) t.ng rc) ∧ X.cell? ⟨rb, ro + g, none⟩ = some (.int .i64 sz) ∧ X.cell? ⟨RB, 0, none⟩ = some (.int .i64 q1) ∧ X.cell? ⟨RB, 1, none⟩ = some (.int .i64 q2)) (by kernel_rfl) (HC8.out _ HAX.out) (fun hS => ?_)
            generalize wz.drew = X at *
            refine tk [0, 1, 2, 3, 4, 5, 6, 7, 8, 9, 10, 11, 12, 13, 14, 15, 16, 17] ?_
            repeat (refine tkH (oi := ⟨_, _, _, _, _, _⟩) (v := ?_) rfl (by kernel_rfl) (by rfl) (fun _ _ _ h => h) hS ?_ ?_; rotate_left; (· rintro W' ⟨z0, z1, z2, z3, z4⟩; go_simp; try with_reducible rfl); try simp only [Act.put, putA, putZ, putS])
            refine tk0 ?_
            refine wpAnyH_ready (rs := [18]) (by kernel_rfl) (by simp) ?_
            refine AllReadyH.cons (o := ⟨some 49, _, _, _, _, _⟩) rfl (fun K hK => ?_) AllReadyH.nil
            go_simp
            refine (rIn_any sz q1 q2 _).mono ?_
            rw [HH.out]
            rintro _ _ ⟨rfl, rfl⟩
            (try go_wp2_with fail)
            refine hK.out _ _ (HC8.out X HAX.out) (fun hS => ?_)
            clear hK K
            try simp only [Act.put, putA, putZ, putS]
            refine tk [19, 20] ?_
            repeat (refine tkH (oi := ⟨_, _, _, _, _, _⟩) (v := ?_) rfl (by kernel_rfl) (by rfl) (fun _ _ _ h => h) hS ?_ ?_; rotate_left; (· rintro W' ⟨z0, z1, z2, z3, z4⟩; go_simp; try with_reducible rfl); try simp only [Act.put, putA, putZ, putS])
            refine tk0 ?_
            refine wpAnyH_done (by kernel_rfl) ?_ _
            go_wp2_with fail
            go_meet
            exact ⟨rfl, HAX.out⟩
          rename World => wt
          obtain ⟨rfl, hbf⟩ := hcut
          have HA := Lib.hid (hbf.sub (List.forall_mem_cons.2 ⟨.tail _ (.head _), List.forall_mem_cons.2 ⟨.tail _ (.tail _ (.head _)), List.forall_mem_nil _⟩⟩))
          clear hbf HAZ HAX
          cases hh
          · go_wp2_with fail
            go_ret
            exact ⟨ret_bool (by unfold agrR; rw [allB_false (p := fun c => allB (fun g => inB (S c g) (t.ct c g).1 (t.ct c g).2) t.ng) (k := c) hlt (allB_false (p := fun g => inB (S c g) (t.ct c g).1 (t.ct c g).2) (k := g) hlg HIG.out)]), HA.out.fr⟩
          · go_wp2_with fail
            go_roundw
            case rel => exact ⟨g + 1, by omega, by go_num, HA.out, fun q hq => by
              rcases Nat.lt_succ_iff_lt_or_eq.1 hq with h | rfl
              · exact HQ2.out q h
              · exact HIG.out⟩
            case measure => simp [intOf]; omega
        · obtain rfl : g = t.ng := by omega
          go_wp2_with (go_at_call 23; refine (HG.out _ HA.out.fr).mono ?_; rintro _ wu ⟨rfl, hbu⟩; have HAU := Lib.hid (HA.out.below hbu); clear hbu)
          go_roundw
          case rel => exact ⟨c + 1, by omega, by go_num, HAU.out, fun q hq => by
            rcases Nat.lt_succ_iff_lt_or_eq.1 hq with h | rfl
            · exact HQ.out q h
            · exact allB_true (fun g hg => HQ2.out g hg)⟩
          case measure => simp [intOf]; omega
    · obtain rfl : c = t.nc := by omega
      go_wp2_with fail
      go_ret
      exact ⟨ret_bool (by unfold agrR; rw [allB_true (fun q hq => HQ.out q hq)]), HA.out.fr⟩
end Go.Proofs.Ytjaoflfophcibaa
