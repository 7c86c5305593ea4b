/- FlowLeft: the reference's Cells. -/
import Derived.Test.YtjaoflfophcibaaIB
import Derived.Test.YtjaoflfophcibaaPJ
namespace Go.Proofs.Ytjaoflfophcibaa
open Go.RowKit Go.Shelf

/-- The cells of numbers. -/
def rC (ng : Nat) (s : List Nat) : List Value := flat (cellsOf ng (natL s))
theorem rC_snoc (ng : Nat) (s : List Nat) (k : Nat) : rC ng (s ++ [k]) = rC ng s ++ [.int .i64 ((k / ng : Nat) : Int), .int .i64 ((k % ng : Nat) : Int)] := by
  unfold rC natL cellsOf
  rw [List.map_append, List.map_append, flat_append]
  rfl
theorem rC_length (ng : Nat) (s : List Nat) : (rC ng s).length = s.length * 2 := by
  unfold rC natL cellsOf
  rw [flat_length, List.length_map, List.length_map]
theorem rC_get (ng : Nat) (s : List Nat) (j : Nat) (hj : j < s.length) : (rC ng s)[j * 2]? = some (.int .i64 ((s[j] / ng : Nat) : Int)) ∧ (rC ng s)[j * 2 + 1]? = some (.int .i64 ((s[j] % ng : Nat) : Int)) := by
  have h := flat_get (cellsOf ng (natL s)) j (by unfold cellsOf natL; simpa using hj)
  unfold rC
  rw [h.1, h.2]
  unfold cellsOf natL
  simp [idxC]
theorem BF.grow1 {w X Y : World} {L : List (Nat × Array Value × TypeId)} {base sz n : Nat} {T : TypeId} {v : Value} {xs : List Value} (hA : BF w X L) (ho : X.ownsRow base T sz v n xs) (hT : ∀ p, p ∈ L → p.2.2 ≠ T) (hw : w.heap.size ≤ base) (hg : X.grownBy Y v.ownBlock) : BF w Y L :=
  hA.fro (Fr.grown hg) (fun q hq e => by have := own_low ho e; omega) (fun p hp e => own_type_ne ho (hA.bk p.1 p.2.1 p.2.2 hp).2 (hT p hp) e)
set_option maxRecDepth 100000 in
set_option maxHeartbeats 4000000 in
theorem cells_all (u : WV) (t : Tb) (w : World) (hl : WLi w u t) (hs : t.small) (ht : Okt t) :
    Calls Try.prog 34 #[.agg #[u.cv t, u.bv t, u.rv t, u.nv t]] w fun e w' => ∃ v, e = .returned v ∧ w'.ownsRow w.heap.size 48 2 v (t.nc * t.ng) (rC t.ng (List.range (t.nc * t.ng))) ∧ Below w.heap.size w w' := by
  have HG : Hid (∀ X, Below w.heap.size w X → Calls Try.prog 23 #[.agg #[u.cv t, u.bv t, u.rv t, u.nv t]] X fun e w' => e = .returned (.int .i64 (t.ng : Nat)) ∧ Below X.heap.size X w') := fun X hX => rgroups_any _ t X (hl.below hX).tb hs
  have ng2 := ht.ng2; have ng4 := ht.ng4; have nc4 := ht.nc4
  obtain ⟨i0, hi0, hz0, hz1, hz2⟩ := info_parts Try.infoCellR
  clear hl ht hs
  obtain ⟨uca, ucc, uba, ubc, ura, urc, una, unc⟩ := u
  simp only [WV.cv, WV.bv, WV.rv, WV.nv] at HG ⊢
  generalize t.ng = ng at *
  generalize t.nc = nc at *
  have HA0 : Hid (BF w (w.alloc (.cells #[.slice uca nc ucc, .slice uba t.nb ubc, .slice ura t.nr urc, .slice una t.nn unc] 25)) [(w.heap.size, #[.slice uca nc ucc, .slice uba t.nb ubc, .slice ura t.nr urc, .slice una t.nn unc], 25)]) := (BF.base w).alloc _ _
  go_enter Try.func34, Try.ntmps34
  go_wp2_with fail
  go_loopw [3, 4] (fun v i wr => ∃ c m : Nat, c ≤ nc ∧ m = c * ng ∧ i = .int .i64 c ∧ BF w wr [(w.heap.size, #[.slice uca nc ucc, .slice uba t.nb ubc, .slice ura t.nr urc, .slice una t.nn unc], 25)] ∧ wr.ownsRow w.heap.size 48 2 v m (rC ng (List.range m))) (fun _ i _ => nc - (intOf i).toNat)
  case atStart => exact ⟨0, 0, Nat.zero_le _, (Nat.zero_mul _).symm, rfl, HA0.out, World.ownsRow_nil _ _ _ _⟩
  case round =>
    obtain ⟨c, m, hc, hm, rfl, hbf, how⟩ := hrel
    rename World => wx
    have HA := Lib.hid hbf; have HO := Lib.hid how; have HM := Lib.hid hm
    obtain ⟨va, vc, rfl⟩ := own_slice' how
    clear hbf how HA0 hm
    have ki : (0 : Int) ≤ (c : Int) := by omega
    have c0 := HA.out.cell (.head _) 0
    by_cases hlt : c < nc
    · have kj : (c : Int) < (nc : Int) := by omega
      go_wp2_with fail
      clear c0
      go_loopw [3, 5] (fun v i wr => ∃ g m' : Nat, g ≤ ng ∧ m' = m + g ∧ i = .int .i64 g ∧ BF w wr [(w.heap.size, #[.slice uca nc ucc, .slice uba t.nb ubc, .slice ura t.nr urc, .slice una t.nn unc], 25)] ∧ wr.ownsRow w.heap.size 48 2 v m' (rC ng (List.range m'))) (fun _ i _ => ng - (intOf i).toNat)
      case atStart => exact ⟨0, m, Nat.zero_le _, rfl, rfl, HA.out, HO.out⟩
      case round =>
        clear HA HO
        obtain ⟨g, m', hg, hm', rfl, hbf, how⟩ := hrel
        rename World => wy
        have HA := Lib.hid hbf; have HO := Lib.hid how
        obtain ⟨va2, vc2, rfl⟩ := own_slice' how
        have HM2 : Hid (m' = c * ng + g) := by rw [Hid, hm', HM.out]
        clear hbf how hm'
        have gi : (0 : Int) ≤ (g : Int) := by omega
        have c0 := HA.out.cell (.head _) 0; have c1 := HA.out.cell (.head _) 1; have c2 := HA.out.cell (.head _) 2; have c3 := HA.out.cell (.head _) 3
        by_cases hlg : g < ng
        · have gj : (g : Int) < (ng : Int) := by omega
          have hk : m' < 16 := by
            have h1 := Nat.mul_le_mul_right ng (show c + 1 ≤ nc by omega)
            have h2 := Nat.mul_le_mul nc4 ng4
            rw [Nat.succ_mul] at h1
            rw [HM2.out]
            omega
          have HS : Hid (rC ng (List.range (m' + 1)) = rC ng (List.range m') ++ [.int .i64 (c : Int), .int .i64 (g : Int)]) := by
            have e1 : m' / ng = c := by rw [HM2.out, Nat.mul_comm, Nat.mul_add_div (by omega), Nat.div_eq_of_lt hlg, Nat.add_zero]
            have e2 : m' % ng = g := by rw [HM2.out, Nat.mul_comm, Nat.mul_add_mod, Nat.mod_eq_of_lt hlg]
            rw [Hid, List.range_succ, rC_snoc, e1, e2]
          go_wp2_with (first | (go_at_call 23; refine (HG.out _ HA.out.fr).mono ?_; rintro _ wu ⟨rfl, hbu⟩; have HAU := Lib.hid (HA.out.below hbu); have HOU := Lib.hid (own_below HO.out hbu); clear hbu) | (at_builtin; refine wpList_append_src _ rfl (.tmp 19) (.tmp 23) 49 rfl w.heap.size 48 i0 (.agg #[.int .i64 0, .int .i64 0]) 2 16 Try.underlying49 hi0 hz0 hz1 hz2 rfl (by decide) (.slice va2 m' vc2) m' (rC ng (List.range m')) rfl (HOU.out.alloc (.cells #[.int .i64 (c : Int), .int .i64 (g : Int)] 48)) (some ⟨wu.heap.size, 0, none⟩) 1 1 [.int .i64 (c : Int), .int .i64 (g : Int)] rfl ⟨rfl, fun j u hu => ⟨_, rfl, World.news_of_block (heap_alloc_new wu _) j u hu⟩⟩ (by simp [Value.oneCell']) ?a1 ?a2 ?a3 ?_))
          case a1 => unfold maxLen; omega
          case a2 => omega
          case a3 => have := HAU.out.fr.size; simp; omega
          intro v1 w9 hown hgr hlt1
          have HA9 : Hid (BF w w9 [(w.heap.size, #[.slice uca nc ucc, .slice uba t.nb ubc, .slice ura t.nr urc, .slice una t.nn unc], 25)]) := (HAU.out.below (below_alloc wu (.cells #[.int .i64 (c : Int), .int .i64 (g : Int)] 48))).grow1 (HOU.out.alloc (.cells #[.int .i64 (c : Int), .int .i64 (g : Int)] 48)) (List.forall_mem_cons.2 ⟨(show 25 ≠ 48 by decide), List.forall_mem_nil _⟩) (Nat.le_refl _) hgr
          have HO9 : Hid (w9.ownsRow w.heap.size 48 2 v1 (m' + 1) (rC ng (List.range (m' + 1)))) := by unfold Hid; rw [HS.out]; exact hown
          clear hown hgr hlt1 HA HAU HO HOU c0 c1 c2 c3
          go_wp2_with fail
          go_roundw
          case rel => exact ⟨g + 1, m' + 1, by omega, by rw [HM2.out, HM.out, Nat.add_assoc], by go_num, HA9.out, HO9.out⟩
          case measure => simp [intOf]; omega
        · obtain rfl : g = ng := by omega
          go_wp2_with (go_at_call 23; refine (HG.out _ HA.out.fr).mono ?_; rintro _ wu ⟨rfl, hbu⟩; have HAU := Lib.hid (HA.out.below hbu); have HOU := Lib.hid (own_below HO.out hbu); clear hbu)
          go_roundw
          case rel => exact ⟨c + 1, m', by omega, by rw [HM2.out, Nat.succ_mul], by go_num, HAU.out, HOU.out⟩
          case measure => simp [intOf]; omega
    · obtain rfl : c = nc := by omega
      go_wp2_with fail
      go_ret
      exact ⟨_, rfl, by rw [← HM.out]; exact HO.out, HA.out.fr⟩
end Go.Proofs.Ytjaoflfophcibaa
