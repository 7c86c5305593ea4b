/- Link: a file with one more entry, or one more move; openers for LinkMore. -/
import Derived.Test.YtgbdbikjckfgmaaGreatOS
import Derived.SizedLaws
namespace Go.Proofs.YtgbdbikjckfgmaaGreat
open Go.ChangeShapes Go.WideShapes Go.ChangeAt Go.RowKit Go.Shelf

def addE (E : Nat → En) (n : Nat) (e : En) (j : Nat) : En := if j < n then E j else e
def addZ (z : Nat → Int) (n : Nat) (v : Int) (j : Nat) : Int := if j < n then z j else v
def Fl.addO (f : Fl) (e : En) : Fl := ⟨f.no + 1, addE f.O f.no e, f.nw, f.N, f.nm, f.mf, f.mt⟩
def Fl.addN (f : Fl) (e : En) : Fl := ⟨f.no, f.O, f.nw + 1, addE f.N f.nw e, f.nm, f.mf, f.mt⟩
def Fl.addM (f : Fl) (a b : Int) : Fl := ⟨f.no, f.O, f.nw, f.N, f.nm + 1, addZ f.mf f.nm a, addZ f.mt f.nm b⟩
theorem Fl.addO_g (f : Fl) (e : En) : f.g = offG (f.addO e).g (rowS f.no) := by
  funext i k
  show (decide (i < f.no) && decide (k < f.nw) && f.pairB (f.O i) (f.N k)) = ((decide (i < f.no + 1) && decide (k < f.nw) && f.pairB (addE f.O f.no e i) (f.N k)) && !decide (i = f.no))
  by_cases hi : i < f.no
  · have e1 : addE f.O f.no e i = f.O i := if_pos hi
    rw [e1, decide_eq_true hi, decide_eq_true (by omega : i < f.no + 1), decide_eq_false (by omega : ¬ i = f.no)]; simp
  · rw [decide_eq_false hi]
    by_cases h2 : i = f.no
    · rw [decide_eq_true h2]; simp
    · rw [decide_eq_false (by omega : ¬ i < f.no + 1)]; simp
theorem Fl.addN_g (f : Fl) (e : En) : f.g = offG (f.addN e).g (colS f.nw) := by
  funext i k
  show (decide (i < f.no) && decide (k < f.nw) && f.pairB (f.O i) (f.N k)) = ((decide (i < f.no) && decide (k < f.nw + 1) && f.pairB (f.O i) (addE f.N f.nw e k)) && !decide (k = f.nw))
  by_cases hi : k < f.nw
  · have e1 : addE f.N f.nw e k = f.N k := if_pos hi
    rw [e1, decide_eq_true hi, decide_eq_true (by omega : k < f.nw + 1), decide_eq_false (by omega : ¬ k = f.nw)]; simp
  · rw [decide_eq_false hi]
    by_cases h2 : k = f.nw
    · rw [decide_eq_true h2]; simp
    · rw [decide_eq_false (by omega : ¬ k < f.nw + 1)]; simp
theorem Fl.addM_g (f : Fl) (a b : Int) (i k : Nat) (h : f.g i k = true) : (f.addM a b).g i k = true := by
  have key : ∀ x y, f.movB x y = true → (f.addM a b).movB x y = true := fun x y h => by
    cases hc : (f.addM a b).movB x y
    · exfalso
      unfold Fl.movB at h hc
      rw [Bool.not_eq_true'] at h
      rw [Bool.not_eq_false'] at hc
      have : allB (fun k => !(f.mf k == x && f.mt k == y)) f.nm = true := allB_true fun j hj => by
        have h2 := allB_all hc j (show j < f.nm + 1 by omega)
        have e1 : (f.addM a b).mf j = f.mf j := if_pos hj
        have e2 : (f.addM a b).mt j = f.mt j := if_pos hj
        simp only [e1, e2] at h2
        exact h2
      rw [this] at h; cases h
    · rfl
  have h0 : (decide (i < f.no) && decide (k < f.nw) && (sexB (f.O i) (f.N k) && nameB (f.O i) (f.N k) && f.plB (f.O i) (f.N k) && ageB (f.O i) (f.N k))) = true := h
  show (decide (i < f.no) && decide (k < f.nw) && (sexB (f.O i) (f.N k) && nameB (f.O i) (f.N k) && (f.addM a b).plB (f.O i) (f.N k) && ageB (f.O i) (f.N k))) = true
  simp only [Bool.and_eq_true] at h0 ⊢
  refine ⟨h0.1, ⟨h0.2.1.1, ?_⟩, h0.2.2⟩
  have h3 := h0.2.1.2
  unfold Fl.plB at h3 ⊢
  rw [Bool.or_eq_true] at h3 ⊢
  exact h3.imp id (key _ _)
theorem addO_law {f : Fl} {e : En} (h : OkF f) (hx : OkF (f.addO e)) : f.most ≤ (f.addO e).most ∧ (f.addO e).most ≤ f.most + 1 := by
  have h1 := h.mx0
  rw [f.addO_g e] at h1
  exact row_less hx.g8 hx.mx0 h1
theorem addN_law {f : Fl} {e : En} (h : OkF f) (hx : OkF (f.addN e)) : f.most ≤ (f.addN e).most ∧ (f.addN e).most ≤ f.most + 1 := by
  have h1 := h.mx0
  rw [f.addN_g e] at h1
  exact col_less hx.g8 hx.mx0 h1
theorem addM_law {f : Fl} {a b : Int} (h : OkF f) (hx : OkF (f.addM a b)) : f.most ≤ (f.addM a b).most :=
  Mx.mono h.mx0 hx.mx0 (f.addM_g a b)
theorem eF_snoc (E : Nat → En) (V : V3) (n : Nat) (e : En) (v : Value × Value × Value) : eF E V n ++ e7 e v = eF (addE E n e) (fun j => if j < n then V j else v) (n + 1) := by
  rw [show e7 e v = eF (fun _ => e) (fun _ => v) 1 by simp [eF], eF_append]
  exact eF_congr fun j hj => ⟨rfl, rfl⟩
theorem mvL_one (p q : Nat → Int) (n : Nat) (a b : Int) : mvL p q n ++ [.int .i64 a, .int .i64 b] = mvL (addZ p n a) (addZ q n b) (n + 1) := by
  rw [mvL_succ]
  have e1 : addZ p n a n = a := if_neg (Nat.lt_irrefl n)
  have e2 : addZ q n b n = b := if_neg (Nat.lt_irrefl n)
  rw [e1, e2]
  congr 1
  unfold mvL mvP
  congr 1
  exact List.map_congr_left fun j hj => by
    have hj2 := List.mem_range.1 hj
    rw [show addZ p n a j = p j from if_pos hj2, show addZ q n b j = q j from if_pos hj2]
theorem rs_src {w : World} {a : Option Addr} {n c : Nat} {p q : Nat → Int} (h : RsIn w (.slice a n c) n p q) : Src w a 2 n (mvL p q n) := by
  have hl : (mvP p q n).length = n := by simp [mvP]
  refine ⟨by unfold mvL; rw [flat_length, hl], fun j u hu => ?_⟩
  have hj : j < n * 2 := by
    have := (List.getElem?_eq_some_iff.1 hu).1
    unfold mvL at this; rw [flat_length, hl] at this; exact this
  have hk : j / 2 < n := by omega
  obtain ⟨b, off, rfl, _, x0, x1⟩ := h.at hk
  have hg : (mvP p q n).getD (j / 2) (0, 0) = (p (j / 2), q (j / 2)) := by unfold mvP; simp [hk]
  obtain ⟨g1, g2⟩ := flatP_get (mvP p q n) (j := j / 2) (by rw [hl]; exact hk)
  rw [hg] at g1 g2
  refine ⟨_, rfl, ?_⟩
  rw [addr_add]
  rcases Nat.mod_two_eq_zero_or_one j with h2 | h2
  · have e : j = j / 2 * 2 := by omega
    have hu2 : (flat (mvP p q n))[j]? = some u := hu
    rw [e, g1] at hu2
    cases hu2
    rw [show off + j = off + j / 2 * 2 by omega]; exact x0
  · have e : j = j / 2 * 2 + 1 := by omega
    have hu2 : (flat (mvP p q n))[j]? = some u := hu
    rw [e, g2] at hu2
    cases hu2
    rw [show off + j = off + j / 2 * 2 + 1 by omega]; exact x1
theorem mvL_oneC (p q : Nat → Int) : ∀ n, ∀ u ∈ mvL p q n, u.oneCell' = true
  | 0, u, hu => by simp [mvL, mvP, flat] at hu
  | n + 1, u, hu => by
    rw [mvL_succ] at hu
    rcases List.mem_append.1 hu with hu | hu
    · exact mvL_oneC p q n u hu
    · simp only [List.mem_cons, List.not_mem_nil, or_false] at hu
      rcases hu with rfl | rfl <;> rfl
set_option maxRecDepth 100000 in
theorem open_entryV {H : Type} {enc : TypeId × Value → H} {W : World} {base : Nat} {v : Value} {d : DataW H} {p : List MemPlace} (hv : Value.okWide Tryz.prog W .any base 77 v) (h : DataW.Trod enc Tryz.prog W 0 (fun _ => true) true 77 v d p) :
    ∃ (e : En) (rv cv nv : Value), v = .agg #[.int .i64 e.p.lo, .int .i64 e.p.hi, rv, cv, .int .i64 e.sex, nv, .int .i64 e.pl] ∧ QR W rv cv nv e := by
  obtain ⟨cs, rfl, hsz⟩ := okWide_struct Tryz.underlying77 hv
  have hsz7 : cs.size = 7 := hsz.trans (by kernel_rfl)
  obtain ⟨fuel, hf⟩ := h
  obtain ⟨e, rv, cv, nv, hc, hq⟩ := open_en (cs := cs.toList) hf (by simpa using hsz7)
  refine ⟨e, rv, cv, nv, congrArg Value.agg ?_, hq⟩
  exact Array.toList_inj.1 hc
set_option maxRecDepth 100000 in
theorem open_moveV {H : Type} {enc : TypeId × Value → H} {W : World} {base : Nat} {v : Value} {d : DataW H} {p : List MemPlace} (hv : Value.okWide Tryz.prog W .any base 63 v) (h : DataW.Trod enc Tryz.prog W 0 (fun _ => true) true 63 v d p) : ∃ r : Int × Int, v = .agg #[.int .i64 r.1, .int .i64 r.2] := by
  obtain ⟨cs, rfl, hsz⟩ := okWide_struct Tryz.underlying63 hv
  obtain ⟨fuel, hf⟩ := h
  obtain ⟨r, hr⟩ := open_mv hf
  exact ⟨r, congrArg Value.agg (Array.toList_inj.1 hr)⟩
theorem Tryz.bytesREntry : Tryz.prog.bytesOf 77 = 104 := by kernel_rfl
theorem Tryz.bytesRMove : Tryz.prog.bytesOf 63 = 16 := by kernel_rfl
set_option maxRecDepth 100000 in
theorem ens_reach {H : Type} {enc : TypeId × Value → H} {W : World} {fuel n cap : Nat} {a : Option Addr} {x : DataW H × List MemPlace} (h : DataW.trod enc Tryz.prog W 0 (fun _ => true) true fuel 22 [.slice a n cap] = some x)
    (hs : ∀ q ∈ x.1.weights Tryz.prog 22, q ≤ reachBytes) : n * 104 ≤ reachBytes := by
  rcases Go.Deep.open_slice Tryz.underlying22 h with ⟨hcs, _⟩ | ⟨a', len, cap', m, n', D, Pl, hcs, _, hl, hm, hmm, hx, _⟩
  · simp at hcs
    obtain ⟨_, rfl, _⟩ := hcs
    omega
  · simp at hcs
    obtain ⟨_, rfl, rfl⟩ := hcs
    subst hx
    have := hs ((((List.range n).map D).length + ((List.range (m - n)).map fun j => D (n + j)).length) * Tryz.prog.bytesOf 77) (by simp only [DataW.weights, Tryz.underlying22, List.mem_cons, true_or])
    rw [Tryz.bytesREntry] at this
    simp only [List.length_map, List.length_range] at this
    omega
set_option maxRecDepth 100000 in
theorem mvs_reach {H : Type} {enc : TypeId × Value → H} {W : World} {fuel n cap : Nat} {a : Option Addr} {x : DataW H × List MemPlace} (h : DataW.trod enc Tryz.prog W 0 (fun _ => true) true fuel 23 [.slice a n cap] = some x)
    (hs : ∀ q ∈ x.1.weights Tryz.prog 23, q ≤ reachBytes) : n * 16 ≤ reachBytes := by
  rcases Go.Deep.open_slice Tryz.underlying23 h with ⟨hcs, _⟩ | ⟨a', len, cap', m, n', D, Pl, hcs, _, hl, hm, hmm, hx, _⟩
  · simp at hcs
    obtain ⟨_, rfl, _⟩ := hcs
    omega
  · simp at hcs
    obtain ⟨_, rfl, rfl⟩ := hcs
    subst hx
    have := hs ((((List.range n).map D).length + ((List.range (m - n)).map fun j => D (n + j)).length) * Tryz.prog.bytesOf 63) (by simp only [DataW.weights, Tryz.underlying23, List.mem_cons, true_or])
    rw [Tryz.bytesRMove] at this
    simp only [List.length_map, List.length_range] at this
    omega
set_option maxRecDepth 100000 in
theorem file_reach {H : Type} {enc : TypeId × Value → H} {W : World} {n0 c0 n1 c1 n2 c2 : Nat} {a0 a1 a2 : Option Addr} {d : DataW H} {p : List MemPlace} (h : DataW.Trod enc Tryz.prog W 0 (fun _ => true) true 25 (.agg #[.slice a0 n0 c0, .slice a1 n1 c1, .slice a2 n2 c2]) d p)
    (hs : ∀ q ∈ d.weights Tryz.prog 25, q ≤ reachBytes) : n0 * 104 ≤ reachBytes ∧ n1 * 104 ≤ reachBytes ∧ n2 * 16 ≤ reachBytes := by
  obtain ⟨fuel, hf⟩ := h
  obtain ⟨y0, y1, y2, m, e, _, h0, h1, h2⟩ := Go.Deep.trod_struct3 Tryz.underlying25 hf
  have k1 : Tryz.prog.cellsOf 22 = 1 := by kernel_rfl
  have k2 : Tryz.prog.cellsOf 23 = 1 := by kernel_rfl
  simp only [Value.cells, k1, k2, List.drop, List.take] at h0 h1 h2
  have ed : d = .agg [y0.1, y1.1, y2.1] := congrArg Prod.fst e
  subst ed
  have key : ∀ q, (q ∈ y0.1.weights Tryz.prog 22 ∨ q ∈ y1.1.weights Tryz.prog 22 ∨ q ∈ y2.1.weights Tryz.prog 23) → q ≤ reachBytes := fun q hq => hs q (by
    simp only [DataW.weights, Tryz.underlying25]
    show q ∈ DataW.weightsEach Tryz.prog [22, 22, 23] [y0.1, y1.1, y2.1]
    simp only [DataW.weightsEach, List.mem_append]
    rcases hq with hq | hq | hq
    · exact .inl hq
    · exact .inr (.inl hq)
    · exact .inr (.inr (.inl hq)))
  exact ⟨ens_reach h0 fun q hq => key q (.inl hq), ens_reach h1 fun q hq => key q (.inr (.inl hq)), mvs_reach h2 fun q hq => key q (.inr (.inr hq))⟩
end Go.Proofs.YtgbdbikjckfgmaaGreat
