/- Loops over cells that may be left: the laws. Printed out of PE's. -/
import Derived.Test.YtjaoflfophcibaaIN
namespace Go.Proofs.Ytjaoflfophcibaa
open Go.RowKit Go.Shelf

/-- The iterator gives enc 0 .. enc (N - 1), or up to the round that says 'no more'. -/
def SeqS (P : Program) (g : Nat) (lb : Array Value) (N : Nat) (enc : Nat → Array Value) (K : World → World → Prop) (w : World) : Prop :=
  ∀ (n l : Nat) (J Jx : Nat → World → Prop) (W : World), Below w.heap.size w W → OwnFrom W.heap.size J → OwnFrom W.heap.size Jx →
    (∀ k W1, k < N → J k W1 → YieldAt Fence.wide n P l (enc k) W1 fun e W' => (e = .returned (.bool true) ∧ J (k + 1) W' ∧ K W1 W') ∨ (e = .returned (.bool false) ∧ Jx k W')) → J 0 W →
    CallsIn Fence.wide n P g (#[.func (.yield l) #[] #[]] ++ lb) W fun e W' => (∃ v, e = .returned v) ∧ (J N W' ∨ ∃ k, k < N ∧ Jx k W')
theorem stopped_range {P : Program} {n : Nat} {g : Operand} {ps : Array Tmp} {assign body : Code} {Q : Exit → Act → World → Prop} {a : Act} {w : World} {gf : Nat} {lb : Array Value}
    (hg : a.eval g = .func (.func gf) #[] lb) (eg : ∀ args w, (callFunc gf args).run P w = .ok (.enter gf args) w)
    {N : Nat} {enc : Nat → Array Value} {K : World → World → Prop} (hseq : SeqS P gf lb N enc K w) (hps : ∀ k, (enc k).size = ps.size)
    (hKt : ∀ {A B C : World}, K A B → K B C → K A C) (hKb : ∀ (W : World) (l : Nat) (o' : Obj), w.heap.size ≤ l → K W (W.putObj l o'))
    (I Ix : Nat → World → Prop) (hI : OwnFrom w.heap.size I) (hIx : OwnFrom w.heap.size Ix) (h0 : I 0 w)
    (A : Nat → Act → World → Prop) (hA : ∀ k a', OwnFrom w.heap.size (fun (_ : Unit) W => A k a' W))
    (hassign : ∀ l k W, I k W → k < N → assign.wpIn (Fence.wide.inRound l) (n - 1) P (Exit.then (fun a' W' => K W W' ∧ KeepsFrom w.heap.size W W' ∧ A k a' W') (fun _ _ _ => False))
      { tmps := (ps.zip (enc k)).foldl (fun t (p, v) => t.setIfInBounds p v) a.tmps, defers := [] } W)
    (hbody : ∀ l k a' W, w.heap.size ≤ l → A k a' W → k < N →
      body.wpIn (Fence.wide.inRound l) (n - 1) P (fun e _ W' => (e = .normal ∧ KeepsFrom w.heap.size W W' ∧ K W W' ∧ I (k + 1) W') ∨ (e = .ret ∧ KeepsFrom w.heap.size W W' ∧ Ix k W')) a' W)
    (hdone : ∀ D W, w.heap.size ≤ D → I N W → W.heap[D]? = some (.deferred (some [])) → Q .normal { a with defers := { target := .collected D, args := #[] } :: a.defers } W)
    (hstop : ∀ D k W, w.heap.size ≤ D → k < N → Ix k W → W.heap[D]? = some (.deferred (some [])) → Code.ret.wpIn Fence.wide n P Q { a with defers := { target := .collected D, args := #[] } :: a.defers } W) :
    (Code.rangeFunc g ps assign body).wpIn Fence.wide n P Q a w := by
  refine wpIn_rangeFunc fun fn hfn => ?_
  let rc : Loop := { state := .ready, pending := none, fn, tmps := a.tmps, params := ps, assign, body, defers := w.heap.size }
  have b0 : Book w.heap.size rc ((w.alloc (.deferred (some []))).alloc (.loop rc)) := by
    constructor
    · have := World.alloc_heap_new (w.alloc (.deferred (some []))) (.loop rc); rwa [World.size_alloc] at this
    · exact (Below.heap_alloc _ _ _ (by simp)).trans (World.alloc_heap_new w _)
  have hb : Below w.heap.size w ((w.alloc (.deferred (some []))).alloc (.loop rc)) := ((Below.refl _ w).alloc (Nat.le_refl _) _).alloc (by simp) _
  have hs : w.heap.size + 1 < ((w.alloc (.deferred (some []))).alloc (.loop rc)).heap.size := by simp
  refine ⟨w.heap.size + 1, [{ target := .collected w.heap.size, args := #[] }], (w.alloc (.deferred (some []))).alloc (.loop rc), { target := .fn (.func gf) lb, args := #[.func (.yield (w.heap.size + 1)) #[] #[]] }, (w.alloc (.deferred (some []))).alloc (.loop rc), gf,
    #[.func (.yield (w.heap.size + 1)) #[] #[]] ++ lb, (w.alloc (.deferred (some []))).alloc (.loop rc), run_enterLoop_outer fn a.tmps ps assign body, ?_, fun _ _ => trivial, ?_, fun h => (by cases h), ?_⟩
  · simp only [resolve, hg]
    simp [go_sem]
  · simp [invoke, go_sem, eg]
  refine (hseq (n - 1) (w.heap.size + 1) (fun k W => I k W ∧ Book w.heap.size rc W) (fun k W => Ix k W ∧ Book w.heap.size { rc with state := .done, pending := some .ret } W) _ hb ?_ ?_ ?_ ⟨hI.alloc _ (hI.alloc _ h0), b0⟩).mono ?_
  · intro s X Y row h1 h2 h3
    exact ⟨hI s X Y row h1.1 h2 (fun r e => ⟨by have := (h3 r e).1; simp at this; omega, (h3 r e).2⟩), h1.2.grown h2 (fun r e => by have := (h3 r e).1; simp at this; omega)⟩
  · intro s X Y row h1 h2 h3
    exact ⟨hIx s X Y row h1.1 h2 (fun r e => ⟨by have := (h3 r e).1; simp at this; omega, (h3 r e).2⟩), h1.2.grown h2 (fun r e => by have := (h3 r e).1; simp at this; omega)⟩
  · rintro k W hlen ⟨hi, hbk⟩
    refine ⟨fn, _, assign, body, run_yield hbk.lp (hps k), roundIn_of_wpIn hfn ?_⟩
    refine wpIn_mono (hassign _ k W hi hlen) ?_
    intro e a' W1 hq
    cases e with
    | normal =>
      obtain ⟨k1, f1, hax⟩ := hq
      have bk1 := hbk.keeps f1
      refine ⟨_, run_beginRound bk1.lp rfl, ?_⟩
      have k2 := hKb W1 (w.heap.size + 1) (.loop { rc with state := .busy }) (by omega)
      have bk2 := bk1.put { rc with state := .busy }
      refine wpIn_mono (hbody _ k a' _ (by omega) ((hA k a').putObj (s := ()) _ hax (by omega) bk1.lp rfl) hlen) ?_
      rintro e a3 W3 (⟨rfl, f3, k3, hi3⟩ | ⟨rfl, f3, hi3⟩)
      · have bk3 := bk2.keeps f3
        have k4 := hKb W3 (w.heap.size + 1) (.loop rc) (by omega)
        exact ⟨_, _, run_endRound none bk3.lp, .inl ⟨rfl, ⟨hI.putObj _ hi3 (by omega) bk3.lp rfl, bk3.put _⟩, hKt (hKt (hKt k1 k2) k3) k4⟩⟩
      · have bk3 := bk2.keeps f3
        exact ⟨_, _, run_endRound (some .ret) bk3.lp, .inr ⟨rfl, hIx.putObj _ hi3 (by omega) bk3.lp rfl, bk3.put _⟩⟩
    | _ => exact hq.elim
  · rintro e W ⟨⟨v, rfl⟩, ⟨hi, hbk⟩ | ⟨k, hk, hi, hbk⟩⟩
    · refine ⟨none, _, run_endLoop hbk.lp (by simp [rc]), ?_⟩
      exact hdone _ _ (Nat.le_refl _) (hI.putObj _ hi (by omega) hbk.lp rfl) ((hbk.put _).df)
    · refine ⟨some .ret, _, run_endLoop hbk.lp (by simp), ?_⟩
      exact hstop _ k _ (Nat.le_refl _) hk (hIx.putObj _ hi (by omega) hbk.lp rfl) ((hbk.put _).df)
end Go.Proofs.Ytjaoflfophcibaa

namespace Go.Proofs.Ytjaoflfophcibaa
open Go Go.RowKit Go.Shelf
attribute [local go_sem] Oper.semAt_some
set_option maxRecDepth 100000 in
set_option maxHeartbeats 2000000 in
theorem cells2_in (n l Bt N0 : Nat) (ex : Nat → Prop) (x : WV) (t : Tb) (hs : t.small) (hn4 : t.nc ≤ 4) (hg4 : t.ng ≤ 4) (J Jx : Nat → World → Prop) (W : World) (hN : N0 ≤ W.heap.size)
    (hT : ∀ X, Kx N0 ex W X → TBox X Bt x t)
    (hJ : OwnFrom W.heap.size J)
    (hY : ∀ k W1, k < t.nc * t.ng → J k W1 → YieldAt Fence.wide (n - 1) Try.prog l (encC t.ng k) W1 fun e W' => (e = .returned (.bool true) ∧ J (k + 1) W' ∧ Kx N0 ex W1 W') ∨ (e = .returned (.bool false) ∧ Jx k W')) (h0 : J 0 W) :
    CallsIn Fence.wide n Try.prog 106 #[.func (.yield l) #[] #[], .pointer (some ⟨Bt, 0, none⟩)] W fun e W' => (∃ v, e = .returned v) ∧ (J (t.nc * t.ng) W' ∨ ∃ k, k < t.nc * t.ng ∧ Jx k W') := by
  have HS := Lib.hid hs
  have HT := Lib.hid hT
  have HY := Lib.hid hY
  have HJ := Lib.hid hJ
  have hngs := hs.ng
  have HC : Hid (∀ X, Kx N0 ex W X → X.cell? ⟨Bt, 0, none⟩ = some (x.cv t) ∧ X.cell? ⟨Bt, 1, none⟩ = some (x.bv t) ∧ X.cell? ⟨Bt, 2, none⟩ = some (x.rv t) ∧ X.cell? ⟨Bt, 3, none⟩ = some (x.nv t)) := fun X hX => cells4 (hT X hX).1
  obtain ⟨k0, k1, k2, k3⟩ := HC.out W (Kx.refl _ _ _)
  have HGR : Hid (∀ X, Kx N0 ex W X → Calls Try.prog 57 #[.agg #[x.cv t, x.bv t, x.rv t, x.nv t]] X fun e w' => e = .returned (.int .i64 (t.ng : Int)) ∧ Below X.heap.size X w') := fun X hX => groups_any _ t X (hT X hX).2.tb hs
  clear hs hT hY hJ
  unfold WV.cv WV.bv WV.rv WV.nv at *
  refine callsIn_of_wp Try.func106 rfl trivial ?_ rfl
  simp only [Try.ntmps106, List.size_toArray, List.length_cons, List.length_nil, Nat.reduceAdd, Nat.reduceSub, Array.replicate_succ, Array.replicate_zero, List.push_toArray, List.append_toArray, List.nil_append, List.cons_append]
  gi_wp2
  gi_loopw [8] (fun i wr => ∃ c : Nat, c ≤ t.nc ∧ i = .int .i64 c ∧ J (c * t.ng) wr ∧ Kx N0 ex W wr) (fun i _ => t.nc - (intOf i).toNat)
  case atStart => exact ⟨0, Nat.zero_le _, rfl, by rw [Nat.zero_mul]; exact h0, Kx.refl _ _ _⟩
  case round =>
    clear k0 k1 k2 k3
    obtain ⟨c, hc, rfl, hj, hk⟩ := hrel
    have HJ1 := Lib.hid hj; have HK := Lib.hid hk
    clear hj hk h0
    obtain ⟨k0, k1, k2, k3⟩ := HC.out wr HK.out
    by_cases hlt : c < t.nc
    · gi_wp2_with fail
      refine ⟨trivial, (fun h => by cases h), ?_⟩
      refine CallsIn.mono (callsIn_wide.2 (HGR.out wr HK.out)) ?_
      rintro _ w2 ⟨rfl, hb2⟩
      have hK2 : Kx N0 ex W w2 := HK.out.trans (Kx.below (Nat.le_trans hN HK.out.size) hb2)
      have hJ2 : J (c * t.ng) w2 := HJ.out _ wr w2 none HJ1.out (below_grown hb2) (fun r e => by cases e)
      clear hb2 k0 k1 k2 k3
      gi_wp2
      gi_loopw [13] (fun i wr => ∃ g : Nat, g ≤ t.ng ∧ i = .int .i64 g ∧ J (c * t.ng + g) wr ∧ Kx N0 ex W wr) (fun i _ => t.ng - (intOf i).toNat)
      case atStart => exact ⟨0, Nat.zero_le _, rfl, hJ2, hK2⟩
      case round =>
        clear hJ2 hK2 HJ1 HK
        obtain ⟨g, hg, rfl, hj, hk⟩ := hrel
        have HJ3 := Lib.hid hj; have HK3 := Lib.hid hk
        clear hj hk
        by_cases hlg : g < t.ng
        · have hin : c * t.ng + g < t.nc * t.ng := by
            have : (c + 1) * t.ng ≤ t.nc * t.ng := Nat.mul_le_mul_right _ hlt
            rw [Nat.succ_mul] at this; omega
          obtain ⟨fn, tmps, assign, body, hy, hR⟩ := HY.out _ _ hin HJ3.out
          have e1 : (c * t.ng + g) / t.ng = c := by rw [Nat.mul_comm, Nat.mul_add_div (by omega), Nat.div_eq_of_lt hlg]; omega
          have e2 : (c * t.ng + g) % t.ng = g := by rw [Nat.mul_comm, Nat.mul_add_mod, Nat.mod_eq_of_lt hlg]
          unfold encC at hy
          rw [e1, e2] at hy
          have HR := Lib.hid hR
          have HIN := Lib.hid hin
          clear hR hin e1 e2
          gi_wp2
          refine ⟨(fun h => by cases h), ?_⟩
          refine HR.out.mono ?_
          rintro e W3 (⟨rfl, hJ4, hk4⟩ | ⟨rfl, hx4⟩)
          · have HJ4 := Lib.hid hJ4
            have HK4 := Lib.hid hk4
            clear hJ4 hk4 hy HR HIN
            gi_wp2
            go_roundw
            case rel => exact ⟨g + 1, by omega, by go_num, HJ4.out, HK3.out.trans HK4.out⟩
            case measure => simp [intOf]; omega
          · have HX4 := Lib.hid hx4
            clear hx4 hy HR
            gi_wp2
            refine bodyPost_ret (results_none rfl _ _ _) rfl ?_
            exact ⟨⟨_, rfl⟩, .inr ⟨_, HIN.out, HX4.out⟩⟩
        · obtain rfl : g = t.ng := by omega
          gi_wp2
          go_roundw
          case rel => exact ⟨c + 1, by omega, by go_num, by rw [Nat.succ_mul]; exact HJ3.out, HK3.out⟩
          case measure => simp [intOf]; omega
    · obtain rfl : c = t.nc := by omega
      gi_wp2
      go_end0
      exact ⟨⟨_, rfl⟩, .inl HJ1.out⟩
theorem cells_stopped (Bt N0 : Nat) (ex : Nat → Prop) (x : WV) (t : Tb) (hs : t.small) (hn4 : t.nc ≤ 4) (hg4 : t.ng ≤ 4) (w : World) (hN : N0 ≤ w.heap.size) (hT : ∀ X, Kx N0 ex w X → TBox X Bt x t) :
    SeqS Try.prog 106 #[.pointer (some ⟨Bt, 0, none⟩)] (t.nc * t.ng) (encC t.ng) (Kx N0 ex) w := fun n l J Jx W hW hJ _ hY h0 =>
  cells2_in n l Bt N0 ex x t hs hn4 hg4 J Jx W (Nat.le_trans hN hW.size) (fun X hX => hT X ((Kx.below hN hW).trans hX)) hJ (fun k W1 hk hj => YieldAt.wide (hY k W1 hk hj)) h0
end Go.Proofs.Ytjaoflfophcibaa
