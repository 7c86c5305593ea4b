/- ready; append of a slice that may be nil; rows of the reference's records. -/
import Derived.Test.YtagfcfojfjkmbaaL2
import Derived.Test.YtagfcfojfjkmbaaN3
namespace Go.Proofs.Ytagfcfojfjkmbaa
open Go.RowKit Go.Shelf

/-- The cells of a slice that may be nil. -/
def Src (w : World) (src : Option Addr) (size m : Nat) (news : List Value) : Prop :=
  news.length = m * size ∧ ∀ j u, news[j]? = some u → ∃ a, src = some a ∧ w.cell? (a.add j) = some u
section
variable {P : Program} (w : World)
theorem run_append_src (base : Nat) (t ty e : TypeId) (i : TypeInfo) (z : Value) (size bytes : Nat) (ht : P.underlying t = some (.slice e)) (hi : P.info? e = some i) (hz : i.zero = some z)
    (hsize : i.size = size) (hby : i.bytes = bytes) (hzs : z.cells.size = size) (hsz : 0 < size)
    (v : Value) (n : Nat) (xs : List Value) (hown : w.ownsRow base e size v n xs)
    (src : Option Addr) (m c : Nat) (news : List Value) (hsrc : Src w src size m news) (h1 : ∀ u ∈ news, u.oneCell' = true)
    (h63 : n + m ≤ maxLen) (hbytes : (n + m) * bytes ≤ 140737488355328) (hbase : base ≤ w.heap.size) :
    ∃ v' w', (Builtin.append_ #[t, t] ty #[v, .slice src m c]).run P w = .ok v' w' ∧ w'.ownsRow base e size v' (n + m) (xs ++ news) ∧ w.grownBy w' v.ownBlock ∧ (v'.ownBlock = v.ownBlock ∨ v'.ownBlock = some w.heap.size) := by
  obtain ⟨hl, hc⟩ := hsrc
  cases src with
  | some a =>
    obtain ⟨v', w', h2, h3, h4, _, h5⟩ := run_append_own_at (P := P) w base t ty e i z size bytes ht hi hz hsize hby hzs hsz v n xs hown a m c news hl (fun j u hu => by obtain ⟨a', e, h⟩ := hc j u hu; cases e; exact h) h1 h63 hbytes hbase
    exact ⟨v', w', h2, h3, h4, h5⟩
  | none =>
    have hn : news = [] := by
      cases hn : news with
      | nil => rfl
      | cons x l => rw [hn] at hc; obtain ⟨_, e, _⟩ := hc 0 x rfl; cases e
    subst hn
    have hm : m = 0 := by
      rcases Nat.eq_zero_or_pos m with h | h
      · exact h
      · have := Nat.mul_pos h hsz; simp at hl; omega
    subst hm
    refine ⟨v, w, ?_, by simpa using hown, ⟨rfl, rfl, rfl, Nat.le_refl _, fun _ _ _ => rfl⟩, .inl rfl⟩
    rcases hown.2 with ⟨rfl, rfl⟩ | ⟨g, cap, cur, rfl, _, _, hnc, _⟩ <;> simp [Builtin.append_, run_underlying ht, sizeOf, typeInfo, Builtin.lenOf, Builtin.firstCells, storeCells, *]

theorem step_append_src {ops : Array Oper} {o : Oper} {a : Act} {K : Act → World → Prop} {Q : Exit → Act → World → Prop} {E : Prop} (hgd : o.guard = none) (s x : Operand) (t : TypeId)
    (ho : o.op = .call { callee := .builtin .append, args := #[s, x], argTypes := #[t, t] })
    (base : Nat) (e : TypeId) (i : TypeInfo) (z : Value) (size bytes : Nat) (ht : P.underlying t = some (.slice e)) (hi : P.info? e = some i) (hz : i.zero = some z)
    (hsize : i.size = size) (hby : i.bytes = bytes) (hzs : z.cells.size = size) (hsz : 0 < size)
    (v : Value) (n : Nat) (xs : List Value) (hs : a.eval s = v) (hown : w.ownsRow base e size v n xs)
    (src : Option Addr) (m c : Nat) (news : List Value) (hx : a.eval x = .slice src m c) (hsrc : Src w src size m news) (h1 : ∀ u ∈ news, u.oneCell' = true)
    (h63 : n + m ≤ maxLen) (hbytes : (n + m) * bytes ≤ 140737488355328) (hbase : base ≤ w.heap.size)
    (h : ∀ v' w', w'.ownsRow base e size v' (n + m) (xs ++ news) → w.grownBy w' v.ownBlock → (v'.ownBlock = v.ownBlock ∨ v'.ownBlock = some w.heap.size) → K (a.put o.dst v') w') :
    if Region.wanted o (yielded ops a.tmps) = true then Oper.wp P o a w K Q else E := by
  have hw : Region.wanted o (yielded ops a.tmps) = true := by simp [Region.wanted, hgd]
  rw [if_pos hw]
  obtain ⟨v', w', hr, h2, h3, h4⟩ := run_append_src (P := P) w base t o.type e i z size bytes ht hi hz hsize hby hzs hsz v n xs hown src m c news hsrc h1 h63 hbytes hbase
  unfold Oper.wp execOp
  simp only [ho, resolve, invoke, builtin, Sem.run_bind, Sem.run_pure, Result.andThen_ok, List.map_toArray, List.map_cons, List.map_nil, hs, hx, hr]
  exact h v' w' h2 h3 h4
end

theorem flatC_at {l : List Rc} {j : Nat} {u : Value} (h : (flatC l)[j]? = some u) : ∃ k, ∃ hk : k < l.length, (j = k * 3 ∧ u = .int .i64 l[k].day) ∨ (j = k * 3 + 1 ∧ u = .int .i64 l[k].rule) ∨ (j = k * 3 + 2 ∧ u = .int .i64 l[k].num) := by
  have hj : j < l.length * 3 := by rw [← flatC_length]; exact (List.getElem?_eq_some_iff.1 h).1
  have hk : j / 3 < l.length := by omega
  obtain ⟨h0, h1, h2⟩ := flatC_get l (j / 3) hk
  refine ⟨j / 3, hk, ?_⟩
  rcases (by omega : j % 3 = 0 ∨ j % 3 = 1 ∨ j % 3 = 2) with e | e | e
  · rw [show j = j / 3 * 3 from by omega, h0] at h; exact .inl ⟨by omega, (Option.some.inj h).symm⟩
  · rw [show j = j / 3 * 3 + 1 from by omega, h1] at h; exact .inr (.inl ⟨by omega, (Option.some.inj h).symm⟩)
  · rw [show j = j / 3 * 3 + 2 from by omega, h2] at h; exact .inr (.inr ⟨by omega, (Option.some.inj h).symm⟩)
theorem RcsIn.src {w : World} {a : Option Addr} {n cap : Nat} {C : Nat → Rc} (h : RcsIn w (.slice a n cap) n C) : Src w a 3 n (flatC (rcTo C n)) := by
  refine ⟨by rw [flatC_length, rcTo_length], fun j u hu => ?_⟩
  obtain ⟨k, hk, hj⟩ := flatC_at hu
  rw [rcTo_length] at hk
  obtain ⟨b, off, rfl, _, c0, c1, c2⟩ := h.at (Below.refl _ _) hk
  have hC : (rcTo C n)[k]'(by rw [rcTo_length]; exact hk) = C k := by simp [rcTo]
  rw [hC] at hj
  refine ⟨_, rfl, ?_⟩
  have hadd : (⟨b, off, none⟩ : Addr).add j = ⟨b, off + j, none⟩ := by unfold Addr.add; split <;> simp_all
  rw [hadd]
  rcases hj with ⟨rfl, rfl⟩ | ⟨rfl, rfl⟩ | ⟨rfl, rfl⟩
  · exact c0
  · exact c1
  · exact c2

/-- A row of the reference's records of one's own. -/
def CR (W : World) (base : Nat) (v : Value) (l : List Rc) : Prop := W.ownsRow base 59 3 v l.length (flatC l)
theorem CR.in {W : World} {base : Nat} {v : Value} {l : List Rc} (h : CR W base v l) : RcsIn W v l.length (fun j => l.getD j ⟨0, 0, 0⟩) := by
  have h0 := h
  rcases h.2 with ⟨rfl, hl⟩ | ⟨g, cap, cur, rfl, _, hc, _⟩
  · rw [hl]; exact .inl ⟨_, _, rfl, rfl⟩
  · refine .inr ⟨g, 0, cap, rfl, (Array.getElem?_eq_some_iff.1 hc).1, fun j hj => ?_⟩
    have hf := flatC_get l j hj
    have hl := flatC_length l
    unfold CR at h0
    simp only [Nat.zero_add, show l.getD j ⟨0, 0, 0⟩ = l[j] from by simp [hj]]
    rw [h0.cellAt _ (by omega), h0.cellAt _ (by omega), h0.cellAt _ (by omega)]
    exact hf
theorem Try.infoRec : (Try.prog.info? 59).map (fun i => (i.zero, i.size, i.bytes)) = some (some (.agg #[.int .i64 0, .int .i64 0, .int .i64 0]), 3, 24) := by kernel_rfl

theorem fault_thin {p : Pers} (h : p.fault = 0) : p.thin = true := by
  obtain ⟨h1, h2, _⟩ := Pers.ok_facts h
  simp [Pers.thin]; omega
set_option maxHeartbeats 1000000 in
theorem ready_any (v : Value) (p : Pers) (w : World) (h : PersIn w v p) : Calls Try.prog 36 #[v] w fun e w' => e = .returned (.bool (p.fault == 0)) ∧ Below w.heap.size w w' := by
  have HP := Lib.hid h
  obtain ⟨rv, cv, rfl, _⟩ := h
  cases ht : p.thin
  · have hf : Hid ((p.fault == 0) = false) := by unfold Hid; rw [beq_eq_false_iff_ne]; intro e; rw [fault_thin e] at ht; cases ht
    go_enter Try.func36, Try.ntmps36
    go_wp2_with (go_at_call 25; refine (thin_any _ p _ (HP.out.below (below_alloc _ _))).mono ?_; rintro _ w1 ⟨rfl, hb1⟩)
    go_ret
    exact ⟨by rw [hf.out]; rfl, below_step (below_alloc _ _) hb1⟩
  · go_enter Try.func36, Try.ntmps36
    go_wp2_with fail
    refine (thin_any _ p _ (HP.out.below (below_alloc _ _))).mono ?_
    rintro _ w1 ⟨rfl, hb1⟩
    have HB1 := Lib.hid (below_step (below_alloc w _) hb1)
    obtain ⟨hc1, hf1⟩ := bcell hb1
    clear hb1
    go_wp2_with fail
    refine (fault_any _ p _ (HP.out.below HB1.out)).mono ?_
    rintro _ w2 ⟨rfl, hb2⟩
    go_wp2_with fail
    go_ret
    exact ⟨rfl, below_step HB1.out hb2⟩
end Go.Proofs.Ytagfcfojfjkmbaa
