/- Walk: Plan. -/
import Derived.Test.YtpnkgjkoophckaaYT
import Derived.Test.YtpnkgjkoophckaaZE
namespace Go.Proofs.Ytpnkgjkoophckaa
open Go.RowKit Go.Shelf Go.Maps

abbrev TQ := LV × List Nat × List Nat
/-- A tour whose lists were made since a world of this size. -/
def TqO (base : Nat) (X : World) (q : TQ) : Prop := X.ownsRow base 3 1 (.slice q.1.ra q.2.1.length q.1.rc) q.2.1.length (nL q.2.1) ∧ X.ownsRow base 3 1 (.slice q.1.ca q.2.2.length q.1.cc) q.2.2.length (nL q.2.2)
def flQ (Q : List TQ) : List Value := Q.flatMap fun q => [.slice q.1.ra q.2.1.length q.1.rc, .slice q.1.ca q.2.2.length q.1.cc]
theorem flQ_snoc (Q : List TQ) (q : TQ) : flQ (Q ++ [q]) = flQ Q ++ [.slice q.1.ra q.2.1.length q.1.rc, .slice q.1.ca q.2.2.length q.1.cc] := by unfold flQ; rw [List.flatMap_append]; rfl
theorem TqO.fr {base : Nat} {X Y : World} {q : TQ} {ex : Nat → Prop} (h : TqO base X q) (hf : Fr ex X Y) (hx : ∀ b cs, X.heap[b]? = some (.cells cs 3 (0, 0)) → ¬ ex b) : TqO base Y q :=
  ⟨own_fr h.1 hf (fun g cur _ _ hc => hx g cur hc), own_fr h.2 hf (fun g cur _ _ hc => hx g cur hc)⟩
/-- What Plan gives. -/
def GivesPl (w : World) (m : Mp) (lim : Int) (e : Ending) (w' : World) : Prop :=
  Below w.heap.size w w' ∧
    ((dvdE m lim ≠ 0 ∧ e = .returned (.tuple #[.slice none 0 0, .int .i64 (dvdE m lim)])) ∨
     (dvdE m lim = 0 ∧ ∃ (a : Option Addr) (c : Nat) (Q : List TQ), e = .returned (.tuple #[.slice a Q.length c, .int .i64 0]) ∧ Q.map (fun q => q.2) = (dvW m lim).map (fun s => (tourL m s, plc s)) ∧ w'.ownsRow w.heap.size 30 2 (.slice a Q.length c) Q.length (flQ Q) ∧ ∀ q, q ∈ Q → TqO w.heap.size w' q))
theorem Try.infoWalkV : (Try.prog.info? 30).map (fun i => (i.zero, i.size, i.bytes)) = some (some (.agg #[.slice none 0 0, .slice none 0 0]), 2, 48) := by kernel_rfl
set_option maxRecDepth 100000 in
set_option maxHeartbeats 16000000 in
theorem Plan_any (x : MV) (m : Mp) (lim : Int) (w : World) (h : MpIn w x m) (hnw : m.nw ≤ 100000) (hnr : m.nr ≤ 100000) :
    Calls Try.prog 45 #[.agg #[.slice x.wa m.nw x.wc, .slice x.ra m.nr x.rc], .int .i64 lim] w (GivesPl w m lim) := by
  obtain ⟨i0, hi0, hz0, hz1, hz2⟩ := info_parts Try.infoWalkV
  have HDV := Lib.hid (fun W (hW : Below w.heap.size w W) => divided_any x m lim W (h.below hW) hnw hnr)
  have HOKM : Hid (dvdE m lim = 0 → OkM m ∧ lim ≤ 10000) := fun e => by
    unfold dvdE at e
    by_cases hf : m.fault = 0
    · rw [if_neg (by simpa using hf)] at e
      refine ⟨okM_of hf, ?_⟩
      by_cases hb : inB lim 0 10000 = true
      · simp only [inB, Bool.and_eq_true, decide_eq_true_eq] at hb; exact hb.2
      · rw [if_neg hb] at e; exact absurd e (by decide)
    · rw [if_pos (by simpa using hf)] at e; exact absurd e hf
  unfold GivesP at HDV
  unfold GivesPl
  clear h
  have HMEM : Hid (dvdE m lim = 0 → ∀ p, p ∈ dvW m lim → p < 2 ^ m.nw ∧ 0 < p ∧ lgM m p ≤ lim ∧ rsT m 0 p < 1048576) := fun e p hp => dvW_mem (HOKM.out e).1 (by have := (HOKM.out e).2; omega) hp
  have HLEN : Hid (dvdE m lim = 0 → (dvW m lim).length ≤ 8) := fun e => by have := dvW_len (HOKM.out e).1 lim; have := (HOKM.out e).1.nw; omega
  have HA0 : Hid (BF w (w.alloc (.cells #[.slice x.wa m.nw x.wc, .slice x.ra m.nr x.rc] 37)) [(w.heap.size, #[.slice x.wa m.nw x.wc, .slice x.ra m.nr x.rc], 37)]) := (BF.base w).alloc _ _
  obtain ⟨te, hte⟩ : ∃ te, te = dvdE m lim := ⟨_, rfl⟩
  obtain ⟨D, hD⟩ : ∃ D, D = dvW m lim := ⟨_, rfl⟩
  rw [← hte, ← hD] at HDV HMEM ⊢
  rw [← hte] at HOKM HLEN
  rw [← hD] at HLEN
  clear hte hD
  go_enter Try.func45, Try.ntmps45
  go_upto_region 1 with fail
  generalize w.alloc (.cells #[.slice x.wa m.nw x.wc, .slice x.ra m.nr x.rc] 37) = w0 at *
  have c0 := HA0.out.cell (.head _) 0
  have c1 := HA0.out.cell (.head _) 1
  go_wp2_with fail
  refine (HDV.out _ HA0.out.fr).mono ?_
  rintro e w1 ⟨hb, h⟩
  have HA1 := Lib.hid (HA0.out.below hb)
  have hs01 := hb.size
  clear hb HDV
  rcases h with ⟨hne, rfl⟩ | ⟨h0, A, bm, g, c, rfl, hat, hown, hA, hbm⟩
  · have kne : (te != 0) = true := by simpa using hne
    go_wp2_with fail
    exact bodyPost_ret (v := .tuple #[.slice none 0 0, .int .i64 te]) (by simp [results, Try.results45, go_sem]) rfl ⟨HA1.out.fr, .inl ⟨hne, rfl⟩⟩
  have hok := (HOKM.out h0).1
  have HME := Lib.hid (HMEM.out h0)
  have hln := HLEN.out h0
  have HS1 := Lib.hid hat
  have HO1 := Lib.hid hown
  have hs1 := HA1.out.fr.size
  have HBL : Hid (w.heap.size ≤ bm) := by have := HA0.out.fr.size; exact Nat.le_trans this hbm
  have HT0 := Lib.hid h0
  clear hat hown HOKM HMEM HLEN c0 c1 h0
  have hbw : bm < w1.heap.size := by obtain ⟨es, kk, hm⟩ := HS1.out.cm.mp; exact (Array.getElem?_eq_some_iff.1 hm).1
  have hbM : w.heap.size ≠ bm := by
    intro e
    obtain ⟨es, kk, hm⟩ := HS1.out.cm.mp
    rw [← e, (HA1.out.bk _ _ _ (.head _)).2] at hm
    cases hm
  have HTR := Lib.hid (fun s n W (hs : s < 2 ^ m.nw) (hf : rsT m 0 s < 1048576) hn hW => tour_any hok x A bm s n hs hf hn W hW)
  unfold GivesT at HTR
  clear hok
  have HF0 := Lib.hid (AF.base HS1.out)
  obtain ⟨nD, hnD⟩ : ∃ nD, D.length = nD := ⟨_, rfl⟩
  have HND := Lib.hid hnD
  rw [hnD] at HO1 hln ⊢
  clear hnD
  go_wp2_with fail
  go_loopw [9, 11, 24] (fun v _ i wr => ∃ (k : Nat) (va : Option Addr) (vc : Nat) (Q : List TQ), i = .int .i64 k ∧ k ≤ nD ∧ Q.length = k ∧ v = .slice va k vc ∧ AF w1 wr A bm (30000000000000000 + k * 1800000) x m [] ∧ Q.map (fun q => q.2) = (D.take k).map (fun s => (tourL m s, plc s)) ∧ wr.ownsRow w1.heap.size 30 2 (.slice va k vc) k (flQ Q) ∧ (∀ q, q ∈ Q → TqO w1.heap.size wr q) ∧ wr.ownsRow 0 124 1 (.slice (some ⟨g, 0, none⟩) nD c) nD (nL D)) (fun _ _ i _ => nD - (intOf i).toNat)
  case atStart => exact ⟨0, none, 0, [], rfl, Nat.zero_le _, rfl, rfl, by simpa using HF0.out, rfl, World.ownsRow_nil _ _ _ _, (fun q hq => by cases hq), HO1.out⟩
  case round =>
    clear HF0 HO1
    obtain ⟨k, va, vc, Q, rfl, hk, hQ, rfl, haf, hqm, how, hqo, hset⟩ := hrel
    rename World => wx
    have HF1 := Lib.hid haf; have HQM := Lib.hid hqm; have HO2 := Lib.hid how; have HQO := Lib.hid hqo; have HST := Lib.hid hset; have HQL := Lib.hid hQ
    clear haf hqm how hqo hset hQ
    by_cases hlt : k < nD
    · have hkD : k < D.length := by rw [HND.out]; exact hlt
      obtain ⟨s, hs⟩ : ∃ s, s = D[k] := ⟨_, rfl⟩
      have hsD : s ∈ D := by rw [hs]; exact List.getElem_mem _
      have HTK : Hid (D.take (k + 1) = D.take k ++ [s]) := by unfold Hid; rw [hs, List.take_add_one, List.getElem?_eq_getElem hkD]; rfl
      have x0 : wx.cell? ⟨g, k, none⟩ = some (.int .i64 (s : Int)) := by
        rcases HST.out.2 with ⟨e1, _⟩ | ⟨g', cap, cur, e1, _, hg, _⟩
        · cases e1
        · refine (HST.out.cellAt k (by omega)).trans ?_
          rw [nL_get hkD]
          rw [List.getD_eq_getElem?_getD, List.getElem?_eq_getElem hkD, hs]
          rfl
      obtain ⟨s1, s2, s3, s4⟩ := HME.out s hsD
      have HT1 := Lib.hid (HTR.out s (30000000000000000 + k * 1800000) wx s1 s4 (by omega) HF1.out.st)
      have ki : (0 : Int) ≤ (k : Int) := by omega
      have kn : (k : Int) < (nD : Int) := by omega
      clear hs hsD s1 s2 s3 s4 hkD
      go_wp2_with fail
      refine HT1.out.mono ?_
      rintro _ w5 ⟨z, rfl, hwo, hs5, hf5⟩
      have hnI : ∀ b cs T, wx.heap[b]? = some (.cells cs T (0, 0)) → ¬ b = bm := fun b cs T hb e => by subst e; obtain ⟨es, kk, hm⟩ := HF1.out.st.cm.mp; rw [hm] at hb; cases hb
      have hsw := HF1.out.fr.size
      have HF5 := Lib.hid (HF1.out.go hbw hf5 hs5)
      have HO5 := Lib.hid (own_fr HO2.out hf5 (fun g' cur _ _ hc => hnI g' cur _ hc))
      have HST5 := Lib.hid (own_fr HST.out hf5 (fun g' cur _ _ hc => hnI g' cur _ hc))
      have HQO5 := Lib.hid (fun q (hq : q ∈ Q) => (HQO.out q hq).fr hf5 (fun b cs hb => hnI b cs _ hb))
      have HTQ : Hid (TqO w1.heap.size w5 (z, tourL m s, plc s)) := ⟨own_mono (hwo.own 0 _ rfl) hsw, own_mono (hwo.own 1 _ rfl) hsw⟩
      obtain ⟨R, hR⟩ : ∃ R, R = tourL m s := ⟨_, rfl⟩
      obtain ⟨C, hC⟩ : ∃ C, C = plc s := ⟨_, rfl⟩
      have HRC := Lib.hid (And.intro hR hC)
      rw [← hR, ← hC] at HTQ ⊢
      clear hwo hs5 hf5 hnI hR hC HF1 HO2 HST HQO HT1 hsw x0
      obtain ⟨za, zc, ya, yc⟩ := z
      simp only at HTQ ⊢
      go_wp2_with (at_builtin; refine wpList_append_src _ rfl (.tmp 28) (.tmp 32) 85 rfl w1.heap.size 30 i0 (.agg #[.slice none 0 0, .slice none 0 0]) 2 48 Try.underlying85 hi0 hz0 hz1 hz2 rfl (by decide) (.slice va k vc) k (flQ Q) rfl (own_below HO5.out (below_alloc _ _)) (some ⟨w5.heap.size, 0, none⟩) 1 1 [.slice za R.length zc, .slice ya C.length yc] rfl ⟨rfl, fun j u hu => ⟨_, rfl, World.news_of_block (heap_alloc_new w5 _) j u hu⟩⟩ (by simp [Value.oneCell']) ?a1 ?a2 ?a3 ?_)
      case a1 => unfold maxLen; omega
      case a2 => omega
      case a3 => have := HF5.out.fr.size; simp; omega
      intro v2 w6 hown hgr hlt1
      obtain ⟨ea, ec, rfl⟩ := own_slice' hown
      have HF6 := Lib.hid (HF5.out.below hbw (below_alloc w5 (.cells #[.slice za R.length zc, .slice ya C.length yc] 30)))
      have HF7 := Lib.hid (HF6.out.grow HS1.out (own_below HO5.out (below_alloc _ _)) (List.forall_mem_nil _) (Nat.le_refl _) hgr)
      have hne : ∀ b cs T, T ≠ 30 → (w5.alloc (.cells #[.slice za R.length zc, .slice ya C.length yc] 30)).heap[b]? = some (.cells cs T (0, 0)) → ¬ (Value.slice va k vc).ownBlock = some b := fun b cs T hT hb => own_type_ne (own_below HO5.out (below_alloc _ _)) hb hT
      have HST7 := Lib.hid (own_fr (own_below HST5.out (below_alloc w5 _)) (Fr.grown hgr) (fun g' cur _ _ hc => hne g' cur _ (by decide) hc))
      have HQO7 := Lib.hid (fun q (hq : q ∈ Q) => ((HQO5.out q hq).fr (Fr.below (below_alloc w5 _) (fun _ => False)) (fun _ _ _ h => h)).fr (Fr.grown hgr) (fun b cs hb => hne b cs _ (by decide) hb))
      have HTQ7 := Lib.hid ((HTQ.out.fr (Fr.below (below_alloc w5 _) (fun _ => False)) (fun _ _ _ h => h)).fr (Fr.grown hgr) (fun b cs hb => hne b cs _ (by decide) hb))
      have HO7 : Hid (w6.ownsRow w1.heap.size 30 2 (.slice ea (k + 1) ec) (k + 1) (flQ (Q ++ [(⟨za, zc, ya, yc⟩, R, C)]))) := by rw [flQ_snoc]; exact hown
      clear hown hgr hlt1 hne HF5 HF6 HO5 HST5 HQO5 HTQ
      go_wp2_with fail
      go_roundw
      case rel => exact ⟨k + 1, ea, ec, Q ++ [(⟨za, zc, ya, yc⟩, R, C)], by go_num, by omega, by rw [List.length_append, HQL.out]; rfl, rfl, HF7.out.mono (by omega), by rw [HTK.out, List.map_append, List.map_append, HQM.out]; rw [HRC.out.1, HRC.out.2]; rfl, HO7.out, (fun q hq => by rcases List.mem_append.1 hq with h | h; exact HQO7.out q h; obtain rfl := List.mem_singleton.1 h; exact HTQ7.out), HST7.out⟩
      case measure => simp [intOf]; omega
    · obtain rfl : k = nD := by omega
      have HBF := Lib.hid (HA1.out.frm HF1.out.fr HBL.out (List.forall_mem_cons.2 ⟨hbM, List.forall_mem_nil _⟩))
      have HOF : Hid (wx.ownsRow w.heap.size 30 2 (.slice va Q.length vc) Q.length (flQ Q)) := by rw [HQL.out]; exact own_mono HO2.out hs1
      have HQF : Hid (∀ q, q ∈ Q → TqO w.heap.size wx q) := fun q hq => ⟨own_mono (HQO.out q hq).1 hs1, own_mono (HQO.out q hq).2 hs1⟩
      have HQN : Hid (Q.map (fun q => q.2) = D.map (fun s => (tourL m s, plc s))) := by have h := HQM.out; rw [← HND.out, List.take_length] at h; exact h
      have HEV : Hid (Value.slice va k vc = Value.slice va Q.length vc) := by unfold Hid; rw [HQL.out]
      go_wp2_with fail
      exact bodyPost_ret (v := .tuple #[.slice va k vc, .int .i64 0]) (by simp [results, Try.results45, go_sem]) rfl ⟨HBF.out.fr, .inr ⟨HT0.out, va, vc, Q, by rw [HEV.out], HQN.out, HOF.out, HQF.out⟩⟩
end Go.Proofs.Ytpnkgjkoophckaa
