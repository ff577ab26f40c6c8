/- OutlineSymbols: what the law needs, and the law. -/
import Derived.Test.YtmhmmffhmdbclaaPureD
import Derived.Test.YtmhmmffhmdbclaaLawS
namespace Go.Proofs.Ytmhmmffhmdbclaa.PO
open Go.RowKit Go.Proofs.YtmhmmffhmdbclaaW.PrintWords Go.Proofs.YtmhmmffhmdbclaaW.PrintLast Go.Proofs.YtmhmmffhmdbclaaW.PrintMore H Pl
set_option linter.unusedVariables false
set_option linter.unusedSimpArgs false
/-! ### Beyond ends -/
theorem beyond_j2 (l : List S50) (hN : l.length ≤ 1048576) (i : Nat) (hi : i < l.length) (IH : ∀ S : List Int, S.length ≤ 65536 → ∃ b, Ev (fun k => trellisref15_Beyond.l0 k l S ((i + 1 : Nat) : Int)) b) (S : List Int) (hS : S.length ≤ 65536) :
    ∃ b, Ev (fun k => trellisref15_Beyond.j2 k l S (i : Int)) b := by
  have key : ∀ S' : List Int, S'.length = S.length → (∀ k, trellisref15_Beyond.j2 (k + 1) l S (i : Int) = if ((S' ++ [(rd_T50 l (i : Int)).f5]).length : Int) > 65536 then some true else trellisref15_Beyond.l0 k l (S' ++ [(rd_T50 l (i : Int)).f5]) ((i + 1 : Nat) : Int)) → ∃ b, Ev (fun k => trellisref15_Beyond.j2 k l S (i : Int)) b := by
    intro S' hl hs
    by_cases hb : ((S' ++ [(rd_T50 l (i : Int)).f5]).length : Int) > 65536
    · exact ⟨true, Ev.step ((Ev.pure _).congr fun k => by rw [hs, if_pos hb])⟩
    · obtain ⟨b, h⟩ := IH (S' ++ [(rd_T50 l (i : Int)).f5]) (by omega)
      exact ⟨b, Ev.step (h.congr fun k => by rw [hs, if_neg hb])⟩
  by_cases h0 : (S.length : Int) > 0
  · refine key (S.set (wrap64 ((S.length : Int) - 1)).toNat (wrap64 (rd S (wrap64 ((S.length : Int) - 1)) - 1))) (by simp) fun k => ?_
    simp only [trellisref15_Beyond.j2]
    rw [if_pos h0]
    have hw : wrap64 ((S.length : Int) - 1) = (S.length : Int) - 1 := w64 (by omega)
    rw [if_pos (by omega), if_pos (by omega), Option.bind_some, if_pos (by omega), if_pos (by omega), if_pos (by rw [List.length_set]; omega), Option.bind_some, w64 (x := (i : Int) + 1) (by omega)]
    rfl
  · refine key S rfl fun k => ?_
    simp only [trellisref15_Beyond.j2]
    rw [if_neg h0, if_pos (by omega), if_pos (by omega), if_pos (by omega), Option.bind_some, w64 (x := (i : Int) + 1) (by omega)]
    rfl
theorem beyond_l1 (l : List S50) (i : Nat) (IH : ∀ S : List Int, S.length ≤ 65536 → ∃ b, Ev (fun k => trellisref15_Beyond.j2 k l S (i : Int)) b) : ∀ (n : Nat) (S : List Int), S.length = n → S.length ≤ 65536 → ∃ b, Ev (fun k => trellisref15_Beyond.l1 k l S (i : Int)) b
  | 0, S, hn, hS => by
    obtain ⟨b, h⟩ := IH S hS
    refine ⟨b, Ev.step (h.congr fun k => ?_)⟩
    simp only [trellisref15_Beyond.l1]
    rw [if_neg (by omega)]
  | n + 1, S, hn, hS => by
    have hw : wrap64 ((S.length : Int) - 1) = (S.length : Int) - 1 := w64 (by omega)
    have hs : ∀ k, trellisref15_Beyond.l1 (k + 1) l S (i : Int) = if rd S ((S.length : Int) - 1) ≤ 0 then trellisref15_Beyond.l1 k l (S.take ((S.length : Int) - 1).toNat) (i : Int) else trellisref15_Beyond.j2 k l S (i : Int) := by
      intro k
      simp only [trellisref15_Beyond.l1]
      rw [if_pos (by omega), hw, if_pos (by omega), if_pos (by omega), if_pos (show (S.length : Int) - 1 ≤ (S.length : Int) by omega)]
    by_cases hx : rd S ((S.length : Int) - 1) ≤ 0
    · obtain ⟨b, h⟩ := beyond_l1 l i IH n (S.take ((S.length : Int) - 1).toNat) (by rw [List.length_take]; omega) (by rw [List.length_take]; omega)
      exact ⟨b, Ev.step (h.congr fun k => by rw [hs, if_pos hx])⟩
    · obtain ⟨b, h⟩ := IH S hS
      exact ⟨b, Ev.step (h.congr fun k => by rw [hs, if_neg hx])⟩
theorem beyond_l0 (l : List S50) (hN : l.length ≤ 1048576) : ∀ (d i : Nat), i + d = l.length → ∀ S : List Int, S.length ≤ 65536 → ∃ b, Ev (fun k => trellisref15_Beyond.l0 k l S (i : Int)) b
  | 0, i, h, S, hS => ⟨false, Ev.step ((Ev.pure _).congr fun k => by
      simp only [trellisref15_Beyond.l0]
      rw [if_neg (by omega)])⟩
  | d + 1, i, h, S, hS => by
    obtain ⟨b, hb⟩ := beyond_l1 l i (fun S hS => beyond_j2 l hN i (by omega) (fun S hS => beyond_l0 l hN d (i + 1) (by omega) S hS) S hS) _ S rfl hS
    refine ⟨b, Ev.step (hb.congr fun k => ?_)⟩
    simp only [trellisref15_Beyond.l0]
    rw [if_pos (by omega)]
theorem Beyond_ev (l : List S50) (hN : l.length ≤ 1048576) : ∃ b, Ev (fun k => trellisref15_Beyond.f k l) b := by
  simpa [trellisref15_Beyond.f] using beyond_l0 l hN l.length 0 (by omega) [] (by simp)

/-! ### a list is the same as itself -/
theorem sameSymbols_l0 (r : List S83) (hr : r.length ≤ 1048576) : ∀ (d i : Nat), i + d = r.length → Ev (fun k => trellislaw22_sameSymbols.l0 k r r (i : Int)) true
  | 0, i, h => Ev.step ((Ev.pure _).congr fun k => by
      simp only [trellislaw22_sameSymbols.l0]
      rw [if_neg (by omega)])
  | d + 1, i, h => Ev.step ((sameSymbols_l0 r hr d (i + 1) (by omega)).congr fun k => by
      simp only [trellislaw22_sameSymbols.l0]
      rw [if_pos (by omega), if_pos (by omega), w64 (by omega)]
      simp
      intro; omega)
theorem sameSymbols_ev (r : List S83) (hr : r.length ≤ 1048576) : Ev (fun k => trellislaw22_sameSymbols.f k r r) true := by
  simpa [trellislaw22_sameSymbols.f] using sameSymbols_l0 r hr r.length 0 (by omega)
theorem sameNodes_l0 (r : List S50) (hr : r.length ≤ 1048576) : ∀ (d i : Nat), i + d = r.length → Ev (fun k => trellislaw22_sameNodes.l0 k r r (i : Int)) true
  | 0, i, h => Ev.step ((Ev.pure _).congr fun k => by
      simp only [trellislaw22_sameNodes.l0]
      rw [if_neg (by omega)])
  | d + 1, i, h => Ev.step ((sameNodes_l0 r hr d (i + 1) (by omega)).congr fun k => by
      simp only [trellislaw22_sameNodes.l0]
      rw [if_pos (by omega), if_pos (by omega), w64 (by omega)]
      simp
      intro; omega)
theorem sameNodes_ev (r : List S50) (hr : r.length ≤ 1048576) : Ev (fun k => trellislaw22_sameNodes.f k r r) true := by
  simpa [trellislaw22_sameNodes.f] using sameNodes_l0 r hr r.length 0 (by omega)
theorem roomy_eq (l : List S50) (hN : l.length ≤ 1048576) : trellislaw22_roomy.f l = some (l ++ [zm, zm]) := by
  unfold trellislaw22_roomy.f
  rw [if_pos (by simp; omega), Option.bind_some, Option.bind_some, if_pos (by simp; omega)]
  rfl
theorem lang_eq (lf : List ByteArray) (lm : List S128) (hf : lf.length ≤ 1048576) (hm : lm.length ≤ 1048576) : trellislaw22_lang.f lf lm = some (⟨#[]⟩, (), (), (), (), (), (), (), (), lf, lm, ()) := by
  unfold trellislaw22_lang.f
  rw [Option.bind_some, if_pos (by simp; omega), Option.bind_some, if_pos (by simp; omega)]
  rfl
theorem renTo_ok (l : List S50) (i : Nat) (h : okN l = true) : okN (renTo l i) = true := by
  have h1 := okN_len h
  have h2 := okN_kids h
  unfold okN
  rw [Bool.and_eq_true]
  refine ⟨decide_eq_true (by simpa [renTo] using h1), List.all_eq_true.2 fun x hx => decide_eq_true ?_⟩
  obtain ⟨j, hj, rfl⟩ := List.getElem_of_mem hx
  simp only [renTo, List.getElem_mapIdx]
  have hj' : j < l.length := by simpa [renTo] using hj
  split <;> exact h2 l[j] (List.getElem_mem hj')
theorem SymsOk_of (lf : List ByteArray) (lm : List S128) (l : List S50) (text : ByteArray) (hN : l.length ≤ 1048576) (hf : lf.length ≤ 1048576) (hM : lm.length ≤ 1048576) (hok : okN l = true) (hb : Ev (fun k => trellisref15_Beyond.f k l) false) :
    ∃ k r1 r2, SymsOk k lf lm l (renTo l l.length) text r1 r2 := by
  obtain ⟨r1, h1, ⟨k1, e1⟩, ⟨k2, e2⟩⟩ := Symbols_same ⟨#[]⟩ lf lm l text hN hM hok
  obtain ⟨r2, h2, ⟨k3, e3⟩, ⟨k4, e4⟩⟩ := Symbols_same ⟨#[]⟩ lf lm (renTo l l.length) text (by simpa [renTo] using hN) hM (renTo_ok l _ hok)
  obtain ⟨k5, e5⟩ := hb
  obtain ⟨k6, e6⟩ := sameSymbols_ev r1 (by omega)
  obtain ⟨k7, e7⟩ := sameSymbols_ev r2 (by simp [renTo] at h2; omega)
  obtain ⟨k8, e8⟩ := sameNodes_ev l hN
  exact ⟨k1 + k2 + k3 + k4 + k5 + k6 + k7 + k8, r1, r2, e5 _ (by omega), roomy_eq l hN, lang_eq lf lm hf hM, e1 _ (by omega), e2 _ (by omega), e6 _ (by omega), e8 _ (by omega), e3 _ (by omega), e4 _ (by omega), e7 _ (by omega)⟩
set_option maxHeartbeats 400000 in
set_option maxRecDepth 100000 in
theorem OutlineSymbols_beyond (k : Nat) (Af Am A : Option Addr) (nf cf nm' cm c : Nat) (l : List S50) (text : ByteArray) (w : World) (hr : Kd.C k50 w A l.length l) (hc : l.length ≤ c) (h : trellisref15_Beyond.f k l = some true) :
    Calls Try.prog 3 #[.agg #[.slice Af nf cf, .slice Am nm' cm], .slice A l.length c, .string text] w fun e w' => e = .returned (.bool true) ∧ Below w.heap.size w w' := by
  have hu25 := Try.underlying25
  have HR := Aside0.mk (And.intro hr hc)
  have H := Aside0.mk h
  clear hr hc h
  go_enter Try.func3, Try.ntmps3
  go_upto_region 1 with (fail)
  refine alloc_letter ?_
  intro w0 hb0 hblk0 _
  have H0 := Aside0.mk hb0
  clear hb0 hblk0
  go_wp2_with fail
  refine (trellisref15_Beyond.calls k A c l true w0 (Kd.C_below HR.out.1 H0.out) HR.out.2 H.out).mono ?_
  rintro e w1 ⟨rfl, hb1⟩
  have H1 := Aside0.mk (below_step H0.out hb1)
  clear hb1
  go_wp2_with fail
  go_ret
  exact ⟨rfl, H1.out⟩
/-- THE LAW: true. -/
theorem OutlineSymbols_true (lf : List ByteArray) (lm : List S128) (l : List S50) (text : ByteArray) (Af Am A : Option Addr) (cf cm c : Nat) (w : World) (hN : l.length ≤ 1048576) (hfl : lf.length ≤ 1048576) (hM : lm.length ≤ 1048576) (hok : okN l = true)
    (hf : Kd.C Kd.string w Af lf.length lf) (hcf : lf.length ≤ cf) (hm : Kd.C k128 w Am lm.length lm) (hcm : lm.length ≤ cm) (hr : Kd.C k50 w A l.length l) (hc : l.length ≤ c) :
    Calls Try.prog 3 #[.agg #[.slice Af lf.length cf, .slice Am lm.length cm], .slice A l.length c, .string text] w fun e w' => e = .returned (.bool true) ∧ Below w.heap.size w w' := by
  obtain ⟨b, hb⟩ := Beyond_ev l hN
  cases b with
  | true =>
    obtain ⟨k, hk⟩ := hb
    exact OutlineSymbols_beyond k Af Am A _ cf _ cm c l text w hr hc (hk k (Nat.le_refl _))
  | false =>
    obtain ⟨k, r1, r2, h⟩ := SymsOk_of lf lm l text hN hfl hM hok hb
    exact OutlineSymbols_calls k lf lm l text r1 r2 Af Am A cf cm c w hf hcf hm hcm hr hc h
end Go.Proofs.Ytmhmmffhmdbclaa.PO
