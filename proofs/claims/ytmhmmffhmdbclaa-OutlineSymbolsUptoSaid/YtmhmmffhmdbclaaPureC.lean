/- Plain: outline.Symbols against the document's Symbols. -/
import Derived.Test.YtmhmmffhmdbclaaPureB
import Derived.Test.YtmhmmffhmdbclaaPOx4
import Derived.Test.YtmhmmffhmdbclaaPOx5
import Derived.Test.YtmhmmffhmdbclaaPOx9
namespace Go.Proofs.Ytmhmmffhmdbclaa.PO
open Go.RowKit Go.Proofs.YtmhmmffhmdbclaaW.PrintWords Go.Proofs.YtmhmmffhmdbclaaW.PrintLast Go.Proofs.YtmhmmffhmdbclaaW.PrintMore H Pl
set_option linter.unusedVariables false
set_option linter.unusedSimpArgs false
theorem rd50_at {l : List S50} {i : Nat} (h : i < l.length) : rd_T50 l (i : Int) = l[i] := by simp [rd_T50, List.getD_eq_getElem?_getD, List.getElem?_eq_getElem h]

/-! ### right -/
def inText (text : ByteArray) (x : S50) : Bool := decide (0 ≤ x.f3) && decide (x.f3 ≤ x.f4) && decide (x.f4 ≤ (text.size : Int))
theorem right_l0 (l : List S50) (text : ByteArray) (hN : l.length ≤ 1048576) (ho : okN l = true) : ∀ (d i : Nat), i + d = l.length →
    Ev (fun k => outline_right.l0 k l text l (l.length : Int) (i : Int)) ((l.drop i).all (inText text) && decide (countK l ≥ 0))
  | 0, i, h => by
    refine Ev.step ((Ev.pure _).congr fun k => ?_)
    simp only [outline_right.l0, tree_Roots.f]
    rw [if_neg (by omega), if_pos ho, List.drop_of_length_le (by omega)]
    simp
  | d + 1, i, h => by
    have hi : i < l.length := by omega
    have hs : ∀ k, outline_right.l0 (k + 1) l text l (l.length : Int) (i : Int) = if inText text l[i] = true then outline_right.l0 k l text l (l.length : Int) ((i + 1 : Nat) : Int) else some false := by
      intro k
      simp only [outline_right.l0]
      rw [if_pos (by omega), if_pos (by omega), if_pos (by omega), rd50_at hi, w64 (by omega)]
      unfold inText
      by_cases h1 : l[i].f3 < 0
      · simp [h1]
        intro h2; omega
      · by_cases h2 : l[i].f4 < l[i].f3
        · simp [h1, h2]
          intro h3 h4; omega
        · by_cases h3 : l[i].f4 > (text.size : Int)
          · simp [h1, h2, h3]
            intro h4 h5; omega
          · have e1 : 0 ≤ l[i].f3 := by omega
            have e2 : l[i].f3 ≤ l[i].f4 := by omega
            have e3 : l[i].f4 ≤ (text.size : Int) := by omega
            simp [h1, h2, h3, e1, e2, e3]
    rw [List.drop_eq_getElem_cons hi, List.all_cons]
    cases hx : inText text l[i] with
    | true =>
      refine Ev.step ((right_l0 l text hN ho d (i + 1) (by omega)).congr fun k => ?_)
      rw [hs, hx]
      simp
    | false =>
      refine Ev.step ((Ev.pure _).congr fun k => ?_)
      rw [hs, hx]
      simp
def roots15 (l : List S50) (r : List S142 × Bool) : Int := if r.2 = true then (r.1.length : Int) else -1
theorem right22_l0 (l : List S50) (text : ByteArray) (hN : l.length ≤ 1048576) (r : List S142 × Bool) (hF : Ev (fun k => trellisref15_Forest.f k l) r) : ∀ (d i : Nat), i + d = l.length →
    Ev (fun k => trellisref22_right.l0 k l text (i : Int)) ((l.drop i).all (inText text) && decide (roots15 l r ≥ 0))
  | 0, i, h => by
    refine Ev.step (Ev.congr (g' := fun k => (trellisref15_Forest.f k l).bind fun b => some (decide (roots15 l b ≥ 0))) (Ev.bind hF ((Ev.pure _).congr fun k => ?_)) fun k => ?_)
    · rw [List.drop_of_length_le (by omega)]
      simp
    · simp only [trellisref22_right.l0, trellisref15_Roots.f]
      rw [if_neg (by omega)]
      cases trellisref15_Forest.f k l with
      | none => rfl
      | some b =>
        simp only [Option.bind_some, roots15]
        split <;> rfl
  | d + 1, i, h => by
    have hi : i < l.length := by omega
    have hs : ∀ k, trellisref22_right.l0 (k + 1) l text (i : Int) = if inText text l[i] = true then trellisref22_right.l0 k l text ((i + 1 : Nat) : Int) else some false := by
      intro k
      simp only [trellisref22_right.l0]
      rw [if_pos (by omega), if_pos (by omega), rd50_at hi, w64 (by omega)]
      unfold inText
      by_cases h1 : l[i].f3 < 0
      · simp [h1]
        intro h2; omega
      · by_cases h2 : l[i].f4 < l[i].f3
        · simp [h1, h2]
          intro h3 h4; omega
        · by_cases h3 : l[i].f4 > (text.size : Int)
          · simp [h1, h2, h3]
            intro h4 h5; omega
          · have e1 : 0 ≤ l[i].f3 := by omega
            have e2 : l[i].f3 ≤ l[i].f4 := by omega
            have e3 : l[i].f4 ≤ (text.size : Int) := by omega
            simp [h1, h2, h3, e1, e2, e3]
    rw [List.drop_eq_getElem_cons hi, List.all_cons]
    cases hx : inText text l[i] with
    | true =>
      refine Ev.step ((right22_l0 l text hN r hF d (i + 1) (by omega)).congr fun k => ?_)
      rw [hs, hx]
      simp
    | false =>
      refine Ev.step ((Ev.pure _).congr fun k => ?_)
      rw [hs, hx]
      simp
theorem countK_none {l : List S50} (h : ∀ L, ¬ Ts l 0 l.length L) : countK l = -1 := by
  unfold countK
  rw [if_neg]
  intro hp
  obtain ⟨L, hL⟩ := plantK_conv hp
  exact h L hL
theorem countK_some {l : List S50} {L : List S142} (h : Ts l 0 l.length L) : 0 ≤ countK l := by
  unfold countK
  rw [if_pos (plantK_of h).1]
  omega

/-! ### called -/
def callK (ms : List S128) (l : List S50) (a : Int) : Option Int :=
  if (rd_T50 l a).f1 = true then
    match ms.find? fun m => m.f0.toList == (rd_T50 l a).f0.toList with
    | some m => (kidsK l a).find? fun j => (rd_T50 l j).f2.toList == m.f1.toList
    | none => none
  else none
theorem symK_callK (ms : List S128) (l : List S50) (a : Int) : symK ms l a = (callK ms l a).map (rd_T50 l) := by
  unfold symK callK childK
  split
  · cases ms.find? (fun m => m.f0.toList == (rd_T50 l a).f0.toList) <;> rfl
  · rfl
theorem callK_range {ms : List S128} {l : List S50} {a j : Int} (h : callK ms l a = some j) : 0 ≤ j ∧ j < l.length := by
  unfold callK at h
  split at h
  · split at h
    · exact kidsK_range l a j (List.mem_of_find?_eq_some h)
    · cases h
  · cases h
section
variable (nm : ByteArray) (lf : List ByteArray) (lm : List S128)
def cl0 (l : List S50) (a i : Int) (k : Nat) : Option Int := trellisref22_called.l0 k l a i nm () () () () () () () () lf lm ()
def cl1 (l : List S50) (i : Int) (K : List Int) (t : Int) (k : Nat) : Option Int := trellisref22_called.l1 k l i K t nm () () () () () () () () lf lm ()
def called (l : List S50) (a : Int) (k : Nat) : Option Int := trellisref22_called.f k nm () () () () () () () () lf lm () l a
theorem cl1_ev (l : List S50) (i : Nat) (hi : i < lm.length) (K : List Int) (hK : ∀ j ∈ K, 0 ≤ j ∧ j < l.length) (hL : K.length ≤ 1048576) : ∀ (d t : Nat), t + d = K.length →
    Ev (cl1 nm lf lm l i K t) (((K.drop t).find? fun j => (rd_T50 l j).f2.toList == (rd_T128 lm (i : Int)).f1.toList).getD (-1))
  | 0, t, h => by
    refine Ev.step ((Ev.pure _).congr fun k => ?_)
    simp only [cl1, trellisref22_called.l1]
    rw [if_neg (by omega), List.drop_of_length_le (by omega)]
    rfl
  | d + 1, t, h => by
    have ht : t < K.length := by omega
    have hrd : rd K (t : Int) = K[t] := by simp [rd, List.getD_eq_getElem?_getD, List.getElem?_eq_getElem ht]
    have hj := hK K[t] (List.getElem_mem ht)
    have hs : ∀ k, cl1 nm lf lm l i K t (k + 1) = if (rd_T50 l K[t]).f2.toList = (rd_T128 lm (i : Int)).f1.toList then some K[t] else cl1 nm lf lm l i K ((t + 1 : Nat) : Int) k := by
      intro k
      simp only [cl1, trellisref22_called.l1]
      rw [if_pos (by omega), if_pos (by omega), hrd, if_pos hj.1, if_pos hj.2, if_pos (by omega), if_pos (by omega), w64 (by omega)]
      rfl
    rw [List.drop_eq_getElem_cons ht, List.find?_cons]
    by_cases hx : (rd_T50 l K[t]).f2.toList = (rd_T128 lm (i : Int)).f1.toList
    case neg =>
      rw [show ((rd_T50 l K[t]).f2.toList == (rd_T128 lm (i : Int)).f1.toList) = false by simpa using hx]
      refine Ev.step ((cl1_ev l i hi K hK hL d (t + 1) (by omega)).congr fun k => ?_)
      rw [hs, if_neg hx]
    · refine Ev.step ((Ev.pure _).congr fun k => ?_)
      rw [hs, if_pos hx]
      simp [hx]
theorem cl0_ev (l : List S50) (a : Nat) (ha : a < l.length) (hM : lm.length ≤ 1048576) (hN : l.length ≤ 1048576) (hk : Ev (fun k => trellisref15_Kids.f k l (a : Int)) (kidsK l (a : Int))) (hL : (kidsK l (a : Int)).length ≤ 1048576) : ∀ (d i : Nat), i + d = lm.length →
    Ev (cl0 nm lf lm l a i) ((match (lm.drop i).find? fun m => m.f0.toList == (rd_T50 l (a : Int)).f0.toList with | some m => (kidsK l (a : Int)).find? fun j => (rd_T50 l j).f2.toList == m.f1.toList | none => none : Option Int).getD (-1))
  | 0, i, h => by
    refine Ev.step ((Ev.pure _).congr fun k => ?_)
    simp only [cl0, trellisref22_called.l0]
    rw [if_neg (by omega), List.drop_of_length_le (by omega)]
    rfl
  | d + 1, i, h => by
    have hi : i < lm.length := by omega
    have hrd : rd_T128 lm (i : Int) = lm[i] := by simp [rd_T128, List.getD_eq_getElem?_getD, List.getElem?_eq_getElem hi]
    have hs : ∀ k, cl0 nm lf lm l a i (k + 1) = if lm[i].f0.toList = (rd_T50 l (a : Int)).f0.toList then (trellisref15_Kids.f k l (a : Int)).bind fun t => cl1 nm lf lm l i t ((0 : Nat) : Int) k else cl0 nm lf lm l a ((i + 1 : Nat) : Int) k := by
      intro k
      simp only [cl0, trellisref22_called.l0]
      rw [if_pos (by omega), if_pos (by omega), if_pos (by omega), if_pos (by omega), hrd, w64 (by omega)]
      rfl
    rw [List.drop_eq_getElem_cons hi, List.find?_cons]
    by_cases hx : lm[i].f0.toList = (rd_T50 l (a : Int)).f0.toList
    case neg =>
      rw [show (lm[i].f0.toList == (rd_T50 l (a : Int)).f0.toList) = false by simpa using hx]
      refine Ev.step ((cl0_ev l a ha hM hN hk hL d (i + 1) (by omega)).congr fun k => ?_)
      rw [hs, if_neg hx]
    · have := cl1_ev nm lf lm l i hi (kidsK l (a : Int)) (kidsK_range l (a : Int)) hL (kidsK l (a : Int)).length 0 (by omega)
      refine Ev.step (Ev.congr (g' := fun k => (trellisref15_Kids.f k l (a : Int)).bind fun t => cl1 nm lf lm l i t ((0 : Nat) : Int) k) (Ev.bind hk ?_) fun k => ?_)
      · simpa [hx, hrd] using this
      · rw [hs, if_pos hx]
theorem called_ev (l : List S50) (hM : lm.length ≤ 1048576) (hN : l.length ≤ 1048576) {L : List S142} (hL : Ts l 0 l.length L) (hF : Ev (fun k => trellisref15_Forest.f k l) (L, true)) (a : Nat) (ha : a < l.length) :
    Ev (called nm lf lm l a) ((callK lm l a).getD (-1)) := by
  obtain ⟨b', T', q, h1, h2⟩ := hL.find_some (by omega) a (by omega) ha (-1)
  have hb := h2.lt
  have hKl : (kidsK l (a : Int)).length ≤ 1048576 := by
    rw [h2.kidsK hL]
    cases h2 with
    | node g1 g2 g3 =>
      have := g2.le (by omega)
      simp
      omega
  have hk : Ev (fun k => trellisref15_Kids.f k l (a : Int)) (kidsK l (a : Int)) := by
    refine Ev.bind hF ((Ev.pure _).congr fun k => ?_)
    have e : oneT (findT (a : Int) L (-1)) = T' := by rw [h1]; rfl
    have e2 := h2.kidsK hL
    simp only [e]
    rw [e2] at hKl
    rw [if_pos (Nat.lt_of_le_of_lt (by simpa using hKl : T'.f1.length ≤ 1048576) (by omega)), e2]
  have hs : ∀ k, called nm lf lm l a k = if (rd_T50 l (a : Int)).f1 = true then cl0 nm lf lm l a ((0 : Nat) : Int) k else some (-1) := by
    intro k
    simp only [called, trellisref22_called.f]
    rw [if_pos (by omega), if_pos (by omega)]
    rfl
  unfold callK
  split
  · rename_i hn
    refine (cl0_ev nm lf lm l a ha hM hN hk hKl lm.length 0 (by omega)).congr fun k => ?_
    rw [hs, if_pos hn]
  · rename_i hn
    refine (Ev.pure _).congr fun k => ?_
    rw [hs, if_neg hn]
    rfl
end
end Go.Proofs.Ytmhmmffhmdbclaa.PO
