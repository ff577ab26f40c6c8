/- A row of nodes of one's own: a store into one field of one node. -/
import Derived.Test.YtmhmmffhmdbclaaPOx0
namespace Go.Proofs.Ytmhmmffhmdbclaa.PO
open Go.RowKit Go.Proofs.YtmhmmffhmdbclaaW.PrintWords Go.Proofs.YtmhmmffhmdbclaaW.PrintLast Go.Proofs.YtmhmmffhmdbclaaW.PrintMore
set_option linter.unusedVariables false
def cells50 (x : S50) : List Value := [.string x.f0, .bool x.f1, .string x.f2, .int .i64 x.f3, .int .i64 x.f4, .int .i64 x.f5, .int .i64 x.f6]
theorem own50_set {W : World} {base g n cap : Nat} {ok : Nat → Prop} {xs : List S50} (h : k50.R 50 W base ok (.slice (some ⟨g, 0, none⟩) n cap) xs) (i j : Nat) (hi : i < xs.length) (hj : j < 7) (u : Value) (x' : S50)
    (hx : cells50 x' = (cells50 xs[i]).set j u) :
    k50.R 50 (W.setCell ⟨g, i * 7 + j, none⟩ u) base ok (.slice (some ⟨g, 0, none⟩) n cap) (xs.set i x') ∧ W.grownBy (W.setCell ⟨g, i * 7 + j, none⟩ u) (some g) := by
  obtain ⟨h0, inner, ho, hlen, hr⟩ := h
  have hn : xs.length = n := by
    obtain ⟨A, c, he⟩ := own_slice ho
    injection he with _ e _
    exact e.symm
  have hs := (hn ▸ ho : W.ownsRow base 50 7 (.slice (some ⟨g, 0, none⟩) n cap) n inner).stored (i * 7 + j) u
  refine ⟨⟨h0, inner.set (i * 7 + j) u, by rw [List.length_set, hn]; exact hs.1, by simpa using hlen, ?_⟩, hs.2⟩
  intro p y hp
  rcases Nat.decEq p i with hpi | rfl
  · have hp' : xs[p]? = some y := by rwa [List.getElem?_set_ne (Ne.symm hpi)] at hp
    have := hr p y hp'
    have e : ((inner.set (i * 7 + j) u).drop (p * 7)).take 7 = (inner.drop (p * 7)).take 7 := by
      apply List.ext_getElem?
      intro t
      simp only [List.getElem?_take, List.getElem?_drop]
      split
      · rw [List.getElem?_set_ne (by omega)]
      · rfl
    show k50.M _ _ _ _ (((inner.set (i * 7 + j) u).drop (p * 7)).take 7)
    rw [e]
    obtain hk := k50_openM this
    rw [show ((inner.drop (p * 7)).take 7) = _ from hk]
    exact k50_mkM _ _ _ _
  · have hy : x' = y := by
      have hq := hp
      rw [List.getElem?_set_self hi] at hq
      exact Option.some.inj hq
    subst hy
    have := hr p xs[p] (List.getElem?_eq_getElem hi)
    have hk : (inner.drop (p * 7)).take 7 = cells50 xs[p] := k50_openM this
    have e : ((inner.set (p * 7 + j) u).drop (p * 7)).take 7 = ((inner.drop (p * 7)).take 7).set j u := by
      have hL : inner.length = xs.length * 7 := hlen
      have hb : p * 7 + 7 ≤ inner.length := by omega
      apply List.ext_getElem?
      intro t
      by_cases ht : t < 7
      · by_cases hjt : j = t
        · subst hjt
          rw [List.getElem?_take_of_lt ht, List.getElem?_drop, List.getElem?_set_self (by omega), List.getElem?_set_self (by rw [List.length_take, List.length_drop]; omega)]
        · rw [List.getElem?_take_of_lt ht, List.getElem?_drop, List.getElem?_set_ne (by omega), List.getElem?_set_ne hjt, List.getElem?_take_of_lt ht, List.getElem?_drop]
      · rw [List.getElem?_eq_none (by rw [List.length_take]; omega), List.getElem?_eq_none (by rw [List.length_set, List.length_take]; omega)]
    show k50.M _ _ _ _ (((inner.set (p * 7 + j) u).drop (p * 7)).take 7)
    rw [e, hk, ← hx]
    exact k50_mkM _ _ _ _
end Go.Proofs.Ytmhmmffhmdbclaa.PO
