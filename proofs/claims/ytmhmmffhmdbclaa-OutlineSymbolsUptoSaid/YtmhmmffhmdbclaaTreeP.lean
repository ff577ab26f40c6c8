/- Plain: what is known of the forest 'plantS': lengths, where subtrees end; the nodes beside one another. -/
import Derived.Test.YtmhmmffhmdbclaaTreeA
namespace Go.Proofs.Ytmhmmffhmdbclaa.Pl

theorem closeS_len (i : Int) : ∀ (st : List (Int × Int)) (e : List Int), (closeS i st e).2.length = e.length
  | [], e => rfl
  | (o, n) :: st, e => by
    unfold closeS
    split
    · rw [closeS_len i st]; simp
    · rfl
theorem plantS_len : ∀ (xs : List Int) (i : Int) (st : List (Int × Int)) (p e : List Int), (plantS xs i st p e).1.length = p.length ∧ (plantS xs i st p e).2.1.length = e.length
  | [], i, st, p, e => ⟨rfl, rfl⟩
  | x :: xs, i, st, p, e => by
    unfold plantS
    split
    · simp
    · have := plantS_len xs (i + 1) (closeS i ((i, x) :: less st) e).1 (p.set i.toNat (topOf st)) (closeS i ((i, x) :: less st) e).2
      rw [closeS_len] at this
      simpa using this

/-- Each of the first i nodes is open, or its subtree's end is known. -/
def Known (i : Int) (st : List (Int × Int)) (e : List Int) : Prop :=
  (∀ p ∈ st, 0 ≤ p.1 ∧ p.1 < i ∧ p.1 < e.length) ∧ ∀ j : Nat, (j : Int) < i → (∃ p ∈ st, p.1 = j) ∨ ((j : Int) < e.getD j 0 ∧ e.getD j 0 ≤ i)
theorem getD_set (e : List Int) (a j : Nat) (v : Int) (h : a < e.length) : (e.set a v).getD j 0 = if a = j then v else e.getD j 0 := by
  simp only [List.getD_eq_getElem?_getD, List.getElem?_set]
  split
  · rename_i h1; subst h1; simp_all
  · rfl
theorem closeS_known (i : Int) : ∀ (st : List (Int × Int)) (e : List Int), Known (i + 1) st e → Known (i + 1) (closeS i st e).1 (closeS i st e).2
  | [], e, h => h
  | (o, n) :: st, e, h => by
    unfold closeS
    split
    · refine closeS_known i st _ ⟨fun p hp => ?_, fun j hj => ?_⟩
      · have := h.1 p (by simp [hp])
        simpa using this
      · have ho := h.1 (o, n) (by simp)
        simp only at ho
        rw [getD_set _ _ _ _ (by omega)]
        split
        · exact .inr (by omega)
        · rename_i hne
          rcases h.2 j hj with ⟨p, hp, hpj⟩ | h2
          · rcases List.mem_cons.1 hp with rfl | hp
            · simp only at hpj
              exact absurd (by omega) hne
            · exact .inl ⟨p, hp, hpj⟩
          · exact .inr h2
    · exact h
theorem less_fst {st : List (Int × Int)} {p : Int × Int} (h : p ∈ less st) : ∃ q ∈ st, q.1 = p.1 := by
  cases st with
  | nil => simp [less] at h
  | cons y r =>
    obtain ⟨o, n⟩ := y
    simp only [less, List.mem_cons] at h
    rcases h with rfl | h
    · exact ⟨(o, n), by simp, rfl⟩
    · exact ⟨p, by simp [h], rfl⟩
theorem fst_less {st : List (Int × Int)} {p : Int × Int} (h : p ∈ st) : ∃ q ∈ less st, q.1 = p.1 := by
  cases st with
  | nil => simp at h
  | cons y r =>
    obtain ⟨o, n⟩ := y
    simp only [List.mem_cons] at h
    rcases h with rfl | h
    · exact ⟨(o, n - 1), by simp [less], rfl⟩
    · exact ⟨p, by simp [less, h], rfl⟩
theorem plantS_known : ∀ (xs : List Int) (i : Nat) (st : List (Int × Int)) (p e : List Int), Known i st e → i + xs.length ≤ e.length → (plantS xs i st p e).2.2 = true →
    ∀ j : Nat, j < i + xs.length → (j : Int) < (plantS xs i st p e).2.1.getD j 0 ∧ (plantS xs i st p e).2.1.getD j 0 ≤ ((i + xs.length : Nat) : Int)
  | [], i, st, p, e, h, hl, hok, j, hj => by
    simp only [plantS] at hok ⊢
    have : st = [] := by simpa using hok
    subst this
    simp only [List.length_nil, Nat.add_zero] at hj ⊢
    rcases h.2 j (by omega) with ⟨p, hp, _⟩ | h2
    · simp at hp
    · exact h2
  | x :: xs, i, st, p, e, h, hl, hok, j, hj => by
    by_cases hx : x < 0
    · rw [plantS, if_pos hx] at hok
      simp at hok
    · rw [plantS_pos (by omega)] at hok ⊢
      simp only [List.length_cons] at hl hj
      have hk : Known ((i : Int) + 1) (((i : Int), x) :: less st) e := by
        refine ⟨fun q hq => ?_, fun k hk => ?_⟩
        · rcases List.mem_cons.1 hq with rfl | hq
          · simp only; omega
          · obtain ⟨r, hr, hrq⟩ := less_fst hq
            have := h.1 r hr
            omega
        · by_cases hki : k = i
          · subst hki
            exact .inl ⟨_, List.mem_cons_self .., rfl⟩
          · rcases h.2 k (by omega) with ⟨q, hq, hqk⟩ | h2
            · obtain ⟨r, hr, hrq⟩ := fst_less hq
              exact .inl ⟨r, by simp [hr], by omega⟩
            · exact .inr (by omega)
      have := plantS_known xs (i + 1) _ (p.set (i : Int).toNat (topOf st)) _ (by simpa using closeS_known i _ _ hk) (by rw [closeS_len]; omega) (by simpa using hok) j (by omega)
      simp only [List.length_cons]
      rw [show i + (xs.length + 1) = i + 1 + xs.length by omega]
      simpa using this

/-- The nodes from a place on that stand beside one another, up to an end. -/
def sib (e : List Int) : Nat → Int → Int → List Int
  | 0, _, _ => []
  | k + 1, at_, end_ => if at_ < end_ then at_ :: sib e k (e.getD at_.toNat 0) end_ else []
/-- Each subtree ends behind its node. -/
def EndsB (e : List Int) : Prop := ∀ j : Nat, j < e.length → (j : Int) < e.getD j 0 ∧ e.getD j 0 ≤ e.length
theorem sib_enough (e : List Int) (h : EndsB e) (end_ : Int) (he : end_ ≤ e.length) : ∀ (k k' : Nat) (at_ : Int), 0 ≤ at_ → end_ - at_ ≤ k → end_ - at_ ≤ k' → sib e k at_ end_ = sib e k' at_ end_
  | 0, 0, _, _, _, _ => rfl
  | 0, k' + 1, at_, h0, h1, h2 => by simp only [sib]; rw [if_neg (by omega)]
  | k + 1, 0, at_, h0, h1, h2 => by simp only [sib]; rw [if_neg (by omega)]
  | k + 1, k' + 1, at_, h0, h1, h2 => by
    simp only [sib]
    split
    · have := h at_.toNat (by omega)
      rw [sib_enough e h end_ he k k' _ (by omega) (by omega) (by omega)]
    · rfl
end Go.Proofs.Ytmhmmffhmdbclaa.Pl
