/- Plain: a list of nodes as trees ('Tr', 'Ts'), and tree.plant's answer on it. -/
import Derived.Test.YtmhmmffhmdbclaaFindA
import Derived.Test.YtmhmmffhmdbclaaTreeF
namespace Go.Proofs.Ytmhmmffhmdbclaa.PO
open Go.RowKit Go.Proofs.YtmhmmffhmdbclaaW.PrintWords Go.Proofs.YtmhmmffhmdbclaaW.PrintLast Go.Proofs.YtmhmmffhmdbclaaW.PrintMore H Pl
set_option linter.unusedVariables false
set_option linter.unusedSimpArgs false
mutual
/-- The nodes from a place up to another are one subtree. -/
inductive Tr (l : List S50) : Nat → Nat → S142 → Prop
  | node {a b : Nat} {ks : List S142} : a < l.length → Ts l (a + 1) b ks → (ks.length : Int) = (rd_T50 l (a : Int)).f5 → Tr l a b ⟨rd_T50 l (a : Int), ks, (a : Int)⟩
/-- They are subtrees beside one another. -/
inductive Ts (l : List S50) : Nat → Nat → List S142 → Prop
  | nil {a : Nat} : Ts l a a []
  | cons {a m b : Nat} {T : S142} {ks : List S142} : Tr l a m T → Ts l m b ks → Ts l a b (T :: ks)
end
mutual
theorem Tr.lt {l : List S50} : ∀ {a b : Nat} {T : S142}, Tr l a b T → a < b ∧ b ≤ l.length ∧ T.f2 = (a : Int)
  | _, _, _, .node ha hs hn => by
    have := hs.le (by omega)
    exact ⟨by omega, by omega, rfl⟩
theorem Ts.le {l : List S50} : ∀ {a b : Nat} {ks : List S142}, Ts l a b ks → a ≤ l.length → a + ks.length ≤ b ∧ b ≤ l.length
  | _, _, _, .nil, h => by simp; omega
  | _, _, _, .cons ht hs, h => by
    have h1 := ht.lt
    have h2 := hs.le (by omega)
    simp
    omega
end
mutual
theorem Tr.det {l : List S50} : ∀ {a b b' : Nat} {T T' : S142}, Tr l a b T → Tr l a b' T' → b = b' ∧ T = T'
  | _, _, _, _, _, .node ha hs hn, .node ha' hs' hn' => by
    have := hs.det hs' (by omega)
    obtain ⟨rfl, rfl⟩ := this
    exact ⟨rfl, rfl⟩
theorem Ts.det {l : List S50} : ∀ {a b b' : Nat} {ks ks' : List S142}, Ts l a b ks → Ts l a b' ks' → ks.length = ks'.length → b = b' ∧ ks = ks'
  | _, _, _, _, _, .nil, .nil, h => ⟨rfl, rfl⟩
  | _, _, _, _, _, .nil, .cons _ _, h => by simp at h
  | _, _, _, _, _, .cons _ _, .nil, h => by simp at h
  | _, _, _, _, _, .cons ht hs, .cons ht' hs', h => by
    obtain ⟨rfl, rfl⟩ := ht.det ht'
    obtain ⟨rfl, rfl⟩ := hs.det hs' (by simpa using h)
    exact ⟨rfl, rfl⟩
end
theorem Ts.snoc {l : List S50} {m b : Nat} {T : S142} (ht : Tr l m b T) : ∀ {a : Nat} {ks : List S142}, Ts l a m ks → Ts l a b (ks ++ [T])
  | _, [], .nil => .cons ht .nil
  | _, _ :: _, .cons h hs => .cons h (hs.snoc ht)

/-! ### plant -/
/-- What the ends are known to be in a stretch of nodes. -/
def EndsIn (l : List S50) (a b : Nat) (e : List Int) : Prop := ∀ j : Nat, a ≤ j → j < b → ∀ b' T', Tr l j b' T' → e.getD j 0 = (b' : Int)
theorem kids_drop {l : List S50} {a : Nat} (h : a < l.length) : (l.map (·.f5)).drop a = (rd_T50 l (a : Int)).f5 :: (l.map (·.f5)).drop (a + 1) := by
  rw [List.drop_eq_getElem_cons (by simpa using h)]
  simp [rd_T50, List.getD_eq_getElem?_getD, List.getElem?_eq_getElem h]
mutual
theorem Tr.plant {l : List S50} : ∀ {a b : Nat} {T : S142}, Tr l a b T → ∀ (st : List (Int × Int)) (p e : List Int), e.length = l.length →
    ∃ p' e', plantS ((l.map (·.f5)).drop a) a st p e = plantS ((l.map (·.f5)).drop b) b (closeS ((b : Int) - 1) (less st) e').1 p' (closeS ((b : Int) - 1) (less st) e').2 ∧ e'.length = l.length ∧ EndsIn l a b e' ∧ ∀ j : Nat, (j < a ∨ b ≤ j) → e'.getD j 0 = e.getD j 0
  | _, _, _, .node (a := a) (b := b) (ks := ks) ha hs hn, st, p, e, he => by
    have h0 : 0 ≤ (rd_T50 l (a : Int)).f5 := by omega
    have hT : Tr l a b ⟨rd_T50 l (a : Int), ks, (a : Int)⟩ := .node ha hs hn
    rw [kids_drop ha, plantS_pos h0]
    cases hk : ks with
    | nil =>
      subst hk
      cases hs
      have hz : (rd_T50 l (a : Int)).f5 = 0 := by rw [← hn]; rfl
      rw [closeS_go _ _ _ _ hz]
      refine ⟨_, _, by push_cast; rw [show (a : Int) + 1 - 1 = a by omega], by simpa using he, ?_, ?_⟩
      · intro j h1 h2 b' T' hT'
        obtain rfl : j = a := by omega
        have := (hT.det hT').1
        subst this
        simp only [Int.toNat_natCast]
        rw [getD_set _ _ _ _ (by omega), if_pos rfl]
        push_cast
        rfl
      · intro j hj
        simp only [Int.toNat_natCast]
        rw [getD_set _ _ _ _ (by omega), if_neg (by omega)]
    | cons y ys =>
      have hz : (rd_T50 l (a : Int)).f5 ≠ 0 := by rw [← hn, hk]; simp; omega
      rw [closeS_stop _ _ _ _ hz]
      obtain ⟨p', e', h1, h2, h3, h4⟩ := hs.plant (a : Int) (less st) (p.set (a : Int).toNat (topOf st)) e he (by rw [hk]; simp)
      rw [← hn]
      refine ⟨p', e'.set a (b : Int), ?_, by simpa using h2, ?_, ?_⟩
      · push_cast at h1
        rw [h1, closeS_go _ _ _ _ rfl]
        simp only [Int.toNat_natCast]
        rw [show (b : Int) - 1 + 1 = b by omega]
      · intro j h5 h6 b' T' hT'
        rw [getD_set _ _ _ _ (by omega)]
        split
        · rename_i hja
          subst hja
          rw [(hT.det hT').1]
        · exact h3 j (by omega) h6 b' T' hT'
      · intro j hj
        have := hT.lt
        rw [getD_set _ _ _ _ (by omega), if_neg (by omega)]
        exact h4 j (by omega)
theorem Ts.plant {l : List S50} : ∀ {a b : Nat} {ks : List S142}, Ts l a b ks → ∀ (o : Int) (st : List (Int × Int)) (p e : List Int), e.length = l.length → ks ≠ [] →
    ∃ p' e', plantS ((l.map (·.f5)).drop a) a ((o, (ks.length : Int)) :: st) p e = plantS ((l.map (·.f5)).drop b) b (closeS ((b : Int) - 1) ((o, 0) :: st) e').1 p' (closeS ((b : Int) - 1) ((o, 0) :: st) e').2 ∧ e'.length = l.length ∧ EndsIn l a b e' ∧ ∀ j : Nat, (j < a ∨ b ≤ j) → e'.getD j 0 = e.getD j 0
  | _, _, _, .nil, o, st, p, e, he, hne => absurd rfl hne
  | _, _, _, .cons (a := a) (m := m) (b := b) (T := T) (ks := ks) ht hs, o, st, p, e, he, hne => by
    obtain ⟨p1, e1, h1, h2, h3, h4⟩ := ht.plant ((o, ((T :: ks).length : Int)) :: st) p e he
    rw [h1]
    have hm := ht.lt
    simp only [less, List.length_cons]
    push_cast
    rw [show (ks.length : Int) + 1 - 1 = ks.length by omega]
    cases hk : ks with
    | nil =>
      subst hk
      cases hs
      exact ⟨p1, e1, rfl, h2, h3, h4⟩
    | cons y ys =>
      rw [closeS_stop _ _ _ _ (by simp; omega)]
      obtain ⟨p2, e2, g1, g2, g3, g4⟩ := hs.plant o st p1 e1 h2 (by rw [hk]; simp)
      have hb := hs.le (by omega)
      rw [hk] at g1
      refine ⟨p2, e2, g1, g2, ?_, ?_⟩
      · intro j h5 h6 b' T' hT'
        rcases Nat.lt_or_ge j m with hj | hj
        · rw [g4 j (.inl hj)]
          exact h3 j h5 hj b' T' hT'
        · exact g3 j hj h6 b' T' hT'
      · intro j hj
        rw [g4 j (by omega)]
        exact h4 j (by omega)
end
theorem Ts.plantRoots {l : List S50} : ∀ {a b : Nat} {ks : List S142}, Ts l a b ks → ∀ (p e : List Int), e.length = l.length →
    ∃ p' e', plantS ((l.map (·.f5)).drop a) a [] p e = plantS ((l.map (·.f5)).drop b) b [] p' e' ∧ e'.length = l.length ∧ EndsIn l a b e' ∧ ∀ j : Nat, (j < a ∨ b ≤ j) → e'.getD j 0 = e.getD j 0
  | _, _, [], .nil, p, e, he => ⟨p, e, rfl, he, fun j h1 h2 => by omega, fun _ _ => rfl⟩
  | a, b, _ :: _, .cons (m := m) ht hs, p, e, he => by
    obtain ⟨p1, e1, h1, h2, h3, h4⟩ := ht.plant [] p e he
    have hm := ht.lt
    have hb := hs.le (by omega)
    obtain ⟨p2, e2, g1, g2, g3, g4⟩ := hs.plantRoots p1 e1 h2
    refine ⟨p2, e2, h1.trans g1, g2, ?_, ?_⟩
    · intro j h5 h6 b' T' hT'
      rcases Nat.lt_or_ge j m with hj | hj
      · rw [g4 j (.inl hj)]
        exact h3 j h5 hj b' T' hT'
      · exact g3 j hj h6 b' T' hT'
    · intro j hj
      rw [g4 j (by omega)]
      exact h4 j (by omega)
theorem plantK_of {l : List S50} {L : List S142} (h : Ts l 0 l.length L) : (plantK l).2.2 = true ∧ EndsIn l 0 l.length (plantK l).2.1 := by
  obtain ⟨p, e, h1, h2, h3, _⟩ := h.plantRoots (List.replicate l.length 0) (List.replicate l.length 0) (by simp)
  have : plantK l = (p, e, true) := by
    unfold plantK
    rw [List.drop_zero] at h1
    have := h1
    rw [show ((0 : Nat) : Int) = 0 from rfl] at this
    rw [this, List.drop_of_length_le (by simp)]
    rfl
  rw [this]
  exact ⟨rfl, h3⟩

/-! ### the other way: what plant takes is trees -/
def more : List (Int × Int) → List (Int × Int)
  | [] => []
  | (o, c) :: r => (o, c + 1) :: r
theorem more_less (st : List (Int × Int)) : more (less st) = st := by
  cases st with
  | nil => rfl
  | cons z r => obtain ⟨o, c⟩ := z; simp [more, less]
/-- What stands open behind m nodes. -/
inductive Pend (l : List S50) : Nat → List (Int × Int) → Prop
  | nil {m : Nat} {L : List S142} : Ts l 0 m L → Pend l m []
  | cons {o m : Nat} {c : Int} {rest : List (Int × Int)} {ks : List S142} : o < l.length → Ts l (o + 1) m ks → (ks.length : Int) + c = (rd_T50 l (o : Int)).f5 → Pend l o (more rest) → Pend l m (((o : Int), c) :: rest)
theorem Pend.pop {l : List S50} {o m : Nat} {T : S142} (ht : Tr l o m T) : ∀ {rest : List (Int × Int)}, Pend l o (more rest) → Pend l m rest
  | [], h => by
    cases h with
    | nil h => exact .nil (h.snoc ht)
  | (o2, c2) :: r, h => by
    simp only [more] at h
    cases h with
    | cons h1 h2 h3 h4 => exact .cons h1 (h2.snoc ht) (by simp; omega) h4
theorem Pend.close {l : List S50} (i : Nat) : ∀ (st : List (Int × Int)) (e : List Int), Pend l (i + 1) st → Pend l (i + 1) (closeS (i : Int) st e).1
  | [], e, h => h
  | (o, c) :: st, e, h => by
    unfold closeS
    split
    · rename_i hc
      subst hc
      cases h with
      | cons h1 h2 h3 h4 => exact Pend.close i st _ (h4.pop (.node h1 h2 (by omega)))
    · exact h
theorem plantS_conv {l : List S50} : ∀ (k i : Nat) (st : List (Int × Int)) (p e : List Int), i + k = l.length → Pend l i st → (plantS ((l.map (·.f5)).drop i) i st p e).2.2 = true → ∃ L, Ts l 0 l.length L
  | 0, i, st, p, e, hi, h, hok => by
    rw [List.drop_of_length_le (by simp; omega)] at hok
    simp only [plantS] at hok
    have : st = [] := by simpa using hok
    subst this
    cases h with
    | nil h =>
      obtain rfl : i = l.length := by omega
      exact ⟨_, h⟩
  | k + 1, i, st, p, e, hi, h, hok => by
    rw [kids_drop (by omega)] at hok
    by_cases hx : (rd_T50 l (i : Int)).f5 < 0
    · rw [plantS, if_pos hx] at hok
      simp at hok
    · rw [plantS_pos (by omega)] at hok
      refine plantS_conv k (i + 1) _ _ _ (by omega) (Pend.close i _ e ?_) (by push_cast; exact hok)
      exact .cons (by omega) (ks := []) .nil (by simp) (by rw [more_less]; exact h)
theorem plantK_conv {l : List S50} (h : (plantK l).2.2 = true) : ∃ L, Ts l 0 l.length L :=
  plantS_conv l.length 0 [] (List.replicate l.length 0) (List.replicate l.length 0) (by omega) (.nil .nil) (by simpa [plantK] using h)
/-! ### the nodes beside one another -/
theorem Ts.sib {l : List S50} {e : List Int} : ∀ {a b : Nat} {ks : List S142}, Ts l a b ks → a ≤ l.length → EndsIn l a b e → ∀ k : Nat, b - a ≤ k → sib e k (a : Int) (b : Int) = ks.map (·.f2)
  | a, _, [], .nil, ha, he, k, hk => by
    cases k with
    | zero => rfl
    | succ k => simp [Pl.sib]
  | a, b, T :: ks, .cons (m := m) ht hs, ha, he, k, hk => by
    have h1 := ht.lt
    have h2 := hs.le (by omega)
    cases k with
    | zero => omega
    | succ k =>
      simp only [Pl.sib]
      rw [if_pos (by omega), Int.toNat_natCast, he a (by omega) (by omega) _ _ ht, hs.sib (by omega) (fun j h3 h4 => he j (by omega) h4) k (by omega)]
      simp [h1.2.2]
theorem Tr.kidsK {l : List S50} {L : List S142} (h : Ts l 0 l.length L) {a b : Nat} {T : S142} (ht : Tr l a b T) : kidsK l (a : Int) = T.f1.map (·.f2) := by
  obtain ⟨h1, h2⟩ := plantK_of h
  have hl := ht.lt
  unfold PO.kidsK
  rw [if_pos ⟨h1, by omega, by omega⟩, Int.toNat_natCast, h2 a (by omega) (by omega) _ _ ht]
  cases ht with
  | node ha hs hn =>
    have := hs.le (by omega)
    exact_mod_cast hs.sib (by omega) (fun j h3 h4 => h2 j (by omega) (by omega)) l.length (by omega)
theorem Tr.sizeK {l : List S50} {L : List S142} (h : Ts l 0 l.length L) {a b : Nat} {T : S142} (ht : Tr l a b T) : sizeK l (a : Int) = (b : Int) - a := by
  obtain ⟨h1, h2⟩ := plantK_of h
  have hl := ht.lt
  unfold PO.sizeK
  rw [if_pos ⟨h1, by omega, by omega⟩, Int.toNat_natCast, h2 a (by omega) (by omega) _ _ ht]
end Go.Proofs.Ytmhmmffhmdbclaa.PO
