/- Plain: the forest of a list of nodes, as tree.plant makes it, over the nodes' numbers of children. -/
namespace Go.Proofs.Ytmhmmffhmdbclaa.Pl
/-- Behind node i: what is complete is closed. -/
def closeS (i : Int) : List (Int × Int) → List Int → List (Int × Int) × List Int
  | [], e => ([], e)
  | (o, n) :: st, e => if n = 0 then closeS i st (e.set o.toNat (i + 1)) else ((o, n) :: st, e)
def topOf : List (Int × Int) → Int
  | [] => -1
  | (o, _) :: _ => o
def less : List (Int × Int) → List (Int × Int)
  | [] => []
  | (o, n) :: r => (o, n - 1) :: r
def plantS : List Int → Int → List (Int × Int) → List Int → List Int → List Int × List Int × Bool
  | [], _, st, p, e => (p, e, st.isEmpty)
  | x :: xs, i, st, p, e =>
    if x < 0 then (p.set i.toNat (topOf st), e, false) else
    plantS xs (i + 1) (closeS i ((i, x) :: less st) e).1 (p.set i.toNat (topOf st)) (closeS i ((i, x) :: less st) e).2
def opens (st : List (Int × Int)) : List Int := (st.map (·.1)).reverse
def lefts (st : List (Int × Int)) : List Int := (st.map (·.2)).reverse
theorem opens_cons (z : Int × Int) (st : List (Int × Int)) : opens (z :: st) = opens st ++ [z.1] := by simp [opens]
theorem lefts_cons (z : Int × Int) (st : List (Int × Int)) : lefts (z :: st) = lefts st ++ [z.2] := by simp [lefts]
theorem opens_len (st : List (Int × Int)) : (opens st).length = st.length := by simp [opens]
theorem lefts_len (st : List (Int × Int)) : (lefts st).length = st.length := by simp [lefts]
theorem opens_less (st : List (Int × Int)) : opens (less st) = opens st := by cases st <;> simp [opens, less]
theorem lefts_less (z : Int × Int) (st : List (Int × Int)) : (lefts (z :: st)).set st.length (z.2 - 1) = lefts (less (z :: st)) := by
  obtain ⟨o, n⟩ := z
  simp [lefts, less]
theorem topOf_cons (z : Int × Int) (st : List (Int × Int)) : topOf (z :: st) = z.1 := rfl
theorem less_len (st : List (Int × Int)) : (less st).length = st.length := by cases st <;> simp [less]
theorem opens_take (z : Int × Int) (st : List (Int × Int)) : (opens (z :: st)).take st.length = opens st := by rw [opens_cons, ← opens_len st, List.take_left']; rfl
theorem lefts_take (z : Int × Int) (st : List (Int × Int)) : (lefts (z :: st)).take st.length = lefts st := by rw [lefts_cons, ← lefts_len st, List.take_left']; rfl
theorem plantS_pos {x : Int} (h : 0 ≤ x) (xs : List Int) (i : Int) (st : List (Int × Int)) (p e : List Int) :
    plantS (x :: xs) i st p e = plantS xs (i + 1) (closeS i ((i, x) :: less st) e).1 (p.set i.toNat (topOf st)) (closeS i ((i, x) :: less st) e).2 := by
  rw [plantS, if_neg (by omega)]
theorem closeS_stop (i : Int) (z : Int × Int) (st : List (Int × Int)) (e : List Int) (h : z.2 ≠ 0) : closeS i (z :: st) e = (z :: st, e) := by
  obtain ⟨o, n⟩ := z
  rw [closeS, if_neg h]
theorem closeS_go (i : Int) (z : Int × Int) (st : List (Int × Int)) (e : List Int) (h : z.2 = 0) : closeS i (z :: st) e = closeS i st (e.set z.1.toNat (i + 1)) := by
  obtain ⟨o, n⟩ := z
  rw [closeS, if_pos h]
/-- What stands open behind i nodes. -/
def Upr (i : Int) (st : List (Int × Int)) : Prop := (∀ p ∈ st, 0 ≤ p.1 ∧ p.1 < i ∧ 0 ≤ p.2 ∧ p.2 ≤ 9223372036854775807) ∧ ∀ p, st.head? = some p → 1 ≤ p.2
end Go.Proofs.Ytmhmmffhmdbclaa.Pl
