/- Plain: outline.Symbols is the document's Symbols: going through the trees. -/
import Derived.Test.YtmhmmffhmdbclaaPureC
namespace Go.Proofs.Ytmhmmffhmdbclaa.PO
open Go.RowKit Go.Proofs.YtmhmmffhmdbclaaW.PrintWords Go.Proofs.YtmhmmffhmdbclaaW.PrintLast Go.Proofs.YtmhmmffhmdbclaaW.PrintMore H Pl
set_option linter.unusedVariables false
set_option linter.unusedSimpArgs false
section
variable (nm : ByteArray) (lf : List ByteArray) (lm : List S128) (l : List S50) (text : ByteArray)
def pL0 (acc : List S83) (S : List Int) (i : Int) (k : Nat) : Option (List S83) := outline_Symbols.l0 k l text acc S l (l.length : Int) i nm () () () () () () () () lf lm ()
def pL1 (acc : List S83) (S : List Int) (i : Int) (k : Nat) : Option (List S83) := outline_Symbols.l1 k l text acc S i l (l.length : Int) i nm () () () () () () () () lf lm () (rd_T50 l i).f0 (rd_T50 l i).f1 (rd_T50 l i).f2 (rd_T50 l i).f3 (rd_T50 l i).f4 (rd_T50 l i).f5 (rd_T50 l i).f6
def pJ2 (acc : List S83) (S : List Int) (i : Int) (k : Nat) : Option (List S83) := outline_Symbols.j2 k l text acc S i l (l.length : Int) i nm () () () () () () () () lf lm () (rd_T50 l i).f0 (rd_T50 l i).f1 (rd_T50 l i).f2 (rd_T50 l i).f3 (rd_T50 l i).f4 (rd_T50 l i).f5 (rd_T50 l i).f6
def rL0 (acc : List S83) (i : Int) (k : Nat) : Option (List S83) := trellisref22_Symbols.l0 k l text acc i nm () () () () () () () () lf lm ()
def rL1 (acc : List S83) (i t x11 x12 : Int) (k : Nat) : Option (List S83) := trellisref22_Symbols.l1 k l text acc i t x11 x12 nm () () () () () () () () lf lm ()
/-- A symbol. -/
def entryK (a : Nat) (j : Int) (d : Nat) : S83 := ⟨(rd_T50 l (a : Int)).f0, text.extract (rd_T50 l j).f3.toNat (rd_T50 l j).f4.toNat, (rd_T50 l (a : Int)).f3, (rd_T50 l (a : Int)).f4, (d : Int)⟩
/-- What is known: a forest, and its nodes within the text. -/
structure Wood (L : List S142) : Prop where
  nodes : l.length ≤ 1048576
  marks : lm.length ≤ 1048576
  ok : okN l = true
  wood : Ts l 0 l.length L
  forest : Ev (fun k => trellisref15_Forest.f k l) (L, true)
  within : l.all (inText text) = true
variable {nm lf lm l text} {L : List S142}
theorem Wood.at (w : Wood lm l text L) {j : Int} (h0 : 0 ≤ j) (h1 : j < l.length) : 0 ≤ (rd_T50 l j).f3 ∧ (rd_T50 l j).f3 ≤ (rd_T50 l j).f4 ∧ (rd_T50 l j).f4 ≤ (text.size : Int) := by
  obtain ⟨n, rfl⟩ : ∃ n : Nat, j = n := ⟨j.toNat, by omega⟩
  have hn : n < l.length := by omega
  have := List.all_eq_true.1 w.within l[n] (List.getElem_mem hn)
  rw [rd50_at hn]
  simpa [inText, and_assoc] using this

/-! ### what is popped -/
theorem rd_last (R : List Int) (x : Int) : rd (R ++ [x]) (((R ++ [x]).length : Int) - 1) = x := by
  have : (((R ++ [x]).length : Int) - 1).toNat = R.length := by simp
  simp [rd, this, List.getD_eq_getElem?_getD]
theorem pop_one (acc : List S83) (R : List Int) (x : Int) (i : Int) (hl : (R ++ [x]).length ≤ 4194304) (k : Nat) :
    pL1 nm lf lm l text acc (R ++ [x]) i (k + 1) = if x ≤ i then pL1 nm lf lm l text acc R i k else pJ2 nm lf lm l text acc (R ++ [x]) i k := by
  simp only [pL1, outline_Symbols.l1]
  have h1 : (R ++ [x]).length = R.length + 1 := by simp
  rw [if_pos (by omega), w64 (by omega), if_pos (by omega), if_pos (by omega), rd_last]
  split
  · rw [if_pos (by omega)]
    have : (((R ++ [x]).length : Int) - 1).toNat = R.length := by omega
    rw [this, List.take_left']
    rfl
  · rfl
theorem pop_none (acc : List S83) (i : Int) (k : Nat) : pL1 nm lf lm l text acc [] i (k + 1) = pJ2 nm lf lm l text acc [] i k := by
  simp [pL1, outline_Symbols.l1, pJ2]
theorem pop_stop (acc : List S83) (R : List Int) (i : Int) (hR : ∀ x ∈ R, i < x) (hl : R.length ≤ 4194304) {r : List S83} (h : Ev (pJ2 nm lf lm l text acc R i) r) : Ev (pL1 nm lf lm l text acc R i) r := by
  rcases List.eq_nil_or_concat R with rfl | ⟨R', x, rfl⟩
  · exact Ev.step (h.congr fun k => pop_none acc i k)
  · rw [List.concat_eq_append] at *
    refine Ev.step (h.congr fun k => ?_)
    rw [pop_one _ _ _ _ hl, if_neg (by have := hR x (by simp); omega)]
theorem pop_ev (acc : List S83) (R : List Int) (i : Int) (hR : ∀ x ∈ R, i < x) {r : List S83} (h : Ev (pJ2 nm lf lm l text acc R i) r) : ∀ (n : Nat) (X : List Int), X.length = n → (∀ x ∈ X, x ≤ i) → R.length + X.length ≤ 4194304 → Ev (pL1 nm lf lm l text acc (R ++ X) i) r
  | 0, X, hn, hX, hl => by
    obtain rfl : X = [] := List.length_eq_zero_iff.1 hn
    rw [List.append_nil]
    exact pop_stop acc R i hR (by omega) h
  | n + 1, X, hn, hX, hl => by
    rcases List.eq_nil_or_concat X with rfl | ⟨X', x, rfl⟩
    · simp at hn
    · rw [List.concat_eq_append] at *
      simp only [List.length_append, List.length_cons, List.length_nil] at hn hl
      refine Ev.step ((pop_ev acc R i hR h n X' (by omega) (fun y hy => hX y (by simp [hy])) (by omega)).congr fun k => ?_)
      rw [← List.append_assoc, pop_one _ _ _ _ (by simp; omega), if_pos (hX x (by simp))]

/-! ### the depth -/
/-- From a place on upwards there are d symbols. -/
def Dep (par : Int) (d : Nat) : Prop := ∀ (acc : List S83) (i t : Int) (x : Nat) (r : List S83), x + d ≤ 1048576 → Ev (rL1 nm lf lm l text acc i t ((x + d : Nat) : Int) (-1)) r → Ev (rL1 nm lf lm l text acc i t (x : Int) par) r
theorem Dep.top : Dep (nm := nm) (lf := lf) (lm := lm) (l := l) (text := text) (-1) 0 := fun acc i t x r _ h => h
theorem parent_ev (w : Wood lm l text L) {a : Nat} {T : S142} {par : Int} (h : findT (a : Int) L (-1) = some (T, par)) : Ev (fun k => trellisref15_Parent.f k l (a : Int)) par := by
  refine Ev.bind w.forest ((Ev.pure _).congr fun k => ?_)
  simp only [h]
  rfl
theorem Dep.down (w : Wood lm l text L) {a : Nat} (ha : a < l.length) {T : S142} {par : Int} {d : Nat} (hp : findT (a : Int) L (-1) = some (T, par)) (h : Dep (nm := nm) (lf := lf) (lm := lm) (l := l) (text := text) par d) :
    Dep (nm := nm) (lf := lf) (lm := lm) (l := l) (text := text) (a : Int) (d + if (callK lm l (a : Int)).isSome then 1 else 0) := by
  intro acc i t x r hx hr
  have hs : ∀ k, rL1 nm lf lm l text acc i t (x : Int) (a : Int) (k + 1) = (called nm lf lm l (a : Int) k).bind fun c => if c ≥ 0 then (trellisref15_Parent.f k l (a : Int)).bind fun q => rL1 nm lf lm l text acc i t (wrap64 ((x : Int) + 1)) q k else (trellisref15_Parent.f k l (a : Int)).bind fun q => rL1 nm lf lm l text acc i t (x : Int) q k := by
    intro k
    simp only [rL1, trellisref22_Symbols.l1]
    rw [if_pos (by omega)]
    rfl
  refine Ev.step (Ev.congr (Ev.bind (called_ev nm lf lm l w.marks w.nodes w.wood w.forest a ha) ?_) hs)
  cases hc : callK lm l (a : Int) with
  | none =>
    rw [hc] at hx hr
    refine Ev.congr (Ev.bind (f := fun k q => rL1 nm lf lm l text acc i t (x : Int) q k) (parent_ev w hp) (h acc i t x r (by simpa using hx) (by simpa using hr))) fun k => ?_
    rw [if_neg (by simp)]
  | some j =>
    rw [hc] at hx hr
    have hj := callK_range hc
    simp only [Option.isSome_some, if_true] at hx hr
    refine Ev.congr (Ev.bind (f := fun k q => rL1 nm lf lm l text acc i t ((x + 1 : Nat) : Int) q k) (parent_ev w hp) (h acc i t (x + 1) r (by omega) (by rw [show x + 1 + d = x + (d + 1) by omega]; exact hr))) fun k => ?_
    rw [if_pos (by simpa using hj.1), w64 (by omega)]
    rfl

/-! ### a node, a stretch -/
/-- Program and document say the same of a stretch. -/
def Same (a b : Nat) (d : Nat) (out : List S83) : Prop :=
  out.length + a ≤ b ∧
  (∀ acc r, acc.length ≤ a → Ev (rL0 nm lf lm l text (acc ++ out) (b : Int)) r → Ev (rL0 nm lf lm l text acc (a : Int)) r) ∧
  (∀ R X acc, R.length = d → d + X.length ≤ a → acc.length ≤ a → (∀ x ∈ X, x ≤ (a : Int)) → (∀ x ∈ R, (b : Int) ≤ x) →
    ∃ X', (∀ x ∈ X', x ≤ (b : Int)) ∧ d + X'.length ≤ b ∧ ∀ r, Ev (pL0 nm lf lm l text (acc ++ out) (R ++ X') (b : Int)) r → Ev (pL0 nm lf lm l text acc (R ++ X) (a : Int)) r)
theorem pJ2_none (w : Wood lm l text L) {a : Nat} (ha : a < l.length) (hc : callK lm l (a : Int) = none) (acc : List S83) (R : List Int) {r : List S83} (h : Ev (pL0 nm lf lm l text acc R ((a + 1 : Nat) : Int)) r) : Ev (pJ2 nm lf lm l text acc R (a : Int)) r := by
  have hn := w.nodes
  have hok := w.ok
  refine Ev.step (h.congr fun k => ?_)
  have hsym : outline_symbol.f nm () () () () () () () () lf lm () l (a : Int) = some (symT none) := by
    simp only [outline_symbol.f]
    rw [if_pos hok, if_pos (by omega), if_pos (by omega), symK_callK, hc]
    rfl
  simp only [pJ2, outline_Symbols.j2]
  rw [hsym, Option.bind_some, if_neg (show ¬ (symT none).2.2.2.2.2.2.2 = true by decide), w64 (by omega)]
  rfl
theorem pJ2_some (w : Wood lm l text L) {a b : Nat} {T : S142} (ht : Tr l a b T) {j : Int} (hc : callK lm l (a : Int) = some j) (acc : List S83) (hacc : acc.length ≤ a) (R : List Int) (hR : R.length ≤ a) {r : List S83}
    (h : Ev (pL0 nm lf lm l text (acc ++ [entryK l text a j R.length]) (R ++ [(b : Int)]) ((a + 1 : Nat) : Int)) r) : Ev (pJ2 nm lf lm l text acc R (a : Int)) r := by
  have hn := w.nodes
  have hok := w.ok
  have hb := ht.lt
  have hj := callK_range hc
  have hw := w.at hj.1 hj.2
  refine Ev.step (h.congr fun k => ?_)
  have hsym : outline_symbol.f nm () () () () () () () () lf lm () l (a : Int) = some (symT (some (rd_T50 l j))) := by
    simp only [outline_symbol.f]
    rw [if_pos hok, if_pos (by omega), if_pos (by omega), symK_callK, hc]
    rfl
  have hsize : tree_Size.f l (a : Int) = some ((b : Int) - a) := by
    simp only [tree_Size.f]
    rw [if_pos hok, ht.sizeK w.wood]
  simp only [pJ2, outline_Symbols.j2]
  rw [hsym, Option.bind_some, if_pos (show (symT (some (rd_T50 l j))).2.2.2.2.2.2.2 = true from rfl), if_pos (show 0 ≤ (symT (some (rd_T50 l j))).2.2.2.1 from hw.1), if_pos (show (symT (some (rd_T50 l j))).2.2.2.1 ≤ (symT (some (rd_T50 l j))).2.2.2.2.1 from hw.2.1),
    if_pos (show (symT (some (rd_T50 l j))).2.2.2.2.1 ≤ (text.size : Int) from hw.2.2), if_pos (show acc.length < 2513169434916 by omega), hsize, Option.bind_some, if_pos (show R.length < 17592186044416 by omega), w64 (x := (a : Int) + 1) (by omega), w64 (x := (a : Int) + ((b : Int) - a)) (by omega)]
  rw [show (a : Int) + ((b : Int) - a) = b by omega]
  rfl
theorem pL0_in {a : Nat} (ha : a < l.length) (acc : List S83) (S : List Int) {r : List S83} (h : Ev (pL1 nm lf lm l text acc S (a : Int)) r) : Ev (pL0 nm lf lm l text acc S (a : Int)) r := by
  refine Ev.step (h.congr fun k => ?_)
  simp only [pL0, outline_Symbols.l0]
  rw [if_pos (by omega), if_pos (by omega), if_pos (by omega)]
  rfl
theorem rL0_none (w : Wood lm l text L) {a : Nat} (ha : a < l.length) (hc : callK lm l (a : Int) = none) (acc : List S83) {r : List S83} (h : Ev (rL0 nm lf lm l text acc ((a + 1 : Nat) : Int)) r) : Ev (rL0 nm lf lm l text acc (a : Int)) r := by
  have hn := w.nodes
  have hs : ∀ k, rL0 nm lf lm l text acc (a : Int) (k + 1) = (called nm lf lm l (a : Int) k).bind fun c => if c < 0 then rL0 nm lf lm l text acc (wrap64 ((a : Int) + 1)) k else (trellisref15_Parent.f k l (a : Int)).bind fun q => rL1 nm lf lm l text acc (a : Int) c 0 q k := by
    intro k
    simp only [rL0, trellisref22_Symbols.l0]
    rw [if_pos (by omega)]
    rfl
  refine Ev.step (Ev.congr (Ev.bind (called_ev nm lf lm l w.marks w.nodes w.wood w.forest a ha) ?_) hs)
  rw [hc]
  refine h.congr fun k => ?_
  rw [if_pos (by simp), w64 (by omega)]
  rfl
theorem rL0_some (w : Wood lm l text L) {a : Nat} (ha : a < l.length) {T : S142} {par : Int} {d : Nat} (hd : d ≤ a) (hp : findT (a : Int) L (-1) = some (T, par)) (hD : Dep (nm := nm) (lf := lf) (lm := lm) (l := l) (text := text) par d)
    {j : Int} (hc : callK lm l (a : Int) = some j) (acc : List S83) (hacc : acc.length ≤ a) {r : List S83} (h : Ev (rL0 nm lf lm l text (acc ++ [entryK l text a j d]) ((a + 1 : Nat) : Int)) r) : Ev (rL0 nm lf lm l text acc (a : Int)) r := by
  have hn := w.nodes
  have hj := callK_range hc
  have hw := w.at hj.1 hj.2
  have hs : ∀ k, rL0 nm lf lm l text acc (a : Int) (k + 1) = (called nm lf lm l (a : Int) k).bind fun c => if c < 0 then rL0 nm lf lm l text acc (wrap64 ((a : Int) + 1)) k else (trellisref15_Parent.f k l (a : Int)).bind fun q => rL1 nm lf lm l text acc (a : Int) c 0 q k := by
    intro k
    simp only [rL0, trellisref22_Symbols.l0]
    rw [if_pos (by omega)]
    rfl
  refine Ev.step (Ev.congr (Ev.bind (called_ev nm lf lm l w.marks w.nodes w.wood w.forest a ha) ?_) hs)
  rw [hc]
  have hgo : Ev (rL1 nm lf lm l text acc (a : Int) j ((0 + d : Nat) : Int) (-1)) r := by
    refine Ev.step (h.congr fun k => ?_)
    simp only [rL1, trellisref22_Symbols.l1]
    rw [if_neg (by omega), if_pos (by omega), if_pos (by omega), if_pos hj.1, if_pos hj.2, if_pos hw.1, if_pos hw.2.1, if_pos hw.2.2, if_pos (by omega), w64 (by omega), Nat.zero_add]
    rfl
  refine Ev.congr (Ev.bind (f := fun k q => rL1 nm lf lm l text acc (a : Int) j ((0 : Nat) : Int) q k) (parent_ev w hp) (hD acc (a : Int) j 0 r (by omega) hgo)) fun k => ?_
  rw [if_neg (by simpa using hj.1)]
  rfl
mutual
theorem Tr.same (w : Wood lm l text L) : ∀ {a b : Nat} {T : S142}, Tr l a b T → ∀ (d : Nat) (par : Int), d ≤ a → findT (a : Int) L (-1) = some (T, par) → Stands L (a + 1) b T.f1 (a : Int) → Dep (nm := nm) (lf := lf) (lm := lm) (l := l) (text := text) par d →
    ∃ out, Same (nm := nm) (lf := lf) (lm := lm) (l := l) (text := text) a b d out
  | _, _, _, .node (a := a) (b := b) (ks := ks) ha hs hn, d, par, hd, hp, hst, hD => by
    have hT : Tr l a b ⟨rd_T50 l (a : Int), ks, (a : Int)⟩ := .node ha hs hn
    have hb := hT.lt
    have hnn := w.nodes
    have hD' := Dep.down w ha hp hD
    cases hc : callK lm l (a : Int) with
    | none =>
      rw [hc] at hD'
      obtain ⟨out, h1, h2, h3⟩ := hs.same w d (a : Int) (by omega) hst (by simpa using hD')
      refine ⟨out, by omega, ?_, ?_⟩
      · intro acc r hacc hr
        exact rL0_none w ha hc acc (h2 acc r (by omega) hr)
      · intro R X acc hR hX hacc hX1 hR1
        obtain ⟨X', g1, g2, g3⟩ := h3 R [] acc hR (by simp; omega) (by omega) (by simp) hR1
        refine ⟨X', g1, g2, fun r hr => ?_⟩
        refine pL0_in ha acc _ (pop_ev acc R _ (fun x hx => by have := hR1 x hx; omega) ?_ X.length X rfl hX1 (by omega))
        refine pJ2_none w ha hc acc R ?_
        have := g3 r hr
        rwa [List.append_nil] at this
    | some j =>
      rw [hc] at hD'
      obtain ⟨out, h1, h2, h3⟩ := hs.same w (d + 1) (a : Int) (by omega) hst (by simpa using hD')
      refine ⟨entryK l text a j d :: out, by simp; omega, ?_, ?_⟩
      · intro acc r hacc hr
        refine rL0_some w ha hd hp hD hc acc hacc (h2 _ r (by simp; omega) ?_)
        simpa using hr
      · intro R X acc hR hX hacc hX1 hR1
        obtain ⟨X', g1, g2, g3⟩ := h3 (R ++ [(b : Int)]) [] (acc ++ [entryK l text a j d]) (by simp [hR]) (by simp; omega) (by simp; omega) (by simp) (by
          intro x hx
          rcases List.mem_append.1 hx with hx | hx
          · exact hR1 x hx
          · simp at hx; omega)
        refine ⟨(b : Int) :: X', ?_, by simp; omega, fun r hr => ?_⟩
        · intro x hx
          rcases List.mem_cons.1 hx with rfl | hx
          · omega
          · exact g1 x hx
        · refine pL0_in ha acc _ (pop_ev acc R _ (fun x hx => by have := hR1 x hx; omega) ?_ X.length X rfl hX1 (by omega))
          refine pJ2_some w hT hc acc hacc R (by omega) ?_
          rw [hR]
          have := g3 r (by simpa using hr)
          rwa [List.append_nil] at this
theorem Ts.same (w : Wood lm l text L) : ∀ {a b : Nat} {ks : List S142}, Ts l a b ks → ∀ (d : Nat) (par : Int), d ≤ a → Stands L a b ks par → Dep (nm := nm) (lf := lf) (lm := lm) (l := l) (text := text) par d →
    ∃ out, Same (nm := nm) (lf := lf) (lm := lm) (l := l) (text := text) a b d out
  | _, _, _, .nil, d, par, hd, hst, hD => ⟨[], by simp, fun acc r _ h => by simpa using h, fun R X acc _ h1 _ h2 _ => ⟨X, h2, h1, fun r h => by simpa using h⟩⟩
  | a, b, _, .cons (m := m) (T := T) (ks := ks) ht hs, d, par, hd, hst, hD => by
    have h1 := ht.lt
    have h2 := hs.le (by omega)
    obtain ⟨o1, e1, e2, e3⟩ := ht.same w d par hd (hst.head ht (by omega)) (hst.down ht (by omega)) hD
    obtain ⟨o2, f1, f2, f3⟩ := hs.same w d par (by omega) (hst.tail ht) hD
    refine ⟨o1 ++ o2, by simp; omega, ?_, ?_⟩
    · intro acc r hacc hr
      exact e2 acc r hacc (f2 _ r (by simp; omega) (by simpa using hr))
    · intro R X acc hR hX hacc hX1 hR1
      obtain ⟨X1, g1, g2, g3⟩ := e3 R X acc hR hX hacc hX1 (fun x hx => by have := hR1 x hx; omega)
      obtain ⟨X2, k1, k2, k3⟩ := f3 R X1 (acc ++ o1) hR g2 (by simp; omega) g1 hR1
      exact ⟨X2, k1, k2, fun r hr => g3 r (k3 r (by simpa using hr))⟩
end
end
/-- The program's symbols are the document's. -/
theorem Symbols_same (nm : ByteArray) (lf : List ByteArray) (lm : List S128) (l : List S50) (text : ByteArray) (hN : l.length ≤ 1048576) (hM : lm.length ≤ 1048576) (hok : okN l = true) :
    ∃ r : List S83, r.length ≤ l.length ∧ Ev (fun k => outline_Symbols.f k nm () () () () () () () () lf lm () l text) r ∧ Ev (fun k => trellisref22_Symbols.f k nm () () () () () () () () lf lm () l text) r := by
  have hp := right_l0 l text hN hok l.length 0 (by omega)
  rcases Forest_dec l hN with ⟨L, hL, hF⟩ | ⟨hno, hF⟩
  · have hr := right22_l0 l text hN _ hF l.length 0 (by omega)
    have h1 : decide (countK l ≥ 0) = true := decide_eq_true (countK_some hL)
    have h2 : decide (roots15 l (L, true) ≥ 0) = true := decide_eq_true (by simp [roots15])
    rw [h1, Bool.and_true, List.drop_zero] at hp
    rw [h2, Bool.and_true, List.drop_zero] at hr
    cases hw : l.all (inText text) with
    | false =>
      rw [hw] at hp hr
      exact ⟨[], by simp, Ev.bind hp ((Ev.pure _).congr fun k => by simp), Ev.bind hr ((Ev.pure _).congr fun k => by simp)⟩
    | true =>
      rw [hw] at hp hr
      have w : Wood lm l text L := ⟨hN, hM, hok, hL, hF, hw⟩
      obtain ⟨out, e1, e2, e3⟩ := hL.same (nm := nm) (lf := lf) w 0 (-1) (by omega) (fun j _ _ => rfl) Dep.top
      obtain ⟨X', g1, g2, g3⟩ := e3 [] [] [] rfl (by simp) (by simp) (by simp) (by simp)
      refine ⟨out, by omega, Ev.bind hp ?_, Ev.bind hr ?_⟩
      · refine Ev.congr (g3 out (Ev.step ((Ev.pure _).congr fun k => ?_))) fun k => ?_
        · simp only [pL0, outline_Symbols.l0]
          rw [if_neg (by omega)]
          rfl
        · rw [if_pos rfl]
          rfl
      · refine Ev.congr (e2 [] out (by simp) (Ev.step ((Ev.pure _).congr fun k => ?_))) fun k => ?_
        · simp only [rL0, trellisref22_Symbols.l0]
          rw [if_neg (by omega)]
          rfl
        · rw [if_pos rfl]
          rfl
  · have hr := right22_l0 l text hN _ hF l.length 0 (by omega)
    have h1 : decide (countK l ≥ 0) = false := by rw [countK_none hno]; rfl
    have h2 : decide (roots15 l ([], false) ≥ 0) = false := rfl
    rw [h1, Bool.and_false] at hp
    rw [h2, Bool.and_false] at hr
    exact ⟨[], by simp, Ev.bind hp ((Ev.pure _).congr fun k => by simp), Ev.bind hr ((Ev.pure _).congr fun k => by simp)⟩
end Go.Proofs.Ytmhmmffhmdbclaa.PO
