/- Plain: the document's own trees: take, Forest and find on a list of nodes. -/
import Derived.Test.YtmhmmffhmdbclaaPureA
import Derived.Test.YtmhmmffhmdbclaaPOx7
namespace Go.Proofs.Ytmhmmffhmdbclaa.PO
open Go.RowKit Go.Proofs.YtmhmmffhmdbclaaW.PrintWords Go.Proofs.YtmhmmffhmdbclaaW.PrintLast Go.Proofs.YtmhmmffhmdbclaaW.PrintMore H Pl
set_option linter.unusedVariables false
set_option linter.unusedSimpArgs false
/-- What an answer by rounds is, from some number of rounds on. -/
def Ev {α : Type} (g : Nat → Option α) (r : α) : Prop := ∃ k0, ∀ k, k0 ≤ k → g k = some r
section
variable {α β : Type}
theorem Ev.pure (r : α) : Ev (fun _ => some r) r := ⟨0, fun _ _ => rfl⟩
theorem Ev.step {g : Nat → Option α} {r : α} (h : Ev (fun k => g (k + 1)) r) : Ev g r := by
  obtain ⟨k0, h⟩ := h
  refine ⟨k0 + 1, fun k hk => ?_⟩
  obtain ⟨k', rfl⟩ : ∃ k', k = k' + 1 := ⟨k - 1, by omega⟩
  exact h k' (by omega)
theorem Ev.congr {g g' : Nat → Option α} {r : α} (h : Ev g' r) (e : ∀ k, g k = g' k) : Ev g r := by
  obtain ⟨k0, h⟩ := h
  exact ⟨k0, fun k hk => (e k).trans (h k hk)⟩
theorem Ev.bind {g : Nat → Option β} {f : Nat → β → Option α} {b : β} {r : α} (h1 : Ev g b) (h2 : Ev (fun k => f k b) r) : Ev (fun k => (g k).bind (f k)) r := by
  obtain ⟨k1, h1⟩ := h1
  obtain ⟨k2, h2⟩ := h2
  refine ⟨k1 + k2, fun k hk => ?_⟩
  show (g k).bind (f k) = _
  rw [h1 k (by omega)]
  exact h2 k (by omega)
end
theorem w64 {x : Int} (h : -9223372036854775808 ≤ x ∧ x ≤ 9223372036854775807) : wrap64 x = x := by rw [← i64_w]; exact Go.IntWalk.i64_in x h
theorem s142_eta (T : S142) : (⟨(⟨T.f0.f0, T.f0.f1, T.f0.f2, T.f0.f3, T.f0.f4, T.f0.f5, T.f0.f6⟩ : S50), T.f1, T.f2⟩ : S142) = T := by cases T; rfl
theorem rd50_eta (x : S50) : (⟨x.f0, x.f1, x.f2, x.f3, x.f4, x.f5, x.f6⟩ : S50) = x := rfl

/-! ### take -/
abbrev TakeR : Type := ByteArray × Bool × ByteArray × Int × Int × Int × Int × (List S142) × Int × Int × Bool
def tup (T : S142) (b : Int) (ok : Bool) : TakeR := (T.f0.f0, T.f0.f1, T.f0.f2, T.f0.f3, T.f0.f4, T.f0.f5, T.f0.f6, T.f1, T.f2, b, ok)
def takeL (l : List S50) (a m i : Int) (acc : List S142) (k : Nat) : Option TakeR :=
  trellisref15_take.l0 k l a m i (rd_T50 l a).f0 (rd_T50 l a).f1 (rd_T50 l a).f2 (rd_T50 l a).f3 (rd_T50 l a).f4 (rd_T50 l a).f5 (rd_T50 l a).f6 acc a
def TakeDec (l : List S50) (a : Nat) : Prop :=
  (∃ b T, Tr l a b T ∧ Ev (fun k => trellisref15_take.f k l (a : Int)) (tup T (b : Int) true)) ∨ ((∀ b T, ¬ Tr l a b T) ∧ Ev (fun k => trellisref15_take.f k l (a : Int)) (tup z142 (a : Int) false))
theorem takeL_dec (l : List S50) (hN : l.length ≤ 1048576) (a : Nat) (ha : a < l.length) (hk0 : (rd_T50 l (a : Int)).f5 ≤ l.length) (IH : ∀ m : Nat, a < m → m ≤ l.length → TakeDec l m) :
    ∀ (c m i : Nat) (acc : List S142), a < m → m ≤ l.length → ((i + c : Nat) : Int) = (rd_T50 l (a : Int)).f5 → acc.length ≤ i →
      (∃ b ks, Ts l m b ks ∧ ks.length = c ∧ Ev (takeL l a m i acc) (tup ⟨rd_T50 l (a : Int), acc ++ ks, (a : Int)⟩ (b : Int) true)) ∨ ((∀ b ks, Ts l m b ks → ks.length ≠ c) ∧ Ev (takeL l a m i acc) (tup z142 (a : Int) false))
  | 0, m, i, acc, h1, h2, h3, h4 => by
    refine .inl ⟨m, [], .nil, rfl, Ev.step ((Ev.pure _).congr fun k => ?_)⟩
    simp only [takeL, trellisref15_take.l0]
    rw [if_pos (by omega), if_pos (by omega), if_neg (by omega)]
    simp [tup]
  | c + 1, m, i, acc, h1, h2, h3, h4 => by
    have hstep : ∀ k, takeL l a m i acc (k + 1) = (trellisref15_take.f k l (m : Int)).bind fun bt => if bt.2.2.2.2.2.2.2.2.2.2 = true then (if acc.length < 1353245080339 then takeL l a bt.2.2.2.2.2.2.2.2.2.1 (wrap64 ((i : Int) + 1)) (acc ++ [(⟨(⟨bt.1, bt.2.1, bt.2.2.1, bt.2.2.2.1, bt.2.2.2.2.1, bt.2.2.2.2.2.1, bt.2.2.2.2.2.2.1⟩ : S50), bt.2.2.2.2.2.2.2.1, bt.2.2.2.2.2.2.2.2.1⟩ : S142)]) k else none) else some (tup z142 (a : Int) false) := by
      intro k
      simp only [takeL, trellisref15_take.l0]
      rw [if_pos (by omega), if_pos (by omega), if_pos (by omega)]
      rfl
    rcases IH m h1 h2 with ⟨b, T, ht, hE⟩ | ⟨hno, hE⟩
    · have hb := ht.lt
      have hrec := takeL_dec l hN a ha hk0 IH c b (i + 1) (acc ++ [T]) (by omega) (by omega) (by omega) (by simp; omega)
      have hgo : ∀ r, Ev (takeL l a b ((i + 1 : Nat) : Int) (acc ++ [T])) r → Ev (takeL l a m i acc) r := by
        intro r hr
        refine Ev.step (Ev.congr (Ev.bind hE ?_) hstep)
        refine hr.congr fun k => ?_
        simp only [tup]
        rw [if_pos trivial, if_pos (by omega), w64 (by omega), s142_eta]
        push_cast
        rfl
      rcases hrec with ⟨b', ks, hs, hl, hr⟩ | ⟨hno, hr⟩
      · refine .inl ⟨b', T :: ks, .cons ht hs, by simp [hl], hgo _ ?_⟩
        simpa using hr
      · refine .inr ⟨fun b' ks hs hl => ?_, hgo _ hr⟩
        cases hs with
        | nil => simp at hl
        | cons ht' hs' =>
          obtain ⟨rfl, rfl⟩ := ht.det ht'
          exact hno _ _ hs' (by simpa using hl)
    · refine .inr ⟨fun b' ks hs hl => ?_, Ev.step (Ev.congr (Ev.bind hE ?_) hstep)⟩
      · cases hs with
        | nil => simp at hl
        | cons ht' hs' => exact hno _ _ ht'
      · refine (Ev.pure _).congr fun k => ?_
        simp [tup]
theorem take_dec (l : List S50) (hN : l.length ≤ 1048576) : ∀ (d a : Nat), a ≤ l.length → l.length - a ≤ d → TakeDec l a := by
  have hend : TakeDec l l.length := by
    refine .inr ⟨fun b T h => by have := h.lt; omega, Ev.step (Ev.step ((Ev.pure _).congr fun k => ?_))⟩
    simp [trellisref15_take.f, trellisref15_take.j0, tup, z142, z50]
  intro d
  induction d with
  | zero =>
    intro a h1 h2
    obtain rfl : a = l.length := by omega
    exact hend
  | succ d ih =>
    intro a h1 h2
    by_cases ha : a < l.length
    · have hj : ∀ k, trellisref15_take.f (k + 1) l (a : Int) = if (rd_T50 l (a : Int)).f5 < 0 then trellisref15_take.j0 k l (a : Int) true else trellisref15_take.j0 k l (a : Int) (decide ((rd_T50 l (a : Int)).f5 > (l.length : Int))) := by
        intro k
        simp only [trellisref15_take.f]
        rw [if_neg (by omega), if_pos (by omega), if_pos (by omega)]
      by_cases hneg : (rd_T50 l (a : Int)).f5 < 0
      · refine .inr ⟨fun b T h => ?_, Ev.step (Ev.congr (Ev.step ((Ev.pure _).congr fun k => ?_)) hj)⟩
        · cases h with
          | node h1 h2 h3 => omega
        · simp [hneg, trellisref15_take.j0, tup, z142, z50]
      · by_cases hbig : (rd_T50 l (a : Int)).f5 > (l.length : Int)
        · refine .inr ⟨fun b T h => ?_, Ev.step (Ev.congr (Ev.step ((Ev.pure _).congr fun k => ?_)) hj)⟩
          · cases h with
            | node h1 h2 h3 =>
              have := h2.le (by omega)
              omega
          · simp [hneg, hbig, trellisref15_take.j0, tup, z142, z50]
        · have hgo : ∀ r, Ev (takeL l a ((a + 1 : Nat) : Int) ((0 : Nat) : Int) []) r → Ev (fun k => trellisref15_take.f k l (a : Int)) r := by
            intro r hr
            refine Ev.step (Ev.congr (Ev.step (hr.congr fun k => ?_)) hj)
            rw [if_neg hneg]
            simp only [trellisref15_take.j0, takeL]
            rw [if_neg (by simp; omega), if_pos (by omega), if_pos (by omega), w64 (by omega)]
            rfl
          rcases takeL_dec l hN a ha (by omega) (fun m hm1 hm2 => ih m hm2 (by omega)) (rd_T50 l (a : Int)).f5.toNat (a + 1) 0 [] (by omega) (by omega) (by omega) (by simp) with ⟨b, ks, hs, hl, hr⟩ | ⟨hno, hr⟩
          · exact .inl ⟨b, _, .node ha hs (by omega), hgo _ (by simpa using hr)⟩
          · refine .inr ⟨fun b T h => ?_, hgo _ hr⟩
            cases h with
            | node h1 h2 h3 => exact hno _ _ h2 (by omega)
    · obtain rfl : a = l.length := by omega
      exact hend
theorem forest_dec (l : List S50) (hN : l.length ≤ 1048576) : ∀ (d a : Nat) (acc : List S142), a ≤ l.length → l.length - a ≤ d → acc.length ≤ a →
    (∃ L, Ts l a l.length L ∧ Ev (fun k => trellisref15_Forest.l0 k l acc (a : Int)) (acc ++ L, true)) ∨ ((∀ L, ¬ Ts l a l.length L) ∧ Ev (fun k => trellisref15_Forest.l0 k l acc (a : Int)) ([], false)) := by
  intro d
  induction d with
  | zero =>
    intro a acc h1 h2 h3
    obtain rfl : a = l.length := by omega
    refine .inl ⟨[], .nil, Ev.step ((Ev.pure _).congr fun k => ?_)⟩
    simp [trellisref15_Forest.l0]
  | succ d ih =>
    intro a acc h1 h2 h3
    by_cases ha : a < l.length
    · have hj : ∀ k, trellisref15_Forest.l0 (k + 1) l acc (a : Int) = (trellisref15_take.f k l (a : Int)).bind fun bt => if bt.2.2.2.2.2.2.2.2.2.2 = true then (if acc.length < 1353245080339 then trellisref15_Forest.l0 k l (acc ++ [(⟨(⟨bt.1, bt.2.1, bt.2.2.1, bt.2.2.2.1, bt.2.2.2.2.1, bt.2.2.2.2.2.1, bt.2.2.2.2.2.2.1⟩ : S50), bt.2.2.2.2.2.2.2.1, bt.2.2.2.2.2.2.2.2.1⟩ : S142)]) bt.2.2.2.2.2.2.2.2.2.1 else none) else some ([], false) := by
        intro k
        simp only [trellisref15_Forest.l0]
        rw [if_pos (by omega)]
      rcases take_dec l hN (l.length - a) a h1 (by omega) with ⟨b, T, ht, hE⟩ | ⟨hno, hE⟩
      · have hb := ht.lt
        have hgo : ∀ r, Ev (fun k => trellisref15_Forest.l0 k l (acc ++ [T]) (b : Int)) r → Ev (fun k => trellisref15_Forest.l0 k l acc (a : Int)) r := by
          intro r hr
          refine Ev.step (Ev.congr (Ev.bind hE ?_) hj)
          refine hr.congr fun k => ?_
          simp only [tup]
          rw [if_pos trivial, if_pos (by omega), s142_eta]
        rcases ih b (acc ++ [T]) (by omega) (by omega) (by simp; omega) with ⟨L, hs, hr⟩ | ⟨hno, hr⟩
        · exact .inl ⟨T :: L, .cons ht hs, hgo _ (by simpa using hr)⟩
        · refine .inr ⟨fun L hs => ?_, hgo _ hr⟩
          cases hs with
          | nil => omega
          | cons ht' hs' =>
            obtain ⟨rfl, rfl⟩ := ht.det ht'
            exact hno _ hs'
      · refine .inr ⟨fun L hs => ?_, Ev.step (Ev.congr (Ev.bind hE ?_) hj)⟩
        · cases hs with
          | nil => omega
          | cons ht' hs' => exact hno _ _ ht'
        · refine (Ev.pure _).congr fun k => ?_
          simp [tup]
    · obtain rfl : a = l.length := by omega
      refine .inl ⟨[], .nil, Ev.step ((Ev.pure _).congr fun k => ?_)⟩
      simp [trellisref15_Forest.l0]
/-- The list is trees, and what the document's forest is; or it is none. -/
theorem Forest_dec (l : List S50) (hN : l.length ≤ 1048576) :
    (∃ L, Ts l 0 l.length L ∧ Ev (fun k => trellisref15_Forest.f k l) (L, true)) ∨ ((∀ L, ¬ Ts l 0 l.length L) ∧ Ev (fun k => trellisref15_Forest.f k l) ([], false)) := by
  have := forest_dec l hN l.length 0 [] (by omega) (by omega) (by simp)
  simpa [trellisref15_Forest.f] using this

/-! ### find -/
theorem findT_nil (j par : Int) : findT j [] par = none := by rw [findT]
theorem findT_cons (j par : Int) (x : S142) (xs : List S142) : findT j (x :: xs) par = if x.f2 = j then some (x, par) else match findT j x.f1 x.f2 with | some r => some r | none => findT j xs par := by
  rw [findT]
  split
  · rfl
  · cases findT j x.f1 x.f2 <;> rfl
mutual
theorem Tr.find_none {l : List S50} : ∀ {a b : Nat} {T : S142}, Tr l a b T → ∀ (j : Nat), (j ≤ a ∨ b ≤ j) → findT (j : Int) T.f1 T.f2 = none
  | _, _, _, .node ha hs hn, j, hj => hs.find_none (by omega) j (by omega) _
theorem Ts.find_none {l : List S50} : ∀ {a b : Nat} {ks : List S142}, Ts l a b ks → a ≤ l.length → ∀ (j : Nat), (j < a ∨ b ≤ j) → ∀ par, findT (j : Int) ks par = none
  | _, _, _, .nil, h, j, hj, par => findT_nil _ _
  | _, _, _, .cons ht hs, h, j, hj, par => by
    have h1 := ht.lt
    have h2 := hs.le (by omega)
    rw [findT_cons, if_neg (by omega), ht.find_none j (by omega)]
    exact hs.find_none (by omega) j (by omega) par
end
mutual
theorem Tr.find_some {l : List S50} : ∀ {a b : Nat} {T : S142}, Tr l a b T → ∀ (j : Nat), a < j → j < b → ∃ b' T' q, findT (j : Int) T.f1 T.f2 = some (T', q) ∧ Tr l j b' T'
  | _, _, _, .node ha hs hn, j, h1, h2 => hs.find_some (by omega) j (by omega) h2 _
theorem Ts.find_some {l : List S50} : ∀ {a b : Nat} {ks : List S142}, Ts l a b ks → a ≤ l.length → ∀ (j : Nat), a ≤ j → j < b → ∀ par, ∃ b' T' q, findT (j : Int) ks par = some (T', q) ∧ Tr l j b' T'
  | _, _, _, .nil, h, j, h1, h2, par => by omega
  | a, _, _, .cons (m := m) ht hs, h, j, h1, h2, par => by
    have h3 := ht.lt
    have h4 := hs.le (by omega)
    rw [findT_cons]
    rcases Nat.lt_or_ge j m with hj | hj
    · rcases Nat.eq_or_lt_of_le h1 with rfl | h5
      · exact ⟨_, _, _, by rw [if_pos (by omega)], ht⟩
      · obtain ⟨b', T', q, h6, h7⟩ := ht.find_some j h5 hj
        exact ⟨b', T', q, by rw [if_neg (by omega), h6], h7⟩
    · obtain ⟨b', T', q, h6, h7⟩ := hs.find_some (by omega) j hj h2 par
      exact ⟨b', T', q, by rw [if_neg (by omega), ht.find_none j (.inr hj)]; exact h6, h7⟩
end
/-- Where a stretch of nodes stands in the forest: its nodes are found as they are found in the stretch. -/
def Stands (L : List S142) (a b : Nat) (ks : List S142) (par : Int) : Prop := ∀ j : Nat, a ≤ j → j < b → findT (j : Int) L (-1) = findT (j : Int) ks par
theorem Stands.head {l : List S50} {L ks : List S142} {a m b : Nat} {T : S142} {par : Int} (h : Stands L a b (T :: ks) par) (ht : Tr l a m T) (hmb : m ≤ b) : findT (a : Int) L (-1) = some (T, par) := by
  have := ht.lt
  rw [h a (by omega) (by omega), findT_cons, if_pos (by omega)]
theorem Stands.down {l : List S50} {L ks : List S142} {a m b : Nat} {T : S142} {par : Int} (h : Stands L a b (T :: ks) par) (ht : Tr l a m T) (hmb : m ≤ b) : Stands L (a + 1) m T.f1 (a : Int) := by
  intro j h1 h2
  have h3 := ht.lt
  obtain ⟨b', T', q, h6, h7⟩ := ht.find_some j h1 h2
  rw [h j (by omega) (by omega), findT_cons, if_neg (by omega), h6, ← h3.2.2, h6]
theorem Stands.tail {l : List S50} {L ks : List S142} {a m b : Nat} {T : S142} {par : Int} (h : Stands L a b (T :: ks) par) (ht : Tr l a m T) : Stands L m b ks par := by
  intro j h1 h2
  have h3 := ht.lt
  rw [h j (by omega) h2, findT_cons, if_neg (by omega), ht.find_none j (.inr h1)]
end Go.Proofs.Ytmhmmffhmdbclaa.PO
