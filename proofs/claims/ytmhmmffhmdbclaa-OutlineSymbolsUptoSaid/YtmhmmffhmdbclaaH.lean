/-
Words of our own for walks: a region that draws its order, told by an invariant over what has come up; a new block under a letter; rows of whole numbers that are apart from one another.
-/
import Derived.Test.YtmhmmffhmdbclaaWMore
import Derived.Orders
namespace Go.Proofs.Ytmhmmffhmdbclaa.H
open Go.RowKit Go.Proofs.YtmhmmffhmdbclaaW.PrintWords Go.Proofs.YtmhmmffhmdbclaaW.PrintLast Go.Proofs.YtmhmmffhmdbclaaW.PrintMore
set_option linter.unusedVariables false
set_option linter.unusedSimpArgs false

/-- A new block under a letter of its own. -/
theorem alloc_letter {w : World} {cs : Array Value} {t : TypeId} {p : World → Prop}
    (h : ∀ W, Below w.heap.size w W → W.heap[w.heap.size]? = some (.cells cs t (0, 0)) → w.heap.size < W.heap.size → p W) : p (w.alloc (.cells cs t (0, 0))) :=
  h _ (below_alloc (Below.refl _ _) _) (blk_new w _) (by simp)

section
variable {P : Program} {ops : Array Oper} {Q : Exit → Act → World → Prop}
/-- What an operation leaves where the region goes on. -/
def Onto (I : Act → World → Prop) (Q : Exit → Act → World → Prop) : Exit → Act → World → Prop
  | .normal, a, w => I a w
  | e, a, w => Q e a w
theorem wpOp_of_onto {i : Nat} {o : Oper} {I : Act → World → Prop} {a : Act} {w : World} (hi : ops[i]? = some o) (h : wpList P ops (Onto I Q) [o] a w) : wpOp P ops Q i I a w := by
  unfold wpOp
  simp only [hi]
  unfold wpList at h
  split
  · rename_i hw
    rw [if_pos hw] at h
    rcases h with h | ⟨h, a0, w0, hl⟩
    · left
      unfold Oper.wp at *
      generalize (execOp a.eval o).run P w = r at *
      cases r with
      | ok n w' =>
        cases n <;> simp only [Oper.upon] at h ⊢
        case value v => exact h
        case skip => exact h
        case enter f args => exact Calls.mono h fun e w'' he => by cases e <;> exact he
        case row row args => exact Rows.mono h fun v w'' he => he
        case defer d => exact h
        all_goals exact h
      | halt x w' => cases x <;> simp only [Oper.upon] at h ⊢ <;> exact h
    · exact .inr ⟨h, a0, w0, hl⟩
  · rename_i hw
    rw [if_neg hw] at h
    exact h
theorem wpAny_inv (Inv : Array Bool → Act → World → Prop)
    (hstep : ∀ i o, ops[i]? = some o → ∀ L a w, L.size = ops.size → L.getD i true = false → (∀ e ∈ o.after, Region.binds .any e = true → L.getD e.on false = true) → Inv L a w → wpList P ops (Onto (Inv (L.setIfInBounds i true)) Q) [o] a w)
    (hend : ∀ L a w, L.size = ops.size → Region.ready .any ops L = [] → Inv L a w → Q .normal a w) :
    ∀ n L a w, L.size = ops.size → (L.toList.countP (fun b => !b)) ≤ n → Inv L a w → wpAny P .any ops Q n L a w := by
  intro n
  induction n with
  | zero =>
    intro L a w hs hc hI
    have hr : Region.ready .any ops L = [] := by
      apply List.eq_nil_iff_forall_not_mem.2
      intro j hj
      obtain ⟨h0, o, ho, _⟩ := mem_ready.1 hj
      have hlt : j < L.size := by rw [hs]; exact (Array.getElem?_eq_some_iff.1 ho).1
      have : 0 < L.toList.countP (fun b => !b) := List.countP_pos_iff.2 ⟨L[j], by simp, by simpa [Array.getD, hlt] using h0⟩
      omega
    exact ⟨hr, hend L a w hs hr hI⟩
  | succ n ih =>
    intro L a w hs hc hI
    refine ⟨fun hr => hend L a w hs hr hI, fun i hi => ?_⟩
    obtain ⟨h0, o, ho, hp⟩ := mem_ready.1 hi
    have hlt : i < L.size := by rw [hs]; exact (Array.getElem?_eq_some_iff.1 ho).1
    refine wpOp_mono (fun a' w' hI' => ih (L.setIfInBounds i true) a' w' (by simp [hs]) ?_ hI') (wpOp_of_onto ho (hstep i o ho L a w hs h0 hp hI))
    have hf : L[i] = false := by simpa [Array.getD, hlt] using h0
    have hl : i < L.toList.length := by simpa using hlt
    have e : L.toList.set i true = L.toList.take i ++ true :: L.toList.drop (i + 1) := by rw [List.set_eq_take_append_cons_drop, if_pos hl]
    have e2 : L.toList = L.toList.take i ++ L.toList[i] :: L.toList.drop (i + 1) := by
      conv => lhs; rw [← List.take_append_drop i L.toList, List.drop_eq_getElem_cons hl]
    have hf2 : L.toList[i] = false := by simpa using hf
    rw [hf2] at e2
    rw [e2] at hc
    simp only [Array.toList_setIfInBounds, e]
    simp only [List.countP_append, List.countP_cons, Bool.not_false, Bool.not_true, if_true] at hc ⊢
    simp at hc ⊢
    omega
theorem up_self {L : Array Bool} {i : Nat} (d : Bool) (h : i < L.size) : (L.setIfInBounds i true).getD i d = true := by simp [Array.getD, h]
theorem up_not {L : Array Bool} {i : Nat} (h : L.getD i true = false) : L.getD i false = false := by
  unfold Array.getD at *
  split at h
  · rename_i hl
    rw [dif_pos hl]; exact h
  · simp at h
/-- A region that draws its order, by an invariant over what has come up. -/
theorem wp_region_inv {id : Nat} {a : Act} {w : World} (hm : P.follows .mixedOrders = true) (Inv : Array Bool → Act → World → Prop)
    (h0 : Inv (Array.replicate ops.size false) a w.drew)
    (hstep : ∀ i o, ops[i]? = some o → ∀ L a w, L.size = ops.size → L.getD i true = false → (∀ e ∈ o.after, Region.binds .any e = true → L.getD e.on false = true) → Inv L a w → wpList P ops (Onto (Inv (L.setIfInBounds i true)) Q) [o] a w)
    (hend : ∀ L a w, L.size = ops.size → Region.ready .any ops L = [] → Inv L a w → Q .normal a w) : (Code.region id ops true).wp P Q a w :=
  wp_region_any hm (wpAny_inv Inv hstep hend _ _ _ _ (by simp) (by have := List.countP_le_length (p := fun b => !b) (l := (Array.replicate ops.size false).toList); simpa using this) h0)
/-- Nothing may come up: all has. -/
theorem all_up {L : Array Bool} (hs : L.size = ops.size) (hr : Region.ready .any ops L = []) (ht : ∀ (i : Nat) (o : Oper), ops[i]? = some o → ∀ e ∈ o.after, Region.binds .any e = true → e.on < i) : ∀ i, i < ops.size → L.getD i false = true := by
  intro i
  induction i using Nat.strongRecOn with
  | _ i ih =>
    intro hi
    cases h : L.getD i false with
    | true => rfl
    | false =>
      have hlt : i < L.size := by omega
      have : i ∈ Region.ready .any ops L := mem_ready.2 ⟨by simpa [Array.getD, hlt] using h, ops[i], by simp [hi], fun e he hbd => ih e.on (ht i _ (by simp [hi]) e he hbd) (by have := ht i _ (by simp [hi]) e he hbd; omega)⟩
      rw [hr] at this
      simp at this
end

/-- Each operation names elder ones alone. -/
def topo (ops : Array Oper) : Bool := (List.range ops.size).all fun i => ((ops[i]?).map (·.after.all fun e => !Region.binds .any e || decide (e.on < i))).getD true
theorem up_all {ops : Array Oper} {L : Array Bool} (hs : L.size = ops.size) (hr : Region.ready .any ops L = []) (ht : topo ops = true) : ∀ i, i < ops.size → L.getD i false = true := by
  refine all_up hs hr fun i o ho e he hbd => ?_
  have hi : i < ops.size := (Array.getElem?_eq_some_iff.1 ho).1
  have := List.all_eq_true.1 ht i (List.mem_range.2 hi)
  rw [ho] at this
  simp only [Option.map_some, Option.getD_some] at this
  have := Array.all_eq_true_iff_forall_mem.1 this e he
  simpa [hbd] using this
theorem grown_set (w : World) (g i : Nat) (v : Value) : w.grownBy (w.setCell ⟨g, i, none⟩ v) (some g) :=
  ⟨rfl, rfl, rfl, by simp [World.setCell], fun k hk hne => Below.heap_setCell w ⟨g, i, none⟩ v k (fun e => hne (by rw [e]))⟩
/-- A store into a block that is known whole, under a letter of its own. -/
theorem set_letter {w : World} {g i t : Nat} {cs cs' : Array Value} {v : Value} {p : World → Prop} (h : w.heap[g]? = some (.cells cs t (0, 0))) (e : cs.setIfInBounds i v = cs')
    (K : ∀ W, W.heap[g]? = some (.cells cs' t (0, 0)) → w.grownBy W (some g) → p W) : p (w.setCell ⟨g, i, none⟩ v) := K _ (blk_put h i v e) (grown_set w g i v)
theorem results_row1 {P : Program} {fn : Func} {p u : Tmp} {ty : TypeId} (h : fn.results = #[.cell p ty, .tmp u]) (tmps : Array Value) (w : World) (g : Nat) (t : TypeId) (cs : Array Value) (fr : Nat × Nat) (d : TypeDesc)
    (hp : tmps.getD p undef = .pointer (some ⟨g, 0, none⟩)) (hg : w.heap[g]? = some (.cells cs t fr))
    (hu : P.underlying ty = some d) (hd : (match d with | .struct _ | .array _ _ => true | _ => false) = true) (hi : (P.info? ty).map (·.size) = some cs.size) :
    (results fn tmps).run P w = .ok (.tuple #[.agg cs, tmps.getD u undef]) w := by
  have hp' : tmps[p]?.getD undef = .pointer (some ⟨g, 0, none⟩) := by simpa using hp
  simp [results, h, hp', asAddr, run_loadVar_row w g t ty cs fr d hg hu hd hi]
theorem results_row2 {P : Program} {fn : Func} {p u q : Tmp} {ty : TypeId} (h : fn.results = #[.cell p ty, .tmp u, .tmp q]) (tmps : Array Value) (w : World) (g : Nat) (t : TypeId) (cs : Array Value) (fr : Nat × Nat) (d : TypeDesc)
    (hp : tmps.getD p undef = .pointer (some ⟨g, 0, none⟩)) (hg : w.heap[g]? = some (.cells cs t fr))
    (hu : P.underlying ty = some d) (hd : (match d with | .struct _ | .array _ _ => true | _ => false) = true) (hi : (P.info? ty).map (·.size) = some cs.size) :
    (results fn tmps).run P w = .ok (.tuple #[.agg cs, tmps.getD u undef, tmps.getD q undef]) w := by
  have hp' : tmps[p]?.getD undef = .pointer (some ⟨g, 0, none⟩) := by simpa using hp
  simp [results, h, hp', asAddr, run_loadVar_row w g t ty cs fr d hg hu hd hi]
/-- A whole value stored, cell by cell. -/
def setN (w : World) (g : Nat) : Nat → List Value → World
  | _, [] => w
  | j, v :: vs => setN (w.setCell ⟨g, j, none⟩ v) g (j + 1) vs
theorem setN_grown (g : Nat) : ∀ (vs : List Value) (w : World) (j : Nat), w.grownBy (setN w g j vs) (some g)
  | [], w, j => ⟨rfl, rfl, rfl, Nat.le_refl _, fun _ _ _ => rfl⟩
  | v :: vs, w, j => World.grownBy.trans (grown_set w g j v) (setN_grown g vs _ _)
theorem setN_blk {g t : Nat} : ∀ (vs : List Value) (w : World) (j : Nat) (cs : Array Value), w.heap[g]? = some (.cells cs t (0, 0)) → j + vs.length = cs.size →
    (setN w g j vs).heap[g]? = some (.cells (cs.toList.take j ++ vs).toArray t (0, 0))
  | [], w, j, cs, h, hs => by
    simp only [List.length_nil, Nat.add_zero] at hs
    subst hs
    have : (List.take cs.size cs.toList ++ []).toArray = cs := by
      rw [List.append_nil, List.take_of_length_le (by simp)]
    rw [this]
    exact h
  | v :: vs, w, j, cs, h, hs => by
    simp only [List.length_cons] at hs
    have h1 := blk_put h j v rfl
    have h2 := setN_blk vs _ (j + 1) _ h1 (by simp; omega)
    have : ((cs.setIfInBounds j v).toList.take (j + 1) ++ vs) = cs.toList.take j ++ v :: vs := by
      have hj : j < cs.toList.length := by rw [Array.length_toList]; omega
      rw [Array.toList_setIfInBounds, List.set_eq_take_append_cons_drop, if_pos hj, show j + 1 = (cs.toList.take j).length + 1 from by rw [List.length_take, Nat.min_eq_left (by omega)], List.take_length_add_append]
      simp
    rw [this] at h2
    exact h2
/-- A whole block written over, under a letter of its own. -/
theorem setN_letter {w : World} {g t : Nat} {cs : Array Value} {p : World → Prop} (vs : List Value) (h : w.heap[g]? = some (.cells cs t (0, 0))) (hs : vs.length = cs.size)
    (K : ∀ W, W.heap[g]? = some (.cells vs.toArray t (0, 0)) → w.grownBy W (some g) → p W) : p (setN w g 0 vs) :=
  K _ (by have := setN_blk vs w 0 cs h (by omega); simpa using this) (setN_grown g vs w 0)
/-! ### Rows of whole numbers of the call's own, apart from one another -/
/-- Two values don't lie in one block. -/
def Off (u v : Value) : Prop := ∀ k, u.ownBlock = some k → v.ownBlock ≠ some k
theorem Off.symm {u v : Value} (h : Off u v) : Off v u := fun k hv hu => h k hu hv
structure Ints (w : World) (base : Nat) (L : List (Value × List Int)) : Prop where
  own : ∀ p ∈ L, w.ownsRow base 3 1 p.1 p.2.length (nums .i64 p.2)
  off : L.Pairwise fun p q => Off p.1 q.1
theorem Ints.moved {w w1 : World} {base : Nat} {L : List (Value × List Int)} (h : Ints w base L) (hb : Below w.heap.size w w1) : Ints w1 base L :=
  ⟨fun p hp => pw_own_below (h.own p hp) hb, h.off⟩
theorem Ints.grown {w w1 : World} {base : Nat} {L : List (Value × List Int)} (h : Ints w base L) {row : Option Nat} (hg : w.grownBy w1 row) (hr : ∀ p ∈ L, ∀ k, p.1.ownBlock = some k → row ≠ some k) : Ints w1 base L :=
  ⟨fun p hp => own_other (h.own p hp) hg (by cases e : p.1.ownBlock with
    | none => exact .inl rfl
    | some k => exact .inr fun he => hr p hp k e he.symm), h.off⟩
theorem Ints.lt {w : World} {base : Nat} {L : List (Value × List Int)} (h : Ints w base L) {p : Value × List Int} (hp : p ∈ L) : ∀ k, p.1.ownBlock = some k → base ≤ k ∧ k < w.heap.size := fun k hk => (h.own p hp).lt k hk
theorem Ints.nil (w : World) (base : Nat) : Ints w base [] := ⟨by simp, .nil⟩
theorem Ints.cons {w : World} {base : Nat} {L : List (Value × List Int)} {v : Value} {xs : List Int} (h : Ints w base L) (ho : w.ownsRow base 3 1 v xs.length (nums .i64 xs)) (hoff : ∀ p ∈ L, Off v p.1) : Ints w base ((v, xs) :: L) :=
  ⟨fun p hp => by rcases List.mem_cons.1 hp with rfl | hp; exact ho; exact h.own p hp, .cons hoff h.off⟩
theorem Ints.cons_nil {w : World} {base : Nat} {L : List (Value × List Int)} (h : Ints w base L) : Ints w base ((.slice none 0 0, []) :: L) :=
  h.cons (own_nil w base 3 1) fun p hp k hk => by simp [Value.ownBlock] at hk
theorem Ints.cons_made {w : World} {base : Nat} {L : List (Value × List Int)} (h : Ints w base L) (m : Nat) (hb : base ≤ w.heap.size) (hm : m ≤ 9223372036854775807) :
    Ints (w.alloc (.cells (madeCells #[.int .i64 0] m) 3)) base ((.slice (some ⟨w.heap.size, 0, none⟩) m m, List.replicate m 0) :: L) := by
  refine (h.moved (below_alloc (Below.refl _ _) _)).cons ?_ fun p hp k hk e => ?_
  · have := own_made w base 3 .i64 m hb hm
    simpa using this
  · have : k = w.heap.size := by simpa [Value.ownBlock] using hk.symm
    subst this
    have := (h.lt hp _ e).2
    omega
/-- One row among others. -/
theorem Ints.mid {w : World} {base : Nat} {L1 L2 : List (Value × List Int)} {v : Value} {xs : List Int} (h : Ints w base (L1 ++ (v, xs) :: L2)) :
    w.ownsRow base 3 1 v xs.length (nums .i64 xs) ∧ (∀ p ∈ L1, Off p.1 v) ∧ (∀ p ∈ L2, Off v p.1) := by
  refine ⟨h.own (v, xs) (by simp), ?_⟩
  have := List.pairwise_append.1 h.off
  exact ⟨fun p hp => this.2.2 p hp (v, xs) (by simp), fun p hp => (List.pairwise_cons.1 this.2.1).1 p hp⟩
theorem Ints.put_mid {w w1 : World} {base : Nat} {L1 L2 : List (Value × List Int)} {v v1 : Value} {xs xs1 : List Int} (h : Ints w base (L1 ++ (v, xs) :: L2))
    (ho : w1.ownsRow base 3 1 v1 xs1.length (nums .i64 xs1)) (hg : w.grownBy w1 v.ownBlock) (hat : v1.ownBlock = v.ownBlock ∨ ∃ b, v1.ownBlock = some b ∧ w.heap.size ≤ b) : Ints w1 base (L1 ++ (v1, xs1) :: L2) := by
  obtain ⟨hv, h1, h2⟩ := h.mid
  have hl : ∀ p ∈ L1 ++ (v, xs) :: L2, ∀ k, p.1.ownBlock = some k → k < w.heap.size := fun p hp k hk => (h.lt hp k hk).2
  have hoff : ∀ p, (p ∈ L1 ∨ p ∈ L2) → Off p.1 v1 := by
    intro p hp k hk he
    rcases hat with hat | ⟨b, hb, hge⟩
    · rw [hat] at he
      rcases hp with hp | hp
      · exact h1 p hp k hk he
      · exact h2 p hp k he hk
    · have := hl p (by rcases hp with hp | hp <;> simp [hp]) k hk
      rw [hb] at he
      injection he with he
      omega
  refine ⟨fun p hp => ?_, ?_⟩
  · rcases List.mem_append.1 hp with hp | hp
    · exact own_other (h.own p (by simp [hp])) hg (by cases e : p.1.ownBlock with
        | none => exact .inl rfl
        | some k => exact .inr fun he => h1 p hp k e he.symm)
    · rcases List.mem_cons.1 hp with rfl | hp
      · exact ho
      · exact own_other (h.own p (by simp [hp])) hg (by cases e : p.1.ownBlock with
          | none => exact .inl rfl
          | some k => exact .inr fun he => h2 p hp k he.symm e)
  · have hp := List.pairwise_append.1 h.off
    have hc := List.pairwise_cons.1 hp.2.1
    refine List.pairwise_append.2 ⟨hp.1, List.pairwise_cons.2 ⟨fun p hp' => (hoff p (.inr hp')).symm, hc.2⟩, fun p hp1 q hq => ?_⟩
    rcases List.mem_cons.1 hq with rfl | hq
    · exact hoff p (.inl hp1)
    · exact hp.2.2 p hp1 q (by simp [hq])
theorem Ints.store {w : World} {base g n cap : Nat} {L1 L2 : List (Value × List Int)} {xs : List Int} (h : Ints w base (L1 ++ (.slice (some ⟨g, 0, none⟩) n cap, xs) :: L2)) (hn : xs.length = n) (i : Nat) (x : Int) :
    Ints (w.setCell ⟨g, i, none⟩ (.int .i64 x)) base (L1 ++ (.slice (some ⟨g, 0, none⟩) n cap, xs.set i x) :: L2) ∧ w.grownBy (w.setCell ⟨g, i, none⟩ (.int .i64 x)) (some g) := by
  subst hn
  have hs := own_store h.mid.1 (i : Int) x
  exact ⟨h.put_mid (by simpa using hs.1) hs.2 (.inl rfl), hs.2⟩
theorem Ints.cell {w : World} {base g n cap : Nat} {L1 L2 : List (Value × List Int)} {xs : List Int} (h : Ints w base (L1 ++ (.slice (some ⟨g, 0, none⟩) n cap, xs) :: L2)) (hn : xs.length = n) (i : Nat) (hi : i < n) :
    w.cell? ⟨g, i, none⟩ = some (.int .i64 (xs.getD i 0)) ∧ w.frozen? ⟨g, i, none⟩ = false := by
  subst hn
  have := own_at h.mid.1 (i : Int) (by omega) (by omega)
  simpa [rd] using this
/-- What a change of a row of whole numbers leaves alone. -/
structure Step3 (w w1 : World) (base : Nat) : Prop where
  blk : ∀ {g t : Nat} {cs : Array Value}, w.heap[g]? = some (.cells cs t (0, 0)) → 3 ≠ t → w1.heap[g]? = some (.cells cs t (0, 0))
  below : ∀ {w0 : World}, Below base w0 w → base ≤ w.heap.size → Below base w0 w1
  size : w.heap.size ≤ w1.heap.size
theorem Step3.of_grown {w w1 : World} {base n : Nat} {v : Value} {xs : List Value} (h : w.ownsRow base 3 1 v n xs) (hg : w.grownBy w1 v.ownBlock) : Step3 w w1 base :=
  ⟨fun hb ht => blk_grown hb hg (own_ne h hb ht), fun hB hb => hB.grown hg hb (own_base h), hg.size⟩
theorem Ints.store_at {w : World} {base g n cap : Nat} {L1 L2 : List (Value × List Int)} {xs : List Int} {p : World → Prop} (h : Ints w base (L1 ++ (.slice (some ⟨g, 0, none⟩) n cap, xs) :: L2)) (hn : xs.length = n) (i : Nat) (x : Int)
    (K : ∀ W, Ints W base (L1 ++ (.slice (some ⟨g, 0, none⟩) n cap, xs.set i x) :: L2) → Step3 w W base → p W) : p (w.setCell ⟨g, i, none⟩ (.int .i64 x)) := by
  have hs := h.store hn i x
  exact K _ hs.1 (Step3.of_grown h.mid.1 hs.2)
theorem Step3.drew {w w1 : World} {base : Nat} (h : Step3 w w1 base) : Step3 w w1.drew base := ⟨fun a b => h.blk a b, fun a b => below_drew1 (h.below a b), h.size⟩
theorem Ints.drew {w : World} {base : Nat} {L : List (Value × List Int)} (h : Ints w base L) : Ints w.drew base L := ⟨h.own, h.off⟩
theorem Ints.store_drew_at {w : World} {base g n cap : Nat} {L1 L2 : List (Value × List Int)} {xs : List Int} {p : World → Prop} (h : Ints w base (L1 ++ (.slice (some ⟨g, 0, none⟩) n cap, xs) :: L2)) (hn : xs.length = n) (i : Nat) (x : Int)
    (K : ∀ W, Ints W base (L1 ++ (.slice (some ⟨g, 0, none⟩) n cap, xs.set i x) :: L2) → Step3 w W base → p W) : p (w.setCell ⟨g, i, none⟩ (.int .i64 x)).drew := by
  have hs := h.store hn i x
  exact K _ hs.1.drew (Step3.of_grown h.mid.1 hs.2).drew
theorem Ints.tail {w : World} {base : Nat} {p : Value × List Int} {L : List (Value × List Int)} (h : Ints w base (p :: L)) : Ints w base L := ⟨fun q hq => h.own q (by simp [hq]), (List.pairwise_cons.1 h.off).2⟩
theorem Ints.block1 {w : World} {base b : Nat} {y : Int} {L1 L2 : List (Value × List Int)} (h : Ints w base (L1 ++ (.slice (some ⟨b, 0, none⟩) 1 1, [y]) :: L2)) : w.heap[b]? = some (.cells #[.int .i64 y] 3 (0, 0)) := by
  rcases h.mid.1.2 with ⟨e, _⟩ | ⟨g, cap, cur, e, _, hh, _, _, hs, ht⟩
  · cases e
  · injection e with e1 _ e3
    injection e1 with e1
    injection e1 with e1
    subst e1 e3
    have : cur = #[.int .i64 y] := by
      apply Array.ext'
      have h1 : cur.toList.length = 1 := by simpa using hs
      rw [List.take_of_length_le (by omega)] at ht
      simpa [nums] using ht
    rw [hh, this]
theorem Ints.cons_one {w : World} {base : Nat} {L : List (Value × List Int)} (h : Ints w base L) (y : Int) (hb : base ≤ w.heap.size) :
    Ints (w.alloc (.cells #[.int .i64 y] 3)) base ((.slice (some ⟨w.heap.size, 0, none⟩) 1 1, [y]) :: L) := by
  refine (h.moved (below_alloc (Below.refl _ _) _)).cons ?_ fun p hp k hk e => ?_
  · have := own_lit w base 3 .i64 [y] hb (by simp)
    simpa [nums] using this
  · have : k = w.heap.size := by simpa [Value.ownBlock] using hk.symm
    subst this
    have := (h.lt hp _ e).2
    omega
theorem Ints.shift {w : World} {base : Nat} {x : Value × List Int} {L M : List (Value × List Int)} (h : Ints w base (L ++ x :: M)) : Ints w base ((L ++ [x]) ++ M) := by rw [List.append_assoc]; exact h
theorem Ints.unshift {w : World} {base : Nat} {x : Value × List Int} {L M : List (Value × List Int)} (h : Ints w base ((L ++ [x]) ++ M)) : Ints w base (L ++ x :: M) := by rw [List.append_assoc] at h; exact h
theorem Ints.behind {w : World} {base : Nat} {L M : List (Value × List Int)} (h : Ints w base (L ++ M)) : Ints w base M := ⟨fun q hq => h.own q (by simp [hq]), (List.pairwise_append.1 h.off).2.1⟩
theorem Ints.cap {w : World} {base n c : Nat} {A : Option Addr} {L1 L2 : List (Value × List Int)} {xs : List Int} (h : Ints w base (L1 ++ (.slice A n c, xs) :: L2)) (hn : xs.length = n) : n ≤ c := by
  subst hn
  rcases h.mid.1.2 with ⟨e, h0⟩ | ⟨g, cap, cur, e, _, _, hc, _⟩
  · omega
  · injection e with _ _ e3
    omega
theorem Ints.lower {w : World} {base base' : Nat} {L : List (Value × List Int)} (h : Ints w base L) (hb : base' ≤ base) : Ints w base' L :=
  ⟨fun p hp => by
    obtain ⟨h1, h2⟩ := h.own p hp
    refine ⟨h1, h2.imp id ?_⟩
    rintro ⟨g, cap, cur, e, hg, r⟩
    exact ⟨g, cap, cur, e, by omega, r⟩, h.off⟩
theorem Ints.take {w : World} {base n c m : Nat} {A : Option Addr} {L1 L2 : List (Value × List Int)} {xs : List Int} (h : Ints w base (L1 ++ (.slice A n c, xs) :: L2)) (hn : xs.length = n) (hm : m ≤ n) :
    Ints w base (L1 ++ (.slice A m c, xs.take m) :: L2) := by
  subst hn
  have ho := own_take h.mid.1 hm
  have e : (nums .i64 xs).take (m * 1) = nums .i64 (xs.take m) := by simp [nums, List.map_take]
  rw [e] at ho
  have hl : (xs.take m).length = m := by simp; omega
  exact h.put_mid (by rw [hl]; exact ho) ⟨rfl, rfl, rfl, Nat.le_refl _, fun _ _ _ => rfl⟩ (.inl (by cases A <;> rfl))
theorem Ints.form {w : World} {base : Nat} {L1 L2 : List (Value × List Int)} {v : Value} {xs : List Int} (h : Ints w base (L1 ++ (v, xs) :: L2)) (hp : 0 < xs.length) :
    ∃ g cap, v = .slice (some ⟨g, 0, none⟩) xs.length cap ∧ base ≤ g ∧ g < w.heap.size := by
  obtain ⟨g, cap, e, h1, h2⟩ := h.mid.1.form hp
  exact ⟨g, cap, e, h1, h2⟩
theorem Ints.shape {w : World} {base : Nat} {L1 L2 : List (Value × List Int)} {v : Value} {xs : List Int} (h : Ints w base (L1 ++ (v, xs) :: L2)) : ∃ A cap, v = .slice A xs.length cap ∧ xs.length ≤ cap := by
  rcases h.mid.1.2 with ⟨rfl, h0⟩ | ⟨g, cap, cur, rfl, _, _, hc, _⟩
  · exact ⟨none, 0, by rw [h0], by omega⟩
  · exact ⟨_, cap, rfl, hc⟩
theorem Ints.swap {w : World} {base : Nat} {p q : Value × List Int} {L : List (Value × List Int)} (h : Ints w base (p :: q :: L)) : Ints w base (q :: p :: L) := by
  have h1 := List.pairwise_cons.1 h.off
  have h2 := List.pairwise_cons.1 h1.2
  exact ⟨fun r hr => h.own r (by simp at hr ⊢; rcases hr with h | h | h <;> simp [h]), .cons (fun r hr => by
    rcases List.mem_cons.1 hr with rfl | hr
    · exact (h1.1 q (by simp)).symm
    · exact h2.1 r hr) (.cons (fun r hr => h1.1 r (by simp [hr])) h2.2)⟩
/-- No row lies in a block of another type. -/
theorem Ints.ne {w : World} {base g t : Nat} {cs : Array Value} {L : List (Value × List Int)} (h : Ints w base L) (hb : w.heap[g]? = some (.cells cs t (0, 0))) (ht : 3 ≠ t) : ∀ p ∈ L, ∀ k, p.1.ownBlock = some k → (some g : Option Nat) ≠ some k := by
  intro p hp k hk e
  have := own_ne (h.own p hp) hb ht
  rw [hk] at this
  exact this e
theorem Ints.sets {w : World} {base g t : Nat} {cs : Array Value} {L : List (Value × List Int)} (h : Ints w base L) (hb : w.heap[g]? = some (.cells cs t (0, 0))) (ht : 3 ≠ t) (j : Nat) (u : Value) : Ints (w.setCell ⟨g, j, none⟩ u) base L :=
  h.grown (grown_set _ _ _ _) (h.ne hb ht)
section
variable {P : Program} {ops : Array Oper} {rest : List Oper} {o : Oper} {a : Act} {Q : Exit → Act → World → Prop}
theorem Ints.append {W : World} {base : Nat} {L1 L2 : List (Value × List Int)} {v : Value} {xs : List Int} (hgd : o.guard = none) (s x : Operand) (t : TypeId)
    (ho : o.op = .call { callee := .builtin .append, args := #[s, x], argTypes := #[t, t] }) (ht : P.underlying t = some (.slice 3))
    (hinfo : (P.info? 3).map (fun i => (i.zero, i.size, i.bytes)) = some (some (.int .i64 0), 1, 8)) (b : Nat) (y : Int) (hs : a.eval s = v) (hx : a.eval x = .slice (some ⟨b, 0, none⟩) 1 1)
    (hb : W.heap[b]? = some (.cells #[.int .i64 y] 3 (0, 0))) (h : Ints W base (L1 ++ (v, xs) :: L2)) (hbase : base ≤ W.heap.size) (hl : xs.length < 17592186044416)
    (K : ∀ v1 w1, Ints w1 base (L1 ++ (v1, xs ++ [y]) :: L2) → Step3 W w1 base → wpList P ops Q rest (a.put o.dst v1) w1) : wpList P ops Q (o :: rest) a W := by
  obtain ⟨i0, hi, hzz⟩ := Option.map_eq_some_iff.1 hinfo
  simp only [Prod.mk.injEq] at hzz
  obtain ⟨hz0, hz1, hz2⟩ := hzz
  refine wpList_append_own_at W hgd s x t ho base 3 i0 (.int .i64 0) 1 8 ht hi hz0 hz1 hz2 rfl (by omega) v xs.length (nums .i64 xs) hs h.mid.1 ⟨b, 0, none⟩ 1 1 [.int .i64 y] hx rfl
    (World.news_of_block (cs := #[.int .i64 y]) hb) (by simp [Value.oneCell']) (by simp only [maxLen]; omega) (by omega) hbase ?_
  intro v1 w1 hown hg _ hat
  refine K v1 w1 (h.put_mid (by simpa [nums] using hown) hg ?_) (Step3.of_grown h.mid.1 hg)
  rcases hat with hat | hat
  · exact .inl hat
  · exact .inr ⟨_, hat, Nat.le_refl _⟩
end
end Go.Proofs.Ytmhmmffhmdbclaa.H
