/- What came in, opened: a slice of strings, of structs of two strings, of nodes; and what the bound gives. -/
import Derived.Test.YtmhmmffhmdbclaaRows
import Derived.Test.YtmhmmffhmdbclaaPOx0
import Derived.Test.YtmhmmffhmdbclaaOwn50
import Derived.WalkKit
import Derived.ProofKit
import Derived.OpenShut
import Derived.ShutString
import Derived.ChangeOld
import Derived.Below
import Derived.SliceStrings
import Derived.Deep.Slices
import Derived.Lib.SmallJoins
namespace Go.Proofs.Ytmhmmffhmdbclaa.PO
open Go.RowKit Go.ChangeShapes Go.WideShapes Go.ChangeAt Go.Deep Go.Joins Go.Proofs.YtmhmmffhmdbclaaW.PrintWords Go.Proofs.YtmhmmffhmdbclaaW.PrintLast Go.Proofs.YtmhmmffhmdbclaaW.PrintMore
set_option linter.unusedVariables false
set_option linter.unusedSimpArgs false
theorem cellsOf3 : Try.prog.cellsOf 3 = 1 := by kernel_rfl
theorem cellsOf4 : Try.prog.cellsOf 4 = 1 := by kernel_rfl
theorem cellsOf9 : Try.prog.cellsOf 9 = 1 := by kernel_rfl
theorem cellsOf25 : Try.prog.cellsOf 25 = 2 := by kernel_rfl
theorem cellsOf50 : Try.prog.cellsOf 50 = 7 := by kernel_rfl
theorem cellsOf128 : Try.prog.cellsOf 128 = 2 := by kernel_rfl
section
variable {H : Type} {enc : TypeId × Value → H} {w : World} {base : Nat} {spare : Nat → Bool} {held : Bool}
/-- A row of elements, out of the reading of each. -/
theorem C_of_cells {α : Type} {d : Kd α} {a : Addr} {len : Nat} (f : Nat → α) (cells : α → List Value) (hlen : ∀ x, (cells x).length = d.sz) (hK : ∀ x, d.K w x (cells x)) (hm : len ≤ 9223372036854775807)
    (h : ∀ i, i < len → w.cells? base (a.add (i * d.sz)) d.sz = some (cells (f i))) : Kd.C d w (some a) ((List.range len).map f).length ((List.range len).map f) := by
  have hl : ((List.range len).map f).length = len := by simp
  rw [hl]
  refine ⟨hl, hm, fun _ => ⟨a, rfl, fun j p hj => ?_⟩⟩
  have hj' : j < len := by
    have := (List.getElem?_eq_some_iff.1 hj).1
    omega
  have hp : f j = p := by simpa [List.getElem?_map, List.getElem?_range hj'] using hj
  subst hp
  refine ⟨cells (f j), hlen _, hK _, fun i u hu => ?_⟩
  obtain ⟨_, hln, hc⟩ := World.cells?_some (h j hj')
  have hi := (List.getElem?_eq_some_iff.1 hu).1
  have := hc i (by omega)
  rw [_root_.Go.Deep.add_add] at this
  exact this.trans hu
set_option maxRecDepth 100000 in
theorem open_node {n : Nat} {cs : List Value} {x : DataW H × List MemPlace} (h : DataW.trod enc Try.prog w base spare held n 50 cs = some x) : ∃ s : S50, cs = cells50 s ∧ s.f5 ≤ 9223372036854775807 := by
  obtain ⟨xs, m, _, _, hl, hlen, hf⟩ := DataW.trod_struct Try.underlying50 h
  rw [cellsOf50] at hl
  have hlen' : xs.length = 7 := hlen
  clear hlen
  match cs, hl, xs, hlen' with
  | [c0, c1, c2, c3, c4, c5, c6], _, [y0, y1, y2, y3, y4, y5, y6], _ =>
    have h0 : DataW.trod enc Try.prog w base spare held m 9 [c0] = some y0 := by
      have h := hf 0 _ rfl
      change DataW.trod enc Try.prog w base spare held m 9 (([c0, c1, c2, c3, c4, c5, c6].drop 0).take (Try.prog.cellsOf 9)) = some y0 at h
      rw [cellsOf9] at h
      exact h
    have h1 : DataW.trod enc Try.prog w base spare held m 4 [c1] = some y1 := by
      have h := hf 1 _ rfl
      change DataW.trod enc Try.prog w base spare held m 4 (([c0, c1, c2, c3, c4, c5, c6].drop 1).take (Try.prog.cellsOf 4)) = some y1 at h
      rw [cellsOf4] at h
      exact h
    have h2 : DataW.trod enc Try.prog w base spare held m 9 [c2] = some y2 := by
      have h := hf 2 _ rfl
      change DataW.trod enc Try.prog w base spare held m 9 (([c0, c1, c2, c3, c4, c5, c6].drop 2).take (Try.prog.cellsOf 9)) = some y2 at h
      rw [cellsOf9] at h
      exact h
    have h3 : DataW.trod enc Try.prog w base spare held m 3 [c3] = some y3 := by
      have h := hf 3 _ rfl
      change DataW.trod enc Try.prog w base spare held m 3 (([c0, c1, c2, c3, c4, c5, c6].drop 3).take (Try.prog.cellsOf 3)) = some y3 at h
      rw [cellsOf3] at h
      exact h
    have h4 : DataW.trod enc Try.prog w base spare held m 3 [c4] = some y4 := by
      have h := hf 4 _ rfl
      change DataW.trod enc Try.prog w base spare held m 3 (([c0, c1, c2, c3, c4, c5, c6].drop 4).take (Try.prog.cellsOf 3)) = some y4 at h
      rw [cellsOf3] at h
      exact h
    have h5 : DataW.trod enc Try.prog w base spare held m 3 [c5] = some y5 := by
      have h := hf 5 _ rfl
      change DataW.trod enc Try.prog w base spare held m 3 (([c0, c1, c2, c3, c4, c5, c6].drop 5).take (Try.prog.cellsOf 3)) = some y5 at h
      rw [cellsOf3] at h
      exact h
    have h6 : DataW.trod enc Try.prog w base spare held m 3 [c6] = some y6 := by
      have h := hf 6 _ rfl
      change DataW.trod enc Try.prog w base spare held m 3 (([c0, c1, c2, c3, c4, c5, c6].drop 6).take (Try.prog.cellsOf 3)) = some y6 at h
      rw [cellsOf3] at h
      exact h
    obtain ⟨a0, e0, _⟩ := DataW.trod_string Try.underlying9 h0
    obtain ⟨a1, e1, _⟩ := DataW.trod_bool Try.underlying4 h1
    obtain ⟨a2, e2, _⟩ := DataW.trod_string Try.underlying9 h2
    obtain ⟨a3, e3, _⟩ := DataW.trod_int Try.underlying3 h3
    obtain ⟨a4, e4, _⟩ := DataW.trod_int Try.underlying3 h4
    obtain ⟨a5, e5, _, w5⟩ := DataW.trod_int Try.underlying3 h5
    obtain ⟨a6, e6, _⟩ := DataW.trod_int Try.underlying3 h6
    injection e0 with e0
    injection e1 with e1
    injection e2 with e2
    injection e3 with e3
    injection e4 with e4
    injection e5 with e5
    injection e6 with e6
    subst e0 e1 e2 e3 e4 e5 e6
    exact ⟨⟨a0, a1, a2, a3, a4, a5, a6⟩, rfl, (in64_of_wf w5).2⟩
def cells128 (x : S128) : List Value := [.string x.f0, .string x.f1]
set_option maxRecDepth 100000 in
theorem open_mark {n : Nat} {cs : List Value} {x : DataW H × List MemPlace} (h : DataW.trod enc Try.prog w base spare held n 128 cs = some x) : ∃ s : S128, cs = cells128 s := by
  obtain ⟨xs, m, _, _, hl, hlen, hf⟩ := DataW.trod_struct Try.underlying128 h
  rw [cellsOf128] at hl
  have hlen' : xs.length = 2 := hlen
  clear hlen
  match cs, hl, xs, hlen' with
  | [c0, c1], _, [y0, y1], _ =>
    have h0 : DataW.trod enc Try.prog w base spare held m 9 [c0] = some y0 := by
      have h := hf 0 _ rfl
      change DataW.trod enc Try.prog w base spare held m 9 (([c0, c1].drop 0).take (Try.prog.cellsOf 9)) = some y0 at h
      rw [cellsOf9] at h
      exact h
    have h1 : DataW.trod enc Try.prog w base spare held m 9 [c1] = some y1 := by
      have h := hf 1 _ rfl
      change DataW.trod enc Try.prog w base spare held m 9 (([c0, c1].drop 1).take (Try.prog.cellsOf 9)) = some y1 at h
      rw [cellsOf9] at h
      exact h
    obtain ⟨a0, e0, _⟩ := DataW.trod_string Try.underlying9 h0
    obtain ⟨a1, e1, _⟩ := DataW.trod_string Try.underlying9 h1
    injection e0 with e0
    injection e1 with e1
    subst e0 e1
    exact ⟨⟨a0, a1⟩, rfl⟩
instance : Inhabited S50 := ⟨z50⟩
instance : Inhabited S128 := ⟨z128⟩
theorem C_none {α : Type} (d : Kd α) (w : World) : Kd.C d w none ([] : List α).length ([] : List α) := ⟨rfl, by simp, fun h => by simp at h⟩
/-- How many values a slice's datum has. -/
def dlen : DataW H → Nat
  | .slice elems _ => elems.length
  | _ => 0
/-- A slice of nodes that came in. -/
theorem open_nodes {n : Nat} {cs : List Value} {x : DataW H × List MemPlace} (h : DataW.trod enc Try.prog w base spare held n 26 cs = some x) :
    ∃ (A : Option Addr) (c : Nat) (l : List S50), cs = [.slice A l.length c] ∧ l.length ≤ c ∧ Kd.C k50 w A l.length l ∧ (∀ s ∈ l, s.f5 ≤ 9223372036854775807) ∧ l.length = dlen x.1 := by
  rcases open_slice Try.underlying26 h with ⟨rfl, rfl⟩ | ⟨a, len, cap, m, k, D, Pl, rfl, hb, hl, hm, hmm, rfl, hx⟩
  · exact ⟨none, 0, [], rfl, Nat.le_refl _, C_none _ _, by simp, rfl⟩
  · have hlm : len ≤ m := by rw [hmm]; split <;> omega
    obtain ⟨f, hf⟩ := choose_lt (α := S50) (n := len) (p := fun i s => w.cells? base (a.add (i * 7)) 7 = some (cells50 s) ∧ s.f5 ≤ 9223372036854775807) (fun i hi => by
      obtain ⟨cs', h1, h2⟩ := hx i (by omega)
      obtain ⟨s, rfl, h5⟩ := open_node h2
      rw [cellsOf50] at h1
      exact ⟨s, h1, h5⟩)
    refine ⟨some a, cap, (List.range len).map f, by simp, by simpa using hl, C_of_cells f cells50 (fun _ => rfl) (fun x => k50_mk w x) (Nat.le_trans hl (Nat.le_trans hm (by simp [maxLen]))) (fun i hi => (hf i hi).1), ?_, by simp [dlen]⟩
    intro s hs
    obtain ⟨i, hi, rfl⟩ := List.mem_map.1 hs
    exact (hf i (List.mem_range.1 hi)).2
theorem open_marks {n : Nat} {cs : List Value} {x : DataW H × List MemPlace} (h : DataW.trod enc Try.prog w base spare held n 23 cs = some x) :
    ∃ (A : Option Addr) (c : Nat) (l : List S128), cs = [.slice A l.length c] ∧ l.length ≤ c ∧ Kd.C k128 w A l.length l ∧ l.length = dlen x.1 := by
  rcases open_slice Try.underlying23 h with ⟨rfl, rfl⟩ | ⟨a, len, cap, m, k, D, Pl, rfl, hb, hl, hm, hmm, rfl, hx⟩
  · exact ⟨none, 0, [], rfl, Nat.le_refl _, C_none _ _, rfl⟩
  · have hlm : len ≤ m := by rw [hmm]; split <;> omega
    obtain ⟨f, hf⟩ := choose_lt (α := S128) (n := len) (p := fun i s => w.cells? base (a.add (i * 2)) 2 = some (cells128 s)) (fun i hi => by
      obtain ⟨cs', h1, h2⟩ := hx i (by omega)
      obtain ⟨s, rfl⟩ := open_mark h2
      rw [cellsOf128] at h1
      exact ⟨s, h1⟩)
    exact ⟨some a, cap, (List.range len).map f, by simp, by simpa using hl, C_of_cells f cells128 (fun _ => rfl) (fun x => k128_mk w x) (Nat.le_trans hl (Nat.le_trans hm (by simp [maxLen]))) (fun i hi => hf i hi), by simp [dlen]⟩
theorem open_strs {n : Nat} {cs : List Value} {x : DataW H × List MemPlace} (h : DataW.trod enc Try.prog w base spare held n 22 cs = some x) :
    ∃ (A : Option Addr) (c : Nat) (l : List ByteArray), cs = [.slice A l.length c] ∧ l.length ≤ c ∧ Kd.C Kd.string w A l.length l ∧ l.length = dlen x.1 := by
  rcases open_slice Try.underlying22 h with ⟨rfl, rfl⟩ | ⟨a, len, cap, m, k, D, Pl, rfl, hb, hl, hm, hmm, rfl, hx⟩
  · exact ⟨none, 0, [], rfl, Nat.le_refl _, C_none _ _, rfl⟩
  · have hlm : len ≤ m := by rw [hmm]; split <;> omega
    obtain ⟨f, hf⟩ := choose_lt (α := ByteArray) (n := len) (p := fun i s => w.cells? base (a.add (i * 1)) 1 = some [.string s]) (fun i hi => by
      obtain ⟨cs', h1, h2⟩ := hx i (by omega)
      obtain ⟨s, rfl, _⟩ := DataW.trod_string Try.underlying9 h2
      rw [cellsOf9] at h1
      exact ⟨s, h1⟩)
    exact ⟨some a, cap, (List.range len).map f, by simp, by simpa using hl, C_of_cells (d := Kd.string) f (fun s => [.string s]) (fun _ => rfl) (fun x => rfl) (Nat.le_trans hl (Nat.le_trans hm (by simp [maxLen]))) (fun i hi => hf i hi), by simp [dlen]⟩

/-! ### the bound -/
theorem bulk_one (d : DataW H) : 1 ≤ Rows.uptoBulk d := by
  cases d with
  | lit l => cases l <;> simp [Rows.uptoBulk]
  | nil => simp [Rows.uptoBulk]
  | ptr d => simp [Rows.uptoBulk]
  | slice elems spare => simp [Rows.uptoBulk]
  | agg parts => simp [Rows.uptoBulk]
  | iface t d => simp [Rows.uptoBulk]
  | map entries => simp [Rows.uptoBulk]
  | held h => simp [Rows.uptoBulk]
theorem bulk_len (l : List (DataW H)) : l.length ≤ Rows.uptoBulkAll l := by
  induction l with
  | nil => simp [Rows.uptoBulkAll]
  | cons x r ih => have := bulk_one x; simp only [Rows.uptoBulkAll, List.length_cons]; omega
theorem bulk_dlen (d : DataW H) : dlen d ≤ Rows.uptoBulk d := by
  cases d with
  | slice elems spare =>
    have := bulk_len elems
    simp only [dlen, Rows.uptoBulk]
    omega
  | _ => simp [dlen]
theorem bulk_bound {l : List (DataW H)} (hk : Rows.uptoSmall H l = true) : Rows.uptoBulkAll l ≤ 1048576 := of_decide_eq_true hk
end
end Go.Proofs.Ytmhmmffhmdbclaa.PO
