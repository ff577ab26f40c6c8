/- tree.Roots, Size and Kids in the form in which the printed texts ask for a call. -/
import Derived.Test.YtmhmmffhmdbclaaTreeF
namespace Go.Proofs.Ytmhmmffhmdbclaa.PO
open Go.RowKit Go.Proofs.YtmhmmffhmdbclaaW.PrintWords Go.Proofs.YtmhmmffhmdbclaaW.PrintLast Go.Proofs.YtmhmmffhmdbclaaW.PrintMore H Pl
set_option linter.unusedVariables false
theorem Ints.toR {w : World} {base : Nat} {v : Value} {xs : List Int} (h : Ints w base [(v, xs)]) : Kd.R (Kd.int .i64) 3 w base (fun _ => True) v xs :=
  Kd.R_of_own (h.mid (L1 := [])).1 (fun _ _ => trivial)
def tree_Roots.f (l0 : List S50) : Option Int := if okN l0 = true then some (countK l0) else none
theorem tree_Roots.calls (A0 : Option Addr) (c0 : Nat) (l0 : List S50) (r : Int) (w : World) (hr0 : Kd.C k50 w A0 l0.length l0) (hc0 : l0.length ≤ c0) (h : tree_Roots.f l0 = some r) :
    Calls Try.prog 57 #[.slice A0 l0.length c0] w fun e w' => e = .returned (.int .i64 r) ∧ Below w.heap.size w w' := by
  unfold tree_Roots.f at h
  split at h
  · rename_i ho
    obtain rfl := Option.some.inj h
    exact Roots_calls A0 c0 l0 w hr0 hc0 ho
  · cases h
def tree_Size.f (l0 : List S50) (a1 : Int) : Option Int := if okN l0 = true then some (sizeK l0 a1) else none
theorem tree_Size.calls (A0 : Option Addr) (c0 : Nat) (l0 : List S50) (a1 : Int) (r : Int) (w : World) (hr0 : Kd.C k50 w A0 l0.length l0) (hc0 : l0.length ≤ c0) (h : tree_Size.f l0 a1 = some r) :
    Calls Try.prog 33 #[.slice A0 l0.length c0, .int .i64 a1] w fun e w' => e = .returned (.int .i64 r) ∧ Below w.heap.size w w' := by
  unfold tree_Size.f at h
  split at h
  · rename_i ho
    obtain rfl := Option.some.inj h
    exact Size_calls A0 c0 l0 a1 w hr0 hc0 ho
  · cases h
def tree_Kids.f (l0 : List S50) (a1 : Int) : Option (List Int) := if okN l0 = true then some (kidsK l0 a1) else none
theorem tree_Kids.calls (A0 : Option Addr) (c0 : Nat) (l0 : List S50) (a1 : Int) (r : List Int) (w : World) (hr0 : Kd.C k50 w A0 l0.length l0) (hc0 : l0.length ≤ c0) (h : tree_Kids.f l0 a1 = some r) :
    Calls Try.prog 79 #[.slice A0 l0.length c0, .int .i64 a1] w fun e w' => ∃ v0_ : Value, e = .returned (v0_) ∧ Kd.R (Kd.int .i64) 3 w' w.heap.size (fun _ => True) v0_ r ∧ Below w.heap.size w w' := by
  unfold tree_Kids.f at h
  split at h
  · rename_i ho
    obtain rfl := Option.some.inj h
    refine (Kids_calls A0 c0 l0 a1 w hr0 hc0 ho).mono ?_
    rintro e w' ⟨v, he, hi, hb⟩
    exact ⟨v, he, Ints.toR hi, hb⟩
  · cases h
end Go.Proofs.Ytmhmmffhmdbclaa.PO
