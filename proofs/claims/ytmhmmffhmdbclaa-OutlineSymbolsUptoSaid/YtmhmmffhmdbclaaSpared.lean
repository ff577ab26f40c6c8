/- trellislaw22.spared, by hand: a list with two marked nodes behind it, and the list. -/
import Derived.Test.YtmhmmffhmdbclaaSN
namespace Go.Proofs.Ytmhmmffhmdbclaa.PO
open Go.RowKit Go.Proofs.YtmhmmffhmdbclaaW.PrintWords Go.Proofs.YtmhmmffhmdbclaaW.PrintLast Go.Proofs.YtmhmmffhmdbclaaW.PrintMore
set_option linter.unusedVariables false
set_option linter.unusedSimpArgs false
attribute [local go_sem high] eqA50
/-- The marked node. -/
def zm : S50 := ⟨⟨#[]⟩, false, ⟨#[]⟩, 0, 0, -77, 0⟩
theorem rd_app0 (l : List S50) (x y : S50) : rd_T50 (l ++ [x, y]) (l.length : Int) = x := by simp [rd_T50, List.getD_eq_getElem?_getD]
theorem rd_app1 (l : List S50) (x y : S50) : rd_T50 (l ++ [x, y]) ((l.length : Int) + 1) = y := by
  have : ((l.length : Int) + 1).toNat = l.length + 1 := by omega
  simp [rd_T50, this, List.getD_eq_getElem?_getD]
theorem zmf0 : (⟨#[]⟩ : ByteArray).toList = [] := by simp
set_option maxHeartbeats 1000000 in
set_option maxRecDepth 100000 in
theorem spared_calls (k : Nat) (A0 : Option Addr) (c0 : Nat) (l0 l1 : List S50) (A1 : Option Addr) (c1 : Nat) (w : World) (hl : l0 = l1 ++ [zm, zm]) (hr0 : Kd.C k50 w A0 l0.length l0) (hc0 : l0.length ≤ c0) (hr1 : Kd.C k50 w A1 l1.length l1) (hc1 : l1.length ≤ c1)
    (h : trellislaw22_sameNodes.f k l1 l1 = some true) :
    Calls Try.prog 14 #[.slice A0 l0.length c0, .slice A1 l1.length c1] w fun e w' => e = .returned (.bool true) ∧ Drawn0 w w' := by
  have hu50 := Try.underlying50
  have hlen : l0.length = l1.length + 2 := by rw [hl]; simp
  have hmax := Kd.C_max hr0
  have hT : l0.take l1.length = l1 := by rw [hl]; simp
  have e0 : rd_T50 l0 (l1.length : Int) = zm := by rw [hl, rd_app0]
  have e1 : rd_T50 l0 ((l1.length : Int) + 1) = zm := by rw [hl, rd_app1]
  obtain ⟨j, hj⟩ : ∃ j : Int, (l1.length : Int) + 1 = j := ⟨_, rfl⟩
  obtain ⟨ad, had, a0, a1, a2, a3, a4, a5, a6⟩ := at_T50 hr0 (l1.length : Int) (by omega) (by omega)
  obtain ⟨ad', had', b0, b1, b2, b3, b4, b5, b6⟩ := at_T50 hr0 j (by omega) (by omega)
  subst had
  obtain rfl : ad = ad' := by injection had'
  rw [e0] at a0 a1 a2 a3 a4 a5 a6
  rw [hj] at e1
  rw [e1] at b0 b1 b2 b3 b4 b5 b6
  unfold zm at a0 a1 a2 a3 a4 a5 a6 b0 b1 b2 b3 b4 b5 b6
  dsimp only at a0 a1 a2 a3 a4 a5 a6 b0 b1 b2 b3 b4 b5 b6
  have hg0 : decide (0 ≤ (l1.length : Int)) = true := by simp
  have hq0 : ((l1.length : Int) ≤ (l0.length : Int)) = True := eq_true (by omega)
  have hq1 : decide ((l1.length : Int) < (l0.length : Int)) = true := decide_eq_true (by omega)
  have hq2 : decide (j < (l0.length : Int)) = true := decide_eq_true (by omega)
  have hq3 : decide (0 ≤ j) = true := decide_eq_true (by omega)
  have hww : IntKind.i64.wrap ((l1.length : Int) + 1) = j := by rw [Go.IntWalk.i64_in _ (by omega)]; exact hj
  obtain ⟨i0, hi0, _, hsz, _⟩ := info_parts info50
  have hcut := cut_to (P := Try.prog) 26 50 .i64 Try.underlying26 hi0 (some ad) l0.length c0 (l1.length : Int) (by omega) (by omega) hc0
  have hr := Kd.C_take (m := l1.length) hr0 (by omega)
  rw [hT] at hr
  simp only [Int.toNat_natCast] at hcut
  have HR := Aside0.mk hr
  have HR1 := Aside0.mk hr1
  have HC1 := Aside0.mk (And.intro hc1 (show l1.length ≤ c0 by omega))
  have A5 := Aside0.mk h
  have HE := Aside0.mk (And.intro hlen (And.intro hT hmax))
  clear hr0 hc0 hr1 hc1 h hlen hmax hT e0 e1 hi0 hsz hr had' hj
  clear hl
  simp only [Go.IntWalk.toNatUp] at a0 a1 a2 a3 a4 a5 a6
  have hq4 : decide (l1.length < l0.length) = true := decide_eq_true (by have := HE.out.1; omega)
  clear hg0
  have hg0 : (0 ≤ (l1.length : Int)) = True := by simp
  have hq5 : (l1.length < l0.length) = True := eq_true (of_decide_eq_true hq4)
  have hq6 := eq_true (of_decide_eq_true hq2)
  have hq7 := eq_true (of_decide_eq_true hq3)
  have hq8 := eq_true (of_decide_eq_true hq1)
  clear hq1 hq2 hq3 hq4
  go_enter Try.func14, Try.ntmps14
  go_wp2_with fail
  refine (trellislaw22_sameNodes.calls k _ _ l1 _ _ l1 true _ HR.out HC1.out.2 HR1.out HC1.out.1 A5.out).mono ?_
  rintro e w' ⟨rfl, ⟨nd, rfl⟩⟩
  go_wp2_with fail
  go_ret
  exact ⟨by simp, by repeat (first | exact Drawn0.refl _ | apply Drawn0.step)⟩
end Go.Proofs.Ytmhmmffhmdbclaa.PO
