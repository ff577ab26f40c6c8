/- trellisref15.Kids and Parent, out of Forest and find. -/
import Derived.Test.YtmhmmffhmdbclaaFindA
namespace Go.Proofs.Ytmhmmffhmdbclaa.PO
open Go.RowKit Go.Proofs.YtmhmmffhmdbclaaW.PrintWords Go.Proofs.YtmhmmffhmdbclaaW.PrintLast Go.Proofs.YtmhmmffhmdbclaaW.PrintMore H Pl
set_option linter.unusedVariables false
set_option linter.unusedSimpArgs false
set_option maxHeartbeats 400000 in
set_option maxRecDepth 100000 in
theorem Parent15_calls (k : Nat) (A : Option Addr) (c : Nat) (l : List S50) (a : Int) (r1 : List S142) (r2 : Bool) (w : World) (hr : Kd.C k50 w A l.length l) (hc : l.length ≤ c) (hf : trellisref15_Forest.f k l = some (r1, r2)) :
    Calls Try.prog 36 #[.slice A l.length c, .int .i64 a] w fun e w' => e = .returned (.int .i64 (parT (findT a r1 (-1)))) ∧ Below w.heap.size w w' := by
  have hu142 := Try.underlying142
  have HR := Aside0.mk hr
  have HC := Aside0.mk hc
  have HF := Aside0.mk hf
  clear hr hc hf
  go_enter Try.func36, Try.ntmps36
  go_wp2_with fail
  refine (trellisref15_Forest.calls k A c l r1 r2 _ HR.out HC.out HF.out).mono ?_
  rintro x w1 ⟨v0, rfl, hR, hb⟩
  obtain ⟨Af, cf, rfl⟩ := Kd.R_slice hR
  obtain ⟨_, hcf, hC⟩ := Kd.R_reads' hR
  have H1 := Aside0.mk (And.intro hb (And.intro hC hcf))
  clear hR hb hC hcf
  go_wp2_with fail
  refine (find_calls _ Af cf r1 a (-1) w1 w1 rfl (Below.refl _ _) H1.out.2.1 H1.out.2.2).mono ?_
  rintro x w2 ⟨A9, c9, rfl, h9, hC9, hb9⟩
  unfold treeV
  have H2 := Aside0.mk (And.intro (below_step H1.out.1 hb9) (And.intro (Kd.C_below hC9 hb9) h9))
  clear hb9 hC9 h9
  go_upto_region 3 with (fail)
  refine alloc_letter ?_
  intro W hb hblk hsz
  have HB := Aside0.mk (below_step H2.out.1 hb)
  clear hb hblk
  go_wp2_with fail
  go_ret
  exact ⟨rfl, HB.out⟩
set_option maxHeartbeats 400000 in
set_option maxRecDepth 100000 in
theorem Kids15_calls (k : Nat) (A : Option Addr) (c : Nat) (l : List S50) (a : Int) (r1 : List S142) (r2 : Bool) (w : World) (hr : Kd.C k50 w A l.length l) (hc : l.length ≤ c) (hf : trellisref15_Forest.f k l = some (r1, r2)) (hlen : (oneT (findT a r1 (-1))).f1.length < 17592186044416) :
    Calls Try.prog 65 #[.slice A l.length c, .int .i64 a] w fun e w' => ∃ v, e = .returned v ∧ Ints w' w.heap.size [(v, (oneT (findT a r1 (-1))).f1.map (·.f2))] ∧ Below w.heap.size w w' := by
  have HLN := Aside0.mk hlen
  clear hlen
  have hu142 := Try.underlying142
  have HR := Aside0.mk hr
  have HC := Aside0.mk hc
  have HF := Aside0.mk hf
  clear hr hc hf
  go_enter Try.func65, Try.ntmps65
  go_wp2_with fail
  refine (trellisref15_Forest.calls k A c l r1 r2 _ HR.out HC.out HF.out).mono ?_
  rintro x w1 ⟨v0, rfl, hR, hb⟩
  obtain ⟨Af, cf, rfl⟩ := Kd.R_slice hR
  obtain ⟨_, hcf, hC⟩ := Kd.R_reads' hR
  have H1 := Aside0.mk (And.intro hb (And.intro hC hcf))
  clear hR hb hC hcf
  go_wp2_with fail
  refine (find_calls _ Af cf r1 a (-1) w1 w1 rfl (Below.refl _ _) H1.out.2.1 H1.out.2.2).mono ?_
  rintro x w2 ⟨A9, c9, rfl, h9, hC9, hb9⟩
  unfold treeV
  have H2 := Aside0.mk (And.intro (below_step H1.out.1 hb9) (And.intro (Kd.C_below hC9 hb9) h9))
  clear hb9 hC9 h9
  go_upto_region 3 with (fail)
  refine alloc_letter ?_
  intro W hb hblk hsz
  have H3 := Aside0.mk (And.intro (below_step H2.out.1 hb) (And.intro (Kd.C_below H2.out.2.1 hb) hblk))
  clear hb hblk
  have HM := Aside0.mk (Kd.C_max H3.out.2.1)
  generalize ho : oneT (findT a r1 (-1)) = o at *
  have HO := Aside0.mk ho
  clear ho
  go_wp2_with fail
  go_loopg [10, 11] o.f1.length (fun q v10 v11 W' => ∃ i : Nat, q = o.f1.length - i ∧ i ≤ o.f1.length ∧ v11 = .int .i64 i ∧ Aside0 (Ints W' W.heap.size [(v10, (o.f1.take i).map (·.f2))]) ∧
    Aside0 (Below W.heap.size W W' ∧ W'.heap[w2.heap.size]? = some (.cells #[.string o.f0.f0, .bool o.f0.f1, .string o.f0.f2, .int .i64 o.f0.f3, .int .i64 o.f0.f4, .int .i64 o.f0.f5, .int .i64 o.f0.f6, .slice A9 o.f1.length c9, .int .i64 o.f2] 142 (0, 0))))
  case atStart => exact ⟨0, rfl, Nat.zero_le _, rfl, ⟨by simpa using (Ints.nil _ _).cons_nil⟩, ⟨Below.refl _ _, H3.out.2.2⟩⟩
  case round =>
    obtain ⟨i, rfl, hi, rfl, HI, HG⟩ := hrel
    have hm := HM.out
    have t7 : wr.cell? ⟨w2.heap.size, 7, none⟩ = some (.slice A9 o.f1.length c9) := (blk_cell HG.out.2 7).trans rfl
    by_cases hlt : i < o.f1.length
    · have hz : W.heap.size ≤ wr.heap.size := below_size HG.out.1
      obtain ⟨ad, A7, c7, had, q0, q1, q2, q3, q4, q5, q6, q7, q8, hl7, hC7⟩ := at_T142 (Kd.C_below H3.out.2.1 HG.out.1) (i : Int) (by omega) (by omega)
      subst had
      simp only [Int.toNat_natCast] at q8
      clear q0 q1 q2 q3 q4 q5 q6 q7 hl7 hC7
      have HOL := Aside0.mk (show ((o.f1.take i).map (·.f2)).length < 17592186044416 by have := HLN.out; simp; omega)
      go_wp2_with (first | (at_builtin; refine Ints.append (L1 := []) (base := W.heap.size) rfl (.tmp 31) (.tmp 38) 89 rfl Try.underlying89 info3 wr.heap.size _ rfl rfl (blk_new _ _) (HI.out.moved (below_alloc (Below.refl _ _) _)) (by simp; omega) HOL.out fun v1 W1 HI1 st1 => ?_; have HB1 := Aside0.mk (And.intro (st1.below (below_alloc HG.out.1 _) (by simp; omega)) (st1.blk (blk_alloc HG.out.2 _) (by decide))); have HI2 := Aside0.mk HI1; clear HI1 st1))
      go_roundg (o.f1.length - (i + 1))
      case measure => omega
      case rel =>
        refine ⟨i + 1, rfl, by omega, by go_num, ⟨?_⟩, HB1⟩
        rw [List.take_succ_eq_append_getElem hlt, List.map_append]
        have := HI2.out
        rw [show rd_T142 o.f1 (i : Int) = o.f1[i] from by simp [rd_T142, List.getD_eq_getElem?_getD, List.getElem?_eq_getElem hlt]] at this
        exact this
    · obtain rfl : i = o.f1.length := by omega
      go_wp2_with fail
      go_ret
      refine ⟨_, rfl, ?_, below_step H3.out.1 HG.out.1⟩
      have := HI.out
      rw [List.take_length] at this
      rw [HO.out]
      exact this.lower (below_size H3.out.1)
def trellisref15_Kids.f (k : Nat) (l0 : List S50) (a1 : Int) : Option (List Int) :=
  (trellisref15_Forest.f k l0).bind fun r => if (oneT (findT a1 r.1 (-1))).f1.length < 17592186044416 then some ((oneT (findT a1 r.1 (-1))).f1.map (·.f2)) else none
theorem trellisref15_Kids.mono : ∀ a0 a1 k, LeO (trellisref15_Kids.f k a0 a1) (trellisref15_Kids.f (k + 1) a0 a1) := fun a0 a1 k => LeO.bind (trellisref15_Forest.mono a0 k) fun _ => LeO.refl _
theorem trellisref15_Kids.calls (k : Nat) (A0 : Option Addr) (c0 : Nat) (l0 : List S50) (a1 : Int) (r : List Int) (w : World) (hr0 : Kd.C k50 w A0 l0.length l0) (hc0 : l0.length ≤ c0) (h : trellisref15_Kids.f k l0 a1 = some r) :
    Calls Try.prog 65 #[.slice A0 l0.length c0, .int .i64 a1] w fun e w' => ∃ v0_ : Value, e = .returned (v0_) ∧ Kd.R (Kd.int .i64) 3 w' w.heap.size (fun _ => True) v0_ r ∧ Below w.heap.size w w' := by
  obtain ⟨⟨r1, r2⟩, hf, h⟩ := Option.bind_eq_some_iff.1 h
  split at h
  · rename_i hl
    obtain rfl := Option.some.inj h
    refine (Kids15_calls k A0 c0 l0 a1 r1 r2 w hr0 hc0 hf hl).mono ?_
    rintro e w' ⟨v, he, hi, hb⟩
    exact ⟨v, he, Ints.toR hi, hb⟩
  · cases h
def trellisref15_Parent.f (k : Nat) (l0 : List S50) (a1 : Int) : Option Int := (trellisref15_Forest.f k l0).bind fun r => some (parT (findT a1 r.1 (-1)))
theorem trellisref15_Parent.mono : ∀ a0 a1 k, LeO (trellisref15_Parent.f k a0 a1) (trellisref15_Parent.f (k + 1) a0 a1) := fun a0 a1 k => LeO.bind (trellisref15_Forest.mono a0 k) fun _ => LeO.refl _
theorem trellisref15_Parent.calls (k : Nat) (A0 : Option Addr) (c0 : Nat) (l0 : List S50) (a1 : Int) (r : Int) (w : World) (hr0 : Kd.C k50 w A0 l0.length l0) (hc0 : l0.length ≤ c0) (h : trellisref15_Parent.f k l0 a1 = some r) :
    Calls Try.prog 36 #[.slice A0 l0.length c0, .int .i64 a1] w fun e w' => e = .returned (.int .i64 r) ∧ Below w.heap.size w w' := by
  obtain ⟨⟨r1, r2⟩, hf, h⟩ := Option.bind_eq_some_iff.1 h
  obtain rfl := Option.some.inj h
  exact Parent15_calls k A0 c0 l0 a1 r1 r2 w hr0 hc0 hf
end Go.Proofs.Ytmhmmffhmdbclaa.PO
