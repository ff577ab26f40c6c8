/- tree.has, beside, roots, Roots, Size, Kids: what they answer, out of the plain forest. -/
import Derived.Test.YtmhmmffhmdbclaaTreeB
import Derived.Test.YtmhmmffhmdbclaaTreeP
import Derived.Deep.DeepMust
namespace Go.Proofs.Ytmhmmffhmdbclaa.PO
open Go.RowKit Go.Proofs.YtmhmmffhmdbclaaW.PrintWords Go.Proofs.YtmhmmffhmdbclaaW.PrintLast Go.Proofs.YtmhmmffhmdbclaaW.PrintMore H Pl
set_option linter.unusedVariables false
set_option linter.unusedSimpArgs false
theorem has_calls (A A1 A2 : Option Addr) (n n1 n2 c c1 c2 : Nat) (b : Bool) (a : Int) (w : World) :
    Calls Try.prog 63 #[.agg #[.slice A n c, .slice A1 n1 c1, .slice A2 n2 c2, .bool b], .int .i64 a] w fun e w' => e = .returned (.bool (b && decide (0 ≤ a ∧ a < n))) ∧ Below w.heap.size w w' := by
  have hu135 := Try.underlying135
  cases b with
  | false =>
    go_enter Try.func63, Try.ntmps63
    go_wp2_with fail
    refine alloc_letter ?_
    intro W hb hblk hsz
    have k3 : W.cell? ⟨w.heap.size, 3, none⟩ = some (.bool false) := (blk_cell hblk 3).trans rfl
    have HB := Aside0.mk hb
    clear hb hblk
    go_wp2_with fail
    go_ret
    exact ⟨by simp, HB.out⟩
  | true =>
    by_cases h0 : 0 ≤ a
    · by_cases h1 : a < n
      all_goals
        go_enter Try.func63, Try.ntmps63
        go_wp2_with fail
        refine alloc_letter ?_
        intro W hb hblk hsz
        have k3 : W.cell? ⟨w.heap.size, 3, none⟩ = some (.bool true) := (blk_cell hblk 3).trans rfl
        have k0 : W.cell? ⟨w.heap.size, 0, none⟩ = some (.slice A n c) := (blk_cell hblk 0).trans rfl
        have HB := Aside0.mk hb
        clear hb hblk
        go_wp2_with fail
        go_ret
        exact ⟨by simp; omega, HB.out⟩
    · go_enter Try.func63, Try.ntmps63
      go_wp2_with fail
      refine alloc_letter ?_
      intro W hb hblk hsz
      have k3 : W.cell? ⟨w.heap.size, 3, none⟩ = some (.bool true) := (blk_cell hblk 3).trans rfl
      have HB := Aside0.mk hb
      clear hb hblk
      go_wp2_with fail
      go_ret
      exact ⟨by simp; omega, HB.out⟩

set_option maxHeartbeats 400000 in
set_option maxRecDepth 100000 in
theorem beside_calls (A A1 A2 : Option Addr) (n n1 c c1 c2 : Nat) (b : Bool) (e : List Int) (m : Nat) (hm : e.length = m) (at_ end_ : Int) (w : World) (hr : Kd.C (Kd.int .i64) w A2 m e) (he : EndsB e) (h0 : 0 ≤ at_) (h1 : end_ ≤ m) (hn : m ≤ 1954687338268) :
    Calls Try.prog 88 #[.agg #[.slice A n c, .slice A1 n1 c1, .slice A2 m c2, .bool b], .int .i64 at_, .int .i64 end_] w fun x w' => ∃ v, x = .returned v ∧ Ints w' w.heap.size [(v, sib e m at_ end_)] ∧ Below w.heap.size w w' := by
  subst hm
  have hu135 := Try.underlying135
  have HR := Aside0.mk hr
  have HE := Aside0.mk he
  clear hr he
  go_enter Try.func88, Try.ntmps88
  go_wp2_with fail
  refine alloc_letter ?_
  intro W hb hblk hsz
  have HB := Aside0.mk hb
  have HK := Aside0.mk hblk
  clear hb hblk
  go_wp2_with fail
  go_loopg [1, 7] (end_ - at_).toNat (fun k v1 v7 W' => ∃ (a : Int) (out : List Int), k = (end_ - a).toNat ∧ v1 = .int .i64 a ∧ Aside0 (0 ≤ a ∧ (out.length : Int) ≤ a ∧ (end_ ≤ a ∨ a < e.length)) ∧ Aside0 (out ++ sib e e.length a end_ = sib e e.length at_ end_) ∧
    Aside0 (Ints W' w.heap.size [(v7, out)]) ∧ Aside0 (W'.heap[w.heap.size]? = some (.cells #[.slice A n c, .slice A1 n1 c1, .slice A2 e.length c2, .bool b] 135 (0, 0)) ∧ Below w.heap.size w W'))
  case atStart => exact ⟨at_, [], rfl, rfl, ⟨by simp; omega⟩, ⟨rfl⟩, ⟨(Ints.nil _ _).cons_nil⟩, ⟨HK.out, HB.out⟩⟩
  case round =>
    clear HB HK
    obtain ⟨a, out, rfl, rfl, HA, HS, HI, HG⟩ := hrel
    by_cases hlt : a < end_
    · have hz : w.heap.size ≤ wr.heap.size := below_size HG.out.2
      have HOL := Aside0.mk (show out.length < 17592186044416 by have := HA.out; omega)
      have HNX := Aside0.mk (HE.out a.toNat (by have := HA.out; omega))
      obtain ⟨an, han⟩ : ∃ an : Nat, a = an := ⟨a.toNat, by have := HA.out; omega⟩
      subst han
      have haL : an < e.length := by have := HA.out; omega
      go_wp2_with (first | (at_builtin; refine Ints.append (L1 := []) (base := w.heap.size) rfl (.tmp 16) (.tmp 18) 89 rfl Try.underlying89 info3 wr.heap.size _ rfl rfl (blk_new _ _) (HI.out.moved (below_alloc (Below.refl _ _) _)) (by simp; omega) HOL.out fun v1 W1 HI1 st1 => ?_; have HB1 := Aside0.mk (And.intro (st1.blk (blk_alloc HG.out.1 _) (by decide)) (st1.below (below_alloc HG.out.2 _) (by simp; omega))); have HI2 := Aside0.mk HI1; clear HI1 st1; obtain ⟨ad, had, q0⟩ := Kd.at_int (Kd.C_below HR.out HB1.out.2) (an : Int) (by omega) (by omega); subst had; have q1 : W1.cell? ⟨w.heap.size, 2, none⟩ = some (.slice (some ad) e.length c2) := (blk_cell HB1.out.1 2).trans rfl; simp only [Int.toNat_natCast] at q0))
      have hx := HNX.out
      simp only [Int.toNat_natCast] at hx
      go_roundg (end_ - e.getD an 0).toNat
      case measure => omega
      case rel =>
        refine ⟨e.getD an 0, out ++ [(an : Int)], rfl, by simp [rd], ⟨by omega, by have := HA.out; simp only [List.length_append, List.length_singleton]; omega, by have := HA.out; omega⟩, ⟨?_⟩, HI2, HB1⟩
        rw [← HS.out]
        have hel : ∃ m, e.length = m + 1 := ⟨e.length - 1, by omega⟩
        obtain ⟨m, hm⟩ := hel
        rw [hm]
        conv => rhs; rw [sib, if_pos hlt]
        rw [Int.toNat_natCast, List.append_assoc, List.singleton_append, ← hm, sib_enough e HE.out end_ h1 e.length m _ (by omega) (by omega) (by omega)]
    · obtain ⟨A7, c7, e7, _⟩ := Ints.shape (L1 := []) HI.out
      subst e7
      go_wp2_with fail
      go_ret
      refine ⟨_, rfl, ?_, HG.out.2⟩
      rw [← HS.out]
      have : sib e e.length a end_ = [] := by cases e.length with
        | zero => rfl
        | succ k => simp only [sib]; rw [if_neg (by omega)]
      rw [this, List.append_nil]
      exact HI.out

/-- What the calls need of a list of nodes. -/
def okN (l : List S50) : Bool := decide (l.length ≤ 1954687338268) && l.all fun x => decide (x.f5 ≤ 9223372036854775807)
theorem okN_len {l : List S50} (h : okN l = true) : l.length ≤ 1954687338268 := by simp [okN] at h; exact h.1
theorem okN_kids {l : List S50} (h : okN l = true) : ∀ x ∈ l, x.f5 ≤ 9223372036854775807 := by simp [okN] at h; exact h.2
theorem plantK_len (l : List S50) : (plantK l).1.length = l.length ∧ (plantK l).2.1.length = l.length := by
  have := plantS_len (l.map (·.f5)) 0 [] (List.replicate l.length 0) (List.replicate l.length 0)
  simpa [plantK] using this
theorem plantK_ends {l : List S50} (h : (plantK l).2.2 = true) : EndsB (plantK l).2.1 := by
  intro j hj
  rw [(plantK_len l).2] at hj ⊢
  have := plantS_known (l.map (·.f5)) 0 [] (List.replicate l.length 0) (List.replicate l.length 0) ⟨by simp, fun j hj => absurd hj (by omega)⟩ (by simp) (by simpa [plantK] using h) j (by simpa using hj)
  simpa [plantK] using this
def rootsK (l : List S50) : List Int := if (plantK l).2.2 then sib (plantK l).2.1 l.length 0 l.length else []
/-- How many trees; -1: no forest. -/
def countK (l : List S50) : Int := if (plantK l).2.2 then ((rootsK l).length : Int) else -1
def kidsK (l : List S50) (a : Int) : List Int := if (plantK l).2.2 = true ∧ 0 ≤ a ∧ a < l.length then sib (plantK l).2.1 l.length (a + 1) ((plantK l).2.1.getD a.toNat 0) else []
def sizeK (l : List S50) (a : Int) : Int := if (plantK l).2.2 = true ∧ 0 ≤ a ∧ a < l.length then (plantK l).2.1.getD a.toNat 0 - a else 0

/-- What plant's answer is good for: both rows read, and what stands. -/
theorem plant_reads {l : List S50} {W : World} {base : Nat} {v1 v2 : Value} (h : Ints W base [(v1, (plantK l).1), (v2, (plantK l).2.1)]) :
    ∃ A1 c1 A2 c2, v1 = .slice A1 l.length c1 ∧ v2 = .slice A2 l.length c2 ∧ Kd.C (Kd.int .i64) W A2 l.length (plantK l).2.1 := by
  obtain ⟨A1, c1, rfl, _⟩ := Ints.shape (L1 := []) h
  obtain ⟨A2, c2, rfl, _⟩ := Ints.shape (L1 := [_]) h
  obtain ⟨A, c, e, hr⟩ := own_reads (h.mid (L1 := [_])).1
  injection e with e1 _ _
  subst e1
  rw [(plantK_len l).1, (plantK_len l).2] at *
  exact ⟨A1, c1, A2, c2, rfl, rfl, Kd.C_of_reads (d := (0 : Int)) (h1 := fun _ => rfl) hr⟩

set_option maxHeartbeats 400000 in
set_option maxRecDepth 100000 in
theorem roots_calls (A : Option Addr) (c : Nat) (l : List S50) (w : World) (hr : Kd.C k50 w A l.length l) (hc : l.length ≤ c) (ho : okN l = true) :
    Calls Try.prog 78 #[.slice A l.length c] w fun x w' => ∃ v, x = .returned v ∧ Ints w' w.heap.size [(v, rootsK l)] ∧ Below w.heap.size w w' := by
  have hu135 := Try.underlying135
  have HR := Aside0.mk hr
  have HC := Aside0.mk hc
  have HO := Aside0.mk ho
  clear hr hc ho
  go_enter Try.func78, Try.ntmps78
  go_wp2_with fail
  refine (plant_calls A c l _ HR.out HC.out (okN_len HO.out) (okN_kids HO.out)).mono ?_
  rintro x w1 ⟨v1, v2, rfl, hI, hb⟩
  obtain ⟨A1, c1, A2, c2, rfl, rfl, hC⟩ := plant_reads hI
  have HI := Aside0.mk (And.intro hI (And.intro hb hC))
  clear hI hb hC
  go_upto_region 2 with (fail)
  refine alloc_letter ?_
  intro W hb hblk hsz
  have k3 : W.cell? ⟨w1.heap.size, 3, none⟩ = some (.bool (plantK l).2.2) := (blk_cell hblk 3).trans rfl
  have k0 : W.cell? ⟨w1.heap.size, 0, none⟩ = some (.slice A l.length c) := (blk_cell hblk 0).trans rfl
  have k1 : W.cell? ⟨w1.heap.size, 1, none⟩ = some (.slice A1 l.length c1) := (blk_cell hblk 1).trans rfl
  have k2 : W.cell? ⟨w1.heap.size, 2, none⟩ = some (.slice A2 l.length c2) := (blk_cell hblk 2).trans rfl
  have HB := Aside0.mk (And.intro (below_step HI.out.2.1 hb) (Kd.C_below HI.out.2.2 hb))
  have hz := below_size HI.out.2.1
  clear hb hblk HI
  cases hok : (plantK l).2.2 with
  | false =>
    rw [hok] at k3
    have HK := Aside0.mk hok
    clear hok
    go_wp2_with fail
    go_ret
    exact ⟨_, rfl, by simp only [rootsK, HK.out]; exact (Ints.nil _ _).cons_nil, HB.out.1⟩
  | true =>
    rw [hok] at k3
    have HK := Aside0.mk hok
    clear hok
    have HE := Aside0.mk (plantK_ends HK.out)
    have HL := Aside0.mk (plantK_len l).2
    go_wp2_with fail
    refine (beside_calls A A1 A2 _ _ c c1 c2 true _ _ HL.out _ _ W HB.out.2 HE.out (by omega) (by omega) (okN_len HO.out)).mono ?_
    rintro x w2 ⟨v, rfl, hI2, hb2⟩
    have HI2 := Aside0.mk (And.intro hI2 hb2)
    clear hI2 hb2
    go_wp2_with fail
    go_ret
    exact ⟨_, rfl, by simp only [rootsK, HK.out, if_true]; exact HI2.out.1.lower (by omega), below_step HB.out.1 HI2.out.2⟩

set_option maxHeartbeats 400000 in
set_option maxRecDepth 100000 in
theorem Roots_calls (A : Option Addr) (c : Nat) (l : List S50) (w : World) (hr : Kd.C k50 w A l.length l) (hc : l.length ≤ c) (ho : okN l = true) :
    Calls Try.prog 57 #[.slice A l.length c] w fun x w' => x = .returned (.int .i64 (countK l)) ∧ Below w.heap.size w w' := by
  have hu135 := Try.underlying135
  have HR := Aside0.mk hr
  have HC := Aside0.mk hc
  have HO := Aside0.mk ho
  clear hr hc ho
  go_enter Try.func57, Try.ntmps57
  go_wp2_with fail
  refine (plant_calls A c l _ HR.out HC.out (okN_len HO.out) (okN_kids HO.out)).mono ?_
  rintro x w1 ⟨v1, v2, rfl, hI, hb⟩
  obtain ⟨A1, c1, A2, c2, rfl, rfl, hC⟩ := plant_reads hI
  have HB := Aside0.mk hb
  have hfd : ∀ W : World, Sem.run Try.prog (Instr.field 135 (Value.agg #[.slice A l.length c, .slice A1 l.length c1, .slice A2 l.length c2, .bool (plantK l).2.2]) 3) W = .ok (.bool (plantK l).2.2) W := fun W => by kernel_rfl
  clear hI hb hC
  cases hok : (plantK l).2.2 with
  | false =>
    rw [hok] at hfd
    have HK := Aside0.mk hok
    clear hok
    go_wp2_with fail
    go_ret
    refine ⟨?_, HB.out⟩
    have h9 : countK l = -1 := by rw [countK, HK.out]; rfl
    rw [h9]
    rfl
  | true =>
    rw [hok] at hfd
    have HK := Aside0.mk hok
    clear hok
    go_wp2_with fail
    refine (roots_calls A c l _ (Kd.C_below HR.out HB.out) HC.out HO.out).mono ?_
    rintro x w2 ⟨v, rfl, hI2, hb2⟩
    obtain ⟨A3, c3, rfl, _⟩ := Ints.shape (L1 := []) hI2
    have HI2 := Aside0.mk hb2
    clear hI2 hb2
    go_wp2_with fail
    go_ret
    refine ⟨?_, below_step HB.out HI2.out⟩
    have h9 : countK l = (rootsK l).length := by rw [countK, HK.out]; rfl
    rw [h9]
    rfl

set_option maxHeartbeats 400000 in
set_option maxRecDepth 100000 in
theorem Size_calls (A : Option Addr) (c : Nat) (l : List S50) (a : Int) (w : World) (hr : Kd.C k50 w A l.length l) (hc : l.length ≤ c) (ho : okN l = true) :
    Calls Try.prog 33 #[.slice A l.length c, .int .i64 a] w fun x w' => x = .returned (.int .i64 (sizeK l a)) ∧ Below w.heap.size w w' := by
  have hu135 := Try.underlying135
  have HR := Aside0.mk hr
  have HC := Aside0.mk hc
  have HO := Aside0.mk ho
  clear hr hc ho
  go_enter Try.func33, Try.ntmps33
  go_wp2_with fail
  refine (plant_calls A c l _ HR.out HC.out (okN_len HO.out) (okN_kids HO.out)).mono ?_
  rintro x w1 ⟨v1, v2, rfl, hI, hb⟩
  obtain ⟨A1, c1, A2, c2, rfl, rfl, hC⟩ := plant_reads hI
  have HI := Aside0.mk (And.intro hI (And.intro hb hC))
  clear hI hb hC
  go_upto_region 2 with (fail)
  refine alloc_letter ?_
  intro W hb hblk hsz
  have k3 : W.cell? ⟨w1.heap.size, 3, none⟩ = some (.bool (plantK l).2.2) := (blk_cell hblk 3).trans rfl
  have k0 : W.cell? ⟨w1.heap.size, 0, none⟩ = some (.slice A l.length c) := (blk_cell hblk 0).trans rfl
  have k1 : W.cell? ⟨w1.heap.size, 1, none⟩ = some (.slice A1 l.length c1) := (blk_cell hblk 1).trans rfl
  have k2 : W.cell? ⟨w1.heap.size, 2, none⟩ = some (.slice A2 l.length c2) := (blk_cell hblk 2).trans rfl
  have HB := Aside0.mk (And.intro (below_step HI.out.2.1 hb) (And.intro (Kd.C_below HI.out.2.2 hb) hblk))
  have hz := below_size HI.out.2.1
  clear hb hblk HI
  go_wp2_with fail
  refine (has_calls A A1 A2 _ _ _ c c1 c2 _ a W).mono ?_
  rintro x w2 ⟨rfl, hb2⟩
  have HB2 := Aside0.mk (And.intro (below_step HB.out.1 hb2) (And.intro (Kd.C_below HB.out.2.1 hb2) (blk_below HB.out.2.2 hb2)))
  clear hb2 HB k0 k1 k2 k3
  cases hok : ((plantK l).2.2 && decide (0 ≤ a ∧ a < l.length)) with
  | false =>
    have HK := Aside0.mk hok
    clear hok
    go_wp2_with fail
    go_ret
    refine ⟨?_, HB2.out.1⟩
    have := HK.out
    have h0 : sizeK l a = 0 := by rw [sizeK, if_neg (by intro h; simp [h.1, h.2.1, h.2.2] at this)]
    rw [h0]
    rfl
  | true =>
    have h3 : (plantK l).2.2 = true ∧ 0 ≤ a ∧ a < l.length := by simpa using hok
    have HK := Aside0.mk h3
    have h0 := h3.2.1
    have h1 := h3.2.2
    clear hok h3
    have hE := plantK_ends HK.out.1 a.toNat (by rw [(plantK_len l).2]; omega)
    rw [(plantK_len l).2] at hE
    have hn := okN_len HO.out
    have k2 : w2.cell? ⟨w1.heap.size, 2, none⟩ = some (.slice A2 l.length c2) := (blk_cell HB2.out.2.2 2).trans rfl
    obtain ⟨ad, had, q0⟩ := Kd.at_int HB2.out.2.1 a h0 h1
    subst had
    simp only [rd] at q0
    generalize he : (plantK l).2.1.getD a.toNat 0 = ee at *
    have HEE := Aside0.mk he
    clear he
    go_wp2_with fail
    go_ret
    refine ⟨?_, HB2.out.1⟩
    have h9 : sizeK l a = ee - a := by rw [sizeK, if_pos HK.out, HEE.out]
    rw [h9]
    rfl

set_option maxHeartbeats 400000 in
set_option maxRecDepth 100000 in
theorem Kids_calls (A : Option Addr) (c : Nat) (l : List S50) (a : Int) (w : World) (hr : Kd.C k50 w A l.length l) (hc : l.length ≤ c) (ho : okN l = true) :
    Calls Try.prog 79 #[.slice A l.length c, .int .i64 a] w fun x w' => ∃ v, x = .returned v ∧ Ints w' w.heap.size [(v, kidsK l a)] ∧ Below w.heap.size w w' := by
  have hu135 := Try.underlying135
  have HR := Aside0.mk hr
  have HC := Aside0.mk hc
  have HO := Aside0.mk ho
  clear hr hc ho
  go_enter Try.func79, Try.ntmps79
  go_wp2_with fail
  refine (plant_calls A c l _ HR.out HC.out (okN_len HO.out) (okN_kids HO.out)).mono ?_
  rintro x w1 ⟨v1, v2, rfl, hI, hb⟩
  obtain ⟨A1, c1, A2, c2, rfl, rfl, hC⟩ := plant_reads hI
  have HI := Aside0.mk (And.intro hI (And.intro hb hC))
  clear hI hb hC
  go_upto_region 2 with (fail)
  refine alloc_letter ?_
  intro W hb hblk hsz
  have k3 : W.cell? ⟨w1.heap.size, 3, none⟩ = some (.bool (plantK l).2.2) := (blk_cell hblk 3).trans rfl
  have k0 : W.cell? ⟨w1.heap.size, 0, none⟩ = some (.slice A l.length c) := (blk_cell hblk 0).trans rfl
  have k1 : W.cell? ⟨w1.heap.size, 1, none⟩ = some (.slice A1 l.length c1) := (blk_cell hblk 1).trans rfl
  have k2 : W.cell? ⟨w1.heap.size, 2, none⟩ = some (.slice A2 l.length c2) := (blk_cell hblk 2).trans rfl
  have HB := Aside0.mk (And.intro (below_step HI.out.2.1 hb) (And.intro (Kd.C_below HI.out.2.2 hb) hblk))
  have hz := below_size HI.out.2.1
  clear hb hblk HI
  go_wp2_with fail
  refine (has_calls A A1 A2 _ _ _ c c1 c2 _ a W).mono ?_
  rintro x w2 ⟨rfl, hb2⟩
  have HB2 := Aside0.mk (And.intro (below_step HB.out.1 hb2) (And.intro (Kd.C_below HB.out.2.1 hb2) (blk_below HB.out.2.2 hb2)))
  clear hb2 HB k0 k1 k2 k3
  cases hok : ((plantK l).2.2 && decide (0 ≤ a ∧ a < l.length)) with
  | false =>
    have HK := Aside0.mk hok
    clear hok
    go_wp2_with fail
    go_ret
    refine ⟨_, rfl, ?_, HB2.out.1⟩
    have := HK.out
    have h0 : kidsK l a = [] := by rw [kidsK, if_neg (by intro h; simp [h.1, h.2.1, h.2.2] at this)]
    rw [h0]
    exact (Ints.nil _ _).cons_nil
  | true =>
    have h3 : (plantK l).2.2 = true ∧ 0 ≤ a ∧ a < l.length := by simpa using hok
    have HK := Aside0.mk h3
    have h0 := h3.2.1
    have h1 := h3.2.2
    clear hok h3
    have hE := plantK_ends HK.out.1 a.toNat (by rw [(plantK_len l).2]; omega)
    rw [(plantK_len l).2] at hE
    have hn := okN_len HO.out
    have k2 : w2.cell? ⟨w1.heap.size, 2, none⟩ = some (.slice A2 l.length c2) := (blk_cell HB2.out.2.2 2).trans rfl
    obtain ⟨ad, had, q0⟩ := Kd.at_int HB2.out.2.1 a h0 h1
    subst had
    simp only [rd] at q0
    have k0 : w2.cell? ⟨w1.heap.size, 0, none⟩ = some (.slice A l.length c) := (blk_cell HB2.out.2.2 0).trans rfl
    have k1 : w2.cell? ⟨w1.heap.size, 1, none⟩ = some (.slice A1 l.length c1) := (blk_cell HB2.out.2.2 1).trans rfl
    have k3 : w2.cell? ⟨w1.heap.size, 3, none⟩ = some (.bool (plantK l).2.2) := (blk_cell HB2.out.2.2 3).trans rfl
    have hz2 : w.heap.size ≤ w2.heap.size := below_size HB2.out.1
    have HE := Aside0.mk (plantK_ends HK.out.1)
    have HL := Aside0.mk (plantK_len l).2
    have hKK : kidsK l a = sib (plantK l).2.1 l.length (a + 1) ((plantK l).2.1.getD a.toNat 0) := by rw [kidsK, if_pos HK.out]
    generalize he : (plantK l).2.1.getD a.toNat 0 = ee at *
    have HEE := Aside0.mk (And.intro he hKK)
    clear he hKK
    have s1 : IntKind.i64.wrap (a + 1) = a + 1 := IntWalk.i64_in _ (by omega)
    go_upto_region 4 with (fail)
    go_region_with (go_at_call 88; refine (beside_calls A A1 (some ad) _ _ c c1 c2 (plantK l).2.2 (plantK l).2.1 l.length HL.out (a + 1) ee _ (by exact HB2.out.2.1) HE.out (by omega) (by omega) (by omega)).mono ?_; rintro x w3 ⟨v, rfl, hI3, hb3⟩)
    all_goals
      have HI3 := Aside0.mk (And.intro hI3 hb3)
      clear hI3 hb3
      go_wp2_with fail
      go_ret
      refine ⟨_, rfl, ?_, below_step (below_drew HB2.out.1) HI3.out.2⟩
      rw [HEE.out.2]
      exact HI3.out.1.lower hz2
end Go.Proofs.Ytmhmmffhmdbclaa.PO
