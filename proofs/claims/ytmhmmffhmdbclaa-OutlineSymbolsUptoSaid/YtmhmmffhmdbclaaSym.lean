/- outline.symbol: its closures, slices.IndexFunc and child, by hand. -/
import Derived.Test.YtmhmmffhmdbclaaTree
namespace Go.Proofs.Ytmhmmffhmdbclaa.PO
open Go.RowKit Go.Proofs.YtmhmmffhmdbclaaW.PrintWords Go.Proofs.YtmhmmffhmdbclaaW.PrintLast Go.Proofs.YtmhmmffhmdbclaaW.PrintMore H Pl
set_option linter.unusedVariables false
set_option linter.unusedSimpArgs false

set_option maxHeartbeats 400000 in
set_option maxRecDepth 100000 in
theorem sym1_calls (m0 m1 : ByteArray) (g4 g5 : Nat) (A1 : Option Addr) (c1 : Nat) (l1 : List S50) (a2 : Int) (w : World)
    (h4 : w.cell? ⟨g4, 0, none⟩ = some (.slice A1 l1.length c1)) (h5 : w.cell? ⟨g5, 0, none⟩ = some (.int .i64 a2))
    (hr : Kd.C k50 w A1 l1.length l1) (h0 : 0 ≤ a2) (h1 : a2 < l1.length) :
    Calls Try.prog 59 #[.agg #[.string m0, .string m1], .pointer (some ⟨g4, 0, none⟩), .pointer (some ⟨g5, 0, none⟩)] w
      fun e w' => e = .returned (.bool (m0.toList == (rd_T50 l1 a2).f0.toList)) ∧ Below w.heap.size w w' := by
  have hu128 := Try.underlying128
  have hu50 := Try.underlying50
  have HR := Aside0.mk hr
  have H4 := Aside0.mk h4
  have H5 := Aside0.mk h5
  clear hr h4 h5
  go_enter Try.func59, Try.ntmps59
  go_wp2_with fail
  refine alloc_letter ?_
  intro W hb hblk hsz
  have k4 := pw_cell_below hb H4.out
  have k5 := pw_cell_below hb H5.out
  obtain ⟨ad, had, q0, q1, q2, q3, q4, q5, q6⟩ := at_T50 (Kd.C_below HR.out hb) a2 h0 h1
  subst had
  have k0 : W.cell? ⟨w.heap.size, 0, none⟩ = some (.string m0) := (blk_cell hblk 0).trans rfl
  have HB := Aside0.mk hb
  clear hb hblk q1 q2 q3 q4 q5 q6
  go_quiet (fail)
  go_wp2_with fail
  go_ret
  exact ⟨by simp, by exact pw_below_drewN HB.out _⟩

set_option maxHeartbeats 400000 in
set_option maxRecDepth 100000 in
theorem indexFunc_calls (p : S128 → Bool) (F : FuncId) (g4 g5 : Value) (A : Option Addr) (c : Nat) (l : List S128) (w : World)
    (hr : Kd.C k128 w A l.length l)
    (hcl : ∀ (m : S128) W, Below w.heap.size w W → Calls Try.prog 59 #[.agg #[.string m.f0, .string m.f1], g4, g5] W fun e W' => e = .returned (.bool (p m)) ∧ Below W.heap.size W W') :
    Calls Try.prog 58 #[.slice A l.length c, .func (.func 59) #[] #[g4, g5]] w
      fun e w' => (∃ i : Nat, e = .returned (.int .i64 i) ∧ i < l.length ∧ p (rd_T128 l i) = true ∧ ∀ j : Nat, j < i → p (rd_T128 l j) = false) ∧ Below w.heap.size w w' ∨ (e = .returned (.int .i64 (-1)) ∧ ∀ j : Nat, j < l.length → p (rd_T128 l j) = false) ∧ Below w.heap.size w w' := by
  have hu128 := Try.underlying128
  have HR := Aside0.mk hr
  have HM := Aside0.mk (Kd.C_max hr)
  have HC := Aside0.mk hcl
  clear hr hcl
  go_enter Try.func58, Try.ntmps58
  go_wp2_with fail
  have HB := Aside0.mk (Below.refl w.heap.size w)
  go_loopg [8] l.length (fun k v8 w' => ∃ i : Nat, k = l.length - i ∧ i ≤ l.length ∧ v8 = .int .i64 i ∧ Aside0 (∀ j : Nat, j < i → p (rd_T128 l j) = false) ∧ Aside0 (Below w.heap.size w w'))
  case atStart => exact ⟨0, rfl, by omega, by simp, ⟨fun j hj => absurd hj (by omega)⟩, HB⟩
  case round =>
    clear HB
    obtain ⟨i, hk, hi, rfl, HP, HB⟩ := hrel
    have hm := HM.out
    by_cases hlt : i < l.length
    · obtain ⟨ad, had, q0, q1⟩ := at_T128 (Kd.C_below HR.out HB.out) (i : Int) (by omega) (by omega)
      subst had
      simp only [Int.toNat_natCast] at q0 q1
      go_wp2_with fail
      refine (HC.out (rd_T128 l i) wr HB.out).mono ?_
      rintro e w1 ⟨rfl, hb1⟩
      have HB1 := Aside0.mk (HB.out.trans (hb1.mono HB.out.size))
      clear hb1 q0 q1
      cases hp : p (rd_T128 l i) with
      | true =>
        have HT := Aside0.mk hp
        clear hp
        go_wp2_with fail
        go_ret
        exact .inl ⟨⟨i, by simp, hlt, HT.out, HP.out⟩, HB1.out⟩
      | false =>
        have HT := Aside0.mk hp
        clear hp
        go_wp2_with fail
        go_roundg (l.length - (i + 1))
        case measure => omega
        case rel => exact ⟨i + 1, rfl, by omega, by simp, ⟨fun j hj => by rcases Nat.lt_succ_iff_lt_or_eq.1 hj with h | rfl; exact HP.out j h; exact HT.out⟩, HB1⟩
    · obtain rfl : i = l.length := by omega
      go_wp2_with fail
      go_ret
      exact .inr ⟨⟨by simp, HP.out⟩, HB.out⟩

def nodeV (x : S50) : Value := .agg #[.string x.f0, .bool x.f1, .string x.f2, .int .i64 x.f3, .int .i64 x.f4, .int .i64 x.f5, .int .i64 x.f6]
set_option maxHeartbeats 400000 in
set_option maxRecDepth 100000 in
theorem sym2_calls (x : S50) (gl gi : Nat) (A10 : Option Addr) (c10 : Nat) (l10 : List S128) (i : Nat) (w : World)
    (h3 : w.cell? ⟨gl, 10, none⟩ = some (.slice A10 l10.length c10)) (h8 : w.cell? ⟨gi, 0, none⟩ = some (.int .i64 (i : Int)))
    (hr : Kd.C k128 w A10 l10.length l10) (h1 : i < l10.length) :
    Calls Try.prog 61 #[nodeV x, .pointer (some ⟨gl, 0, none⟩), .pointer (some ⟨gi, 0, none⟩)] w
      fun e w' => e = .returned (.bool (x.f2.toList == (rd_T128 l10 i).f1.toList)) ∧ Below w.heap.size w w' := by
  have hu128 := Try.underlying128
  have hu50 := Try.underlying50
  have hu45 := Try.underlying45
  have HR := Aside0.mk hr
  have H3 := Aside0.mk h3
  have H8 := Aside0.mk h8
  clear hr h3 h8
  unfold nodeV
  go_enter Try.func61, Try.ntmps61
  go_wp2_with fail
  refine alloc_letter ?_
  intro W hb hblk hsz
  have k3 := pw_cell_below hb H3.out
  have k8 := pw_cell_below hb H8.out
  obtain ⟨ad, had, q0, q1⟩ := at_T128 (Kd.C_below HR.out hb) (i : Int) (by omega) (by omega)
  subst had
  simp only [Int.toNat_natCast] at q0 q1
  have k2 : W.cell? ⟨w.heap.size, 2, none⟩ = some (.string x.f2) := (blk_cell hblk 2).trans rfl
  have HB := Aside0.mk hb
  clear hb hblk q0
  go_quiet (fail)
  go_wp2_with fail
  go_ret
  exact ⟨rfl, pw_below_drewN HB.out _⟩

/-- The first child of which something is true. -/
def childK (p : S50 → Bool) (l : List S50) (a : Int) : Option S50 := ((kidsK l a).find? fun j => p (rd_T50 l j)).map (rd_T50 l)
def ChildPost (w : World) (r : Option S50) (e : Ending) (w' : World) : Prop := e = .returned (.tuple #[nodeV (r.getD z50), .bool r.isSome]) ∧ Below w.heap.size w w'
theorem sib_range (e : List Int) (h : EndsB e) (end_ : Int) (he : end_ ≤ e.length) : ∀ (k : Nat) (at_ : Int), 0 ≤ at_ → ∀ j ∈ sib e k at_ end_, at_ ≤ j ∧ j < end_
  | 0, _, _, j, hj => by simp [sib] at hj
  | k + 1, at_, h0, j, hj => by
    simp only [sib] at hj
    split at hj
    · rcases List.mem_cons.1 hj with rfl | hj
      · omega
      · have := h at_.toNat (by omega)
        have := sib_range e h end_ he k _ (by omega) j hj
        omega
    · simp at hj
theorem kidsK_range (l : List S50) (a : Int) : ∀ j ∈ kidsK l a, 0 ≤ j ∧ j < l.length := by
  intro j hj
  unfold kidsK at hj
  split at hj
  · rename_i h
    have hE := plantK_ends h.1
    have h1 := hE a.toNat (by rw [(plantK_len l).2]; omega)
    rw [(plantK_len l).2] at h1
    have := sib_range _ hE _ (by rw [(plantK_len l).2]; omega) _ _ (by omega) j hj
    omega
  · simp at hj

set_option maxHeartbeats 1000000 in
set_option maxRecDepth 100000 in
theorem child_calls (p : S50 → Bool) (c1 c2 : Value) (A : Option Addr) (c : Nat) (l : List S50) (a : Int) (w : World) (hr : Kd.C k50 w A l.length l) (hc : l.length ≤ c) (ho : okN l = true)
    (hcl : ∀ (x : S50) W, Below w.heap.size w W → Calls Try.prog 61 #[nodeV x, c1, c2] W fun e W' => e = .returned (.bool (p x)) ∧ Below W.heap.size W W') :
    Calls Try.prog 60 #[.slice A l.length c, .int .i64 a, .func (.func 61) #[] #[c1, c2]] w (ChildPost w (childK p l a)) := by
  have hu50 := Try.underlying50
  have HR := Aside0.mk hr
  have HM := Aside0.mk (Kd.C_max hr)
  have HC := Aside0.mk hc
  have HO := Aside0.mk ho
  have HCL := Aside0.mk hcl
  clear hr hc ho hcl
  go_enter Try.func60, Try.ntmps60
  go_upto_region 1 with (fail)
  refine alloc_letter ?_
  intro W hb hblk hsz
  have H0 := Aside0.mk (And.intro hb hblk)
  clear hb hblk
  go_wp2_with fail
  refine (Kids_calls A c l a _ (Kd.C_below HR.out H0.out.1) HC.out HO.out).mono ?_
  rintro x w1 ⟨v, rfl, hI, hb1⟩
  obtain ⟨Ak, ck, rfl, _⟩ := Ints.shape (L1 := []) hI
  obtain ⟨Ak', ck', ek, hkr⟩ := own_reads (hI.mid (L1 := [])).1
  injection ek with ek _ _
  subst ek
  have H1 := Aside0.mk (And.intro (below_step H0.out.1 hb1) (And.intro (blk_below H0.out.2 hb1) (Kd.C_of_reads (d := (0 : Int)) (h1 := fun _ => rfl) hkr)))
  have HKR := Aside0.mk (kidsK_range l a)
  have HKM := Aside0.mk hkr.2.1
  clear hI hb1 hkr H0
  go_wp2_with fail
  have hnl : (kidsK l a).length ≤ 9223372036854775807 := HKM.out
  go_loopg [14] (kidsK l a).length (fun q v14 W' => ∃ i : Nat, q = (kidsK l a).length - i ∧ i ≤ (kidsK l a).length ∧ v14 = .int .i64 i ∧ Aside0 (((kidsK l a).drop i).find? (fun j => p (rd_T50 l j)) = (kidsK l a).find? fun j => p (rd_T50 l j)) ∧
    Aside0 (Below w1.heap.size w1 W'))
  case atStart => exact ⟨0, rfl, Nat.zero_le _, rfl, ⟨rfl⟩, ⟨Below.refl _ _⟩⟩
  case round =>
    obtain ⟨i, rfl, hi, rfl, HF, HG⟩ := hrel
    have hblk := blk_below H1.out.2.1 HG.out
    have z0 : wr.cell? ⟨w.heap.size, 0, none⟩ = some (.string ⟨#[]⟩) := (blk_cell hblk 0).trans rfl
    have fz0 := blk_frozen hblk 0
    have z1 : wr.cell? ⟨w.heap.size, 1, none⟩ = some (.bool false) := (blk_cell hblk 1).trans rfl
    have fz1 := blk_frozen hblk 1
    have z2 : wr.cell? ⟨w.heap.size, 2, none⟩ = some (.string ⟨#[]⟩) := (blk_cell hblk 2).trans rfl
    have fz2 := blk_frozen hblk 2
    have z3 : wr.cell? ⟨w.heap.size, 3, none⟩ = some (.int .i64 0) := (blk_cell hblk 3).trans rfl
    have fz3 := blk_frozen hblk 3
    have z4 : wr.cell? ⟨w.heap.size, 4, none⟩ = some (.int .i64 0) := (blk_cell hblk 4).trans rfl
    have fz4 := blk_frozen hblk 4
    have z5 : wr.cell? ⟨w.heap.size, 5, none⟩ = some (.int .i64 0) := (blk_cell hblk 5).trans rfl
    have fz5 := blk_frozen hblk 5
    have z6 : wr.cell? ⟨w.heap.size, 6, none⟩ = some (.int .i64 0) := (blk_cell hblk 6).trans rfl
    have fz6 := blk_frozen hblk 6
    clear hblk
    by_cases hlt : i < (kidsK l a).length
    · obtain ⟨ad, had, q0⟩ := Kd.at_int (Kd.C_below H1.out.2.2 HG.out) (i : Int) (by omega) (by omega)
      subst had
      have hj := HKR.out (rd (kidsK l a) i) (by simp [rd, List.getD_eq_getElem?_getD, List.getElem?_eq_getElem hlt])
      have hdr : (kidsK l a).drop i = rd (kidsK l a) i :: (kidsK l a).drop (i + 1) := by
        rw [List.drop_eq_getElem_cons hlt]
        simp [rd, List.getD_eq_getElem?_getD, List.getElem?_eq_getElem hlt]
      generalize hjj : rd (kidsK l a) i = j at *
      clear hjj
      have HD := Aside0.mk hdr
      clear hdr
      simp only [Int.toNat_natCast] at q0
      obtain ⟨hj0, hj1⟩ := hj
      obtain ⟨ae, hae, e0, e1, e2, e3, e4, e5, e6⟩ := at_T50 (Kd.C_below HR.out (below_step H1.out.1 HG.out)) j hj0 hj1
      subst hae
      have hm := HM.out
      go_wp2_with fail
      refine (HCL.out (rd_T50 l j) wr (below_step H1.out.1 HG.out)).mono ?_
      rintro x w2 ⟨rfl, hb2⟩
      have H2 := Aside0.mk (below_step HG.out hb2)
      have hblk2 := blk_below H1.out.2.1 H2.out
      clear hb2 q0 e0 e1 e2 e3 e4 e5 e6 z0 fz0 z1 fz1 z2 fz2 z3 fz3 z4 fz4 z5 fz5 z6 fz6
      cases hp : p (rd_T50 l j) with
      | true =>
        have HP := Aside0.mk hp
        clear hp
        have z0 : w2.cell? ⟨w.heap.size, 0, none⟩ = some (.string ⟨#[]⟩) := (blk_cell hblk2 0).trans rfl
        have fz0 := blk_frozen hblk2 0
        have z1 : w2.cell? ⟨w.heap.size, 1, none⟩ = some (.bool false) := (blk_cell hblk2 1).trans rfl
        have fz1 := blk_frozen hblk2 1
        have z2 : w2.cell? ⟨w.heap.size, 2, none⟩ = some (.string ⟨#[]⟩) := (blk_cell hblk2 2).trans rfl
        have fz2 := blk_frozen hblk2 2
        have z3 : w2.cell? ⟨w.heap.size, 3, none⟩ = some (.int .i64 0) := (blk_cell hblk2 3).trans rfl
        have fz3 := blk_frozen hblk2 3
        have z4 : w2.cell? ⟨w.heap.size, 4, none⟩ = some (.int .i64 0) := (blk_cell hblk2 4).trans rfl
        have fz4 := blk_frozen hblk2 4
        have z5 : w2.cell? ⟨w.heap.size, 5, none⟩ = some (.int .i64 0) := (blk_cell hblk2 5).trans rfl
        have fz5 := blk_frozen hblk2 5
        have z6 : w2.cell? ⟨w.heap.size, 6, none⟩ = some (.int .i64 0) := (blk_cell hblk2 6).trans rfl
        have fz6 := blk_frozen hblk2 6
        obtain ⟨ae', hae', e0, e1, e2, e3, e4, e5, e6⟩ := at_T50 (Kd.C_below HR.out (below_step H1.out.1 H2.out)) j hj0 hj1
        injection hae' with hae'
        subst hae'
        have HB2 := Aside0.mk hblk2
        clear hblk2
        go_wp2_with fail
        refine setN_letter [.string (rd_T50 l j).f0, .bool (rd_T50 l j).f1, .string (rd_T50 l j).f2, .int .i64 (rd_T50 l j).f3, .int .i64 (rd_T50 l j).f4, .int .i64 (rd_T50 l j).f5, .int .i64 (rd_T50 l j).f6] HB2.out rfl fun W9 hb9 hg9 => ?_
        have hB9 := (below_step H1.out.1 H2.out).grown hg9 (below_size (below_step H1.out.1 H2.out)) (fun k hk => by injection hk with hk; omega)
        refine bodyPost_ret (results_row1 rfl _ _ w.heap.size 50 _ (0, 0) _ rfl hb9 Try.underlying50 rfl (by kernel_rfl)) rfl ?_
        refine ⟨?_, hB9⟩
        have hfin := HF.out
        rw [HD.out, List.find?_cons, HP.out] at hfin
        have : childK p l a = some (rd_T50 l j) := by rw [childK, ← hfin]; rfl
        rw [this]
        rfl
      | false =>
        have HP := Aside0.mk hp
        clear hp hblk2
        go_wp2_with fail
        go_roundg ((kidsK l a).length - (i + 1))
        case measure => omega
        case rel => exact ⟨i + 1, rfl, by omega, by go_num, ⟨by have hfin := HF.out; rw [HD.out, List.find?_cons, HP.out] at hfin; exact hfin⟩, H2⟩
    · obtain rfl : i = (kidsK l a).length := by omega
      go_wp2_with fail
      refine setN_letter [.string ⟨#[]⟩, .bool false, .string ⟨#[]⟩, .int .i64 0, .int .i64 0, .int .i64 0, .int .i64 0] (blk_below H1.out.2.1 HG.out) rfl fun W9 hb9 hg9 => ?_
      have hB9 := (below_step H1.out.1 HG.out).grown hg9 (below_size (below_step H1.out.1 HG.out)) (fun k hk => by injection hk with hk; omega)
      refine bodyPost_ret (results_row1 rfl _ _ w.heap.size 50 _ (0, 0) _ rfl hb9 Try.underlying50 rfl (by kernel_rfl)) rfl ?_
      refine ⟨?_, hB9⟩
      have hfin := HF.out
      rw [List.drop_of_length_le (by omega)] at hfin
      have : childK p l a = none := by rw [childK, ← hfin]; rfl
      rw [this]
      rfl

/-- Where something is first true, or -1. -/
def FirstK (p : S128 → Bool) (l : List S128) (r : Int) : Prop := (∃ i : Nat, r = i ∧ i < l.length ∧ p (rd_T128 l i) = true ∧ ∀ j : Nat, j < i → p (rd_T128 l j) = false) ∨ (r = -1 ∧ ∀ j : Nat, j < l.length → p (rd_T128 l j) = false)
theorem FirstK.of {p : S128 → Bool} {l : List S128} {e : Ending} {w w' : World} (h : (∃ i : Nat, e = .returned (.int .i64 i) ∧ i < l.length ∧ p (rd_T128 l i) = true ∧ ∀ j : Nat, j < i → p (rd_T128 l j) = false) ∧ Below w.heap.size w w' ∨ (e = .returned (.int .i64 (-1)) ∧ ∀ j : Nat, j < l.length → p (rd_T128 l j) = false) ∧ Below w.heap.size w w') :
    ∃ r, e = .returned (.int .i64 r) ∧ FirstK p l r ∧ Below w.heap.size w w' := by
  rcases h with ⟨⟨i, rfl, h⟩, hb⟩ | ⟨⟨rfl, h⟩, hb⟩
  · exact ⟨_, rfl, .inl ⟨i, rfl, h⟩, hb⟩
  · exact ⟨_, rfl, .inr ⟨rfl, h⟩, hb⟩

/-- The child that says what a node is called. -/
def symK (ms : List S128) (l : List S50) (a : Int) : Option S50 :=
  if (rd_T50 l a).f1 = true then
    match ms.find? fun m => m.f0.toList == (rd_T50 l a).f0.toList with
    | some m => childK (fun x => x.f2.toList == m.f1.toList) l a
    | none => none
  else none
theorem find_of_first {p : S128 → Bool} : ∀ {ms : List S128} {i : Nat}, i < ms.length → p (rd_T128 ms i) = true → (∀ j : Nat, j < i → p (rd_T128 ms j) = false) → ms.find? p = some (rd_T128 ms i)
  | [], i, h, _, _ => by simp at h
  | m :: ms, 0, h, hp, _ => by
    rw [List.find?_cons]
    have : p m = true := by simpa [rd_T128] using hp
    rw [this]
    rfl
  | m :: ms, i + 1, h, hp, hn => by
    have h0 : p m = false := by simpa [rd_T128] using hn 0 (by omega)
    rw [List.find?_cons, h0]
    have := find_of_first (p := p) (ms := ms) (i := i) (by simpa using h) (by simpa [rd_T128] using hp) (fun j hj => by simpa [rd_T128] using hn (j + 1) (by omega))
    rw [this]
    simp [rd_T128]
theorem find_of_none {p : S128 → Bool} {ms : List S128} (h : ∀ j : Nat, j < ms.length → p (rd_T128 ms j) = false) : ms.find? p = none := by
  rw [List.find?_eq_none]
  intro x hx
  obtain ⟨j, hj, rfl⟩ := List.getElem_of_mem hx
  have := h j hj
  simpa [rd_T128, List.getD_eq_getElem?_getD, List.getElem?_eq_getElem hj] using this

theorem alloc4_letter {w : World} {c0 c1 c2 c3 : Array Value} {t0 t1 t2 t3 : TypeId} {p : World → Prop}
    (h : ∀ W, Below w.heap.size w W → W.heap[w.heap.size]? = some (.cells c0 t0 (0, 0)) → W.heap[w.heap.size + 1]? = some (.cells c1 t1 (0, 0)) → W.heap[w.heap.size + 1 + 1]? = some (.cells c2 t2 (0, 0)) → W.heap[w.heap.size + 1 + 1 + 1]? = some (.cells c3 t3 (0, 0)) → p W) :
    p ((((w.alloc (.cells c0 t0 (0, 0))).alloc (.cells c1 t1 (0, 0))).alloc (.cells c2 t2 (0, 0))).alloc (.cells c3 t3 (0, 0))) := by
  refine h _ (below_alloc (below_alloc (below_alloc (below_alloc (Below.refl _ _) _) _) _) _) ?_ ?_ ?_ ?_
  · exact blk_below (blk_below (blk_below (blk_new w _) (below_alloc (Below.refl _ _) _)) (below_alloc (Below.refl _ _) _)) (below_alloc (Below.refl _ _) _)
  · have := blk_below (blk_below (blk_new (w.alloc (.cells c0 t0 (0, 0))) (.cells c1 t1 (0, 0))) (below_alloc (Below.refl _ _) (.cells c2 t2 (0, 0)))) (below_alloc (Below.refl _ _) (.cells c3 t3 (0, 0)))
    simpa using this
  · have := blk_below (blk_new ((w.alloc (.cells c0 t0 (0, 0))).alloc (.cells c1 t1 (0, 0))) (.cells c2 t2 (0, 0))) (below_alloc (Below.refl _ _) (.cells c3 t3 (0, 0)))
    simpa using this
  · have := blk_new (((w.alloc (.cells c0 t0 (0, 0))).alloc (.cells c1 t1 (0, 0))).alloc (.cells c2 t2 (0, 0))) (.cells c3 t3 (0, 0))
    simpa using this

set_option maxHeartbeats 1000000 in
set_option maxRecDepth 100000 in
theorem symbol_calls (nm : ByteArray) (A9 A10 A : Option Addr) (c9 c10 c : Nat) (l9 : List ByteArray) (l10 : List S128) (l : List S50) (a : Int) (w : World)
    (hr10 : Kd.C k128 w A10 l10.length l10) (hr : Kd.C k50 w A l.length l) (hc : l.length ≤ c) (ho : okN l = true) (h0 : 0 ≤ a) (h1 : a < l.length) :
    Calls Try.prog 32 #[.agg #[.string nm, .slice none 0 0, .slice none 0 0, .slice none 0 0, .slice none 0 0, .slice none 0 0, .slice none 0 0, .slice none 0 0, .slice none 0 0, .slice A9 l9.length c9, .slice A10 l10.length c10, .slice none 0 0], .slice A l.length c, .int .i64 a] w
      (ChildPost w (symK l10 l a)) := by
  have hu45 := Try.underlying45
  have hu50 := Try.underlying50
  have HR := Aside0.mk hr
  have HR10 := Aside0.mk hr10
  have HC := Aside0.mk hc
  have HO := Aside0.mk ho
  clear hr hr10 hc ho
  go_enter Try.func32, Try.ntmps32
  go_upto_region 1 with (fail)
  refine alloc4_letter ?_
  intro w0 hb hb0 hb1 hb2 hb3
  have HW := Aside0.mk (And.intro hb (And.intro hb3 (And.intro hb0 (And.intro hb1 hb2))))
  have HL := Aside0.mk (show w0.cell? ⟨w.heap.size, 10, none⟩ = some (.slice A10 l10.length c10) from (blk_cell hb0 10).trans rfl)
  have HT := Aside0.mk (show w0.cell? ⟨w.heap.size + 1, 0, none⟩ = some (.slice A l.length c) from (blk_cell hb1 0).trans rfl)
  have HAt := Aside0.mk (show w0.cell? ⟨w.heap.size + 1 + 1, 0, none⟩ = some (.int .i64 a) from (blk_cell hb2 0).trans rfl)
  clear hb hb0 hb1 hb2 hb3
  clear hu45
  have hu45 := Try.underlying45
  -- region 1
  have k10 := HL.out
  have HB := Aside0.mk HW.out.1
  go_wp2_with fail
  refine (indexFunc_calls (fun m : S128 => m.f0.toList == (rd_T50 l a).f0.toList) 59 _ _ A10 c10 l10 _ (Kd.C_below HR10.out HW.out.1) fun m W' hb' => sym1_calls m.f0 m.f1 _ _ A c l a W' (pw_cell_below hb' HT.out) (pw_cell_below hb' HAt.out) (Kd.C_below HR.out (below_step HW.out.1 hb')) h0 h1).mono ?_
  rintro e w3 hpost
  obtain ⟨v, rfl, hf, hb9⟩ := FirstK.of (p := fun m : S128 => m.f0.toList == (rd_T50 l a).f0.toList) hpost
  have HF := Aside0.mk hf
  have H9 := Aside0.mk hb9
  clear hpost hf hb9 k10
  go_upto_region 2 with (fail)
  refine alloc_letter ?_
  intro W1 hbn hblk hsz
  clear hsz
  have y0 : W1.cell? ⟨w3.heap.size, 0, none⟩ = some (.int .i64 v) := (blk_cell hblk 0).trans rfl
  have H10 := Aside0.mk (And.intro hblk (And.intro (below_step HW.out.1 (below_step H9.out hbn)) (blk_below HW.out.2.1 (below_step H9.out hbn))))
  have Hy := Aside0.mk y0
  have t0 := pw_cell_below (below_step H9.out hbn) HT.out
  have a0 := pw_cell_below (below_step H9.out hbn) HAt.out
  have Hl10 := Aside0.mk (pw_cell_below (below_step H9.out hbn) HL.out)
  have z0 : W1.cell? ⟨w.heap.size + 1 + 1 + 1, 0, none⟩ = some (.string ⟨#[]⟩) := (blk_cell H10.out.2.2 0).trans rfl
  have fz0 := blk_frozen H10.out.2.2 0
  have z1 : W1.cell? ⟨w.heap.size + 1 + 1 + 1, 1, none⟩ = some (.bool false) := (blk_cell H10.out.2.2 1).trans rfl
  have fz1 := blk_frozen H10.out.2.2 1
  have z2 : W1.cell? ⟨w.heap.size + 1 + 1 + 1, 2, none⟩ = some (.string ⟨#[]⟩) := (blk_cell H10.out.2.2 2).trans rfl
  have fz2 := blk_frozen H10.out.2.2 2
  have z3 : W1.cell? ⟨w.heap.size + 1 + 1 + 1, 3, none⟩ = some (.int .i64 0) := (blk_cell H10.out.2.2 3).trans rfl
  have fz3 := blk_frozen H10.out.2.2 3
  have z4 : W1.cell? ⟨w.heap.size + 1 + 1 + 1, 4, none⟩ = some (.int .i64 0) := (blk_cell H10.out.2.2 4).trans rfl
  have fz4 := blk_frozen H10.out.2.2 4
  have z5 : W1.cell? ⟨w.heap.size + 1 + 1 + 1, 5, none⟩ = some (.int .i64 0) := (blk_cell H10.out.2.2 5).trans rfl
  have fz5 := blk_frozen H10.out.2.2 5
  have z6 : W1.cell? ⟨w.heap.size + 1 + 1 + 1, 6, none⟩ = some (.int .i64 0) := (blk_cell H10.out.2.2 6).trans rfl
  have fz6 := blk_frozen H10.out.2.2 6
  obtain ⟨ad, had, q0, q1, q2, q3, q4, q5, q6⟩ := at_T50 (Kd.C_below HR.out H10.out.2.1) a h0 h1
  subst had
  clear hblk hbn q0 q2 q3 q4 q5 q6
  rcases HF.out with ⟨i, rfl, hi, hp, hn⟩ | ⟨rfl, hn⟩
  · have HP := Aside0.mk (And.intro hi (And.intro hp hn))
    clear hi hp hn
    have hlt : decide ((i : Int) < 0) = false := by simp
    cases hnm : (rd_T50 l a).f1 with
    | false =>
      have HNM := Aside0.mk hnm
      rw [hnm] at q1
      clear hnm HF
      go_wp2_with fail
      refine setN_letter [.string ⟨#[]⟩, .bool false, .string ⟨#[]⟩, .int .i64 0, .int .i64 0, .int .i64 0, .int .i64 0] H10.out.2.2 rfl fun W9 hb9 hg9 => ?_
      have hB9 := H10.out.2.1.grown hg9 (below_size H10.out.2.1) (fun k hk => by injection hk with hk; omega)
      refine bodyPost_ret (results_row1 rfl _ _ (w.heap.size + 1 + 1 + 1) 50 _ (0, 0) _ rfl hb9 Try.underlying50 rfl (by kernel_rfl)) rfl ?_
      refine ⟨?_, hB9⟩
      have : symK l10 l a = none := by unfold symK; rw [HNM.out]; simp
      rw [this]
      rfl
    | true =>
      have HNM := Aside0.mk hnm
      rw [hnm] at q1
      clear hnm HF
      clear z0 z1 z2 z3 z4 z5 z6 fz0 fz1 fz2 fz3 fz4 fz5 fz6
      go_wp2_with fail
      refine (child_calls (fun x : S50 => x.f2.toList == (rd_T128 l10 i).f1.toList) _ _ _ c l a W1 (Kd.C_below HR.out H10.out.2.1) HC.out HO.out fun x W' hb' => sym2_calls x _ _ A10 c10 l10 i W' (pw_cell_below hb' Hl10.out) (pw_cell_below hb' Hy.out) (Kd.C_below HR10.out (below_step H10.out.2.1 hb')) HP.out.1).mono ?_
      rintro e w4 ⟨rfl, hb4⟩
      have H11 := Aside0.mk (And.intro (blk_below H10.out.2.2 hb4) (below_step H10.out.2.1 hb4))
      clear hb4 q1
      generalize hx : childK (fun x : S50 => x.f2.toList == (rd_T128 l10 i).f1.toList) l a = x
      have HX := Aside0.mk hx
      clear hx
      unfold nodeV
      have z0 : w4.cell? ⟨w.heap.size + 1 + 1 + 1, 0, none⟩ = some (.string ⟨#[]⟩) := (blk_cell H11.out.1 0).trans rfl
      have fz0 := blk_frozen H11.out.1 0
      have z1 : w4.cell? ⟨w.heap.size + 1 + 1 + 1, 1, none⟩ = some (.bool false) := (blk_cell H11.out.1 1).trans rfl
      have fz1 := blk_frozen H11.out.1 1
      have z2 : w4.cell? ⟨w.heap.size + 1 + 1 + 1, 2, none⟩ = some (.string ⟨#[]⟩) := (blk_cell H11.out.1 2).trans rfl
      have fz2 := blk_frozen H11.out.1 2
      have z3 : w4.cell? ⟨w.heap.size + 1 + 1 + 1, 3, none⟩ = some (.int .i64 0) := (blk_cell H11.out.1 3).trans rfl
      have fz3 := blk_frozen H11.out.1 3
      have z4 : w4.cell? ⟨w.heap.size + 1 + 1 + 1, 4, none⟩ = some (.int .i64 0) := (blk_cell H11.out.1 4).trans rfl
      have fz4 := blk_frozen H11.out.1 4
      have z5 : w4.cell? ⟨w.heap.size + 1 + 1 + 1, 5, none⟩ = some (.int .i64 0) := (blk_cell H11.out.1 5).trans rfl
      have fz5 := blk_frozen H11.out.1 5
      have z6 : w4.cell? ⟨w.heap.size + 1 + 1 + 1, 6, none⟩ = some (.int .i64 0) := (blk_cell H11.out.1 6).trans rfl
      have fz6 := blk_frozen H11.out.1 6
      go_wp2_with fail
      refine setN_letter [.string (x.getD z50).f0, .bool (x.getD z50).f1, .string (x.getD z50).f2, .int .i64 (x.getD z50).f3, .int .i64 (x.getD z50).f4, .int .i64 (x.getD z50).f5, .int .i64 (x.getD z50).f6] H11.out.1 rfl fun W9 hb9 hg9 => ?_
      have hB9 := H11.out.2.grown hg9 (below_size H11.out.2) (fun k hk => by injection hk with hk; omega)
      refine bodyPost_ret (results_row1 rfl _ _ (w.heap.size + 1 + 1 + 1) 50 _ (0, 0) _ rfl hb9 Try.underlying50 rfl (by kernel_rfl)) rfl ?_
      refine ⟨?_, hB9⟩
      have : symK l10 l a = x := by
        unfold symK
        rw [if_pos HNM.out, find_of_first (p := fun m : S128 => m.f0.toList == (rd_T50 l a).f0.toList) HP.out.1 HP.out.2.1 HP.out.2.2]
        exact HX.out
      rw [this]
      rfl
  · have HP := Aside0.mk hn
    clear hn HF q1
    have hlt : decide ((-1 : Int) < 0) = true := rfl
    go_wp2_with fail
    refine setN_letter [.string ⟨#[]⟩, .bool false, .string ⟨#[]⟩, .int .i64 0, .int .i64 0, .int .i64 0, .int .i64 0] H10.out.2.2 rfl fun W9 hb9 hg9 => ?_
    have hB9 := H10.out.2.1.grown hg9 (below_size H10.out.2.1) (fun k hk => by injection hk with hk; omega)
    refine bodyPost_ret (results_row1 rfl _ _ (w.heap.size + 1 + 1 + 1) 50 _ (0, 0) _ rfl hb9 Try.underlying50 rfl (by kernel_rfl)) rfl ?_
    refine ⟨?_, hB9⟩
    have : symK l10 l a = none := by unfold symK; split; rw [find_of_none (p := fun m : S128 => m.f0.toList == (rd_T50 l a).f0.toList) HP.out]; rfl
    rw [this]
    rfl

def symT (r : Option S50) : ByteArray × Bool × ByteArray × Int × Int × Int × Int × Bool := ((r.getD z50).f0, (r.getD z50).f1, (r.getD z50).f2, (r.getD z50).f3, (r.getD z50).f4, (r.getD z50).f5, (r.getD z50).f6, r.isSome)
def outline_symbol.f (a0_0 : ByteArray) (a0_1 a0_2 a0_3 a0_4 a0_5 a0_6 a0_7 a0_8 : Unit) (l0_9 : List ByteArray) (l0_10 : List S128) (a0_11 : Unit) (l1 : List S50) (a2 : Int) : Option (ByteArray × Bool × ByteArray × Int × Int × Int × Int × Bool) :=
  if okN l1 = true then if 0 ≤ a2 then if a2 < (l1.length : Int) then some (symT (symK l0_10 l1 a2)) else none else none else none
theorem outline_symbol.calls (a0_0 : ByteArray) (a0_1 a0_2 a0_3 a0_4 a0_5 a0_6 a0_7 a0_8 : Unit) (A0_9 : Option Addr) (c0_9 : Nat) (l0_9 : List ByteArray) (A0_10 : Option Addr) (c0_10 : Nat) (l0_10 : List S128) (a0_11 : Unit) (A1 : Option Addr) (c1 : Nat) (l1 : List S50) (a2 : Int)
    (r1 : ByteArray) (r2 : Bool) (r3 : ByteArray) (r4 r5 r6 r7 : Int) (r8 : Bool) (w : World)
    (hr0_9 : Kd.C Kd.string w A0_9 l0_9.length l0_9) (hc0_9 : l0_9.length ≤ c0_9) (hr0_10 : Kd.C k128 w A0_10 l0_10.length l0_10) (hc0_10 : l0_10.length ≤ c0_10) (hr1 : Kd.C k50 w A1 l1.length l1) (hc1 : l1.length ≤ c1)
    (h : outline_symbol.f a0_0 a0_1 a0_2 a0_3 a0_4 a0_5 a0_6 a0_7 a0_8 l0_9 l0_10 a0_11 l1 a2 = some (r1, r2, r3, r4, r5, r6, r7, r8)) :
    Calls Try.prog 32 #[.agg #[.string a0_0, .slice none 0 0, .slice none 0 0, .slice none 0 0, .slice none 0 0, .slice none 0 0, .slice none 0 0, .slice none 0 0, .slice none 0 0, .slice A0_9 l0_9.length c0_9, .slice A0_10 l0_10.length c0_10, .slice none 0 0], .slice A1 l1.length c1, .int .i64 a2] w
      fun e w' => e = .returned (.tuple #[.agg #[.string r1, .bool r2, .string r3, .int .i64 r4, .int .i64 r5, .int .i64 r6, .int .i64 r7], .bool r8]) ∧ Below w.heap.size w w' := by
  unfold outline_symbol.f at h
  split at h
  · rename_i ho
    split at h
    · rename_i h0
      split at h
      · rename_i h1
        refine (symbol_calls a0_0 A0_9 A0_10 A1 c0_9 c0_10 c1 l0_9 l0_10 l1 a2 w hr0_10 hr1 hc1 ho h0 h1).mono ?_
        rintro e w' ⟨rfl, hb⟩
        have h := Option.some.inj h
        simp only [symT, Prod.mk.injEq] at h
        obtain ⟨rfl, rfl, rfl, rfl, rfl, rfl, rfl, rfl⟩ := h
        exact ⟨rfl, hb⟩
      · cases h
    · cases h
  · cases h
end Go.Proofs.Ytmhmmffhmdbclaa.PO
