/- tree.plant: what the call makes is the plain forest 'plantK'. -/
import Derived.Test.YtmhmmffhmdbclaaPOx0
import Derived.Test.YtmhmmffhmdbclaaH
import Derived.Test.YtmhmmffhmdbclaaTreeA
import Derived.RegionTactic
namespace Go.Proofs.Ytmhmmffhmdbclaa.PO
open Go.RowKit Go.Proofs.YtmhmmffhmdbclaaW.PrintWords Go.Proofs.YtmhmmffhmdbclaaW.PrintLast Go.Proofs.YtmhmmffhmdbclaaW.PrintMore H Pl
set_option linter.unusedVariables false
set_option linter.unusedSimpArgs false
def plantK (l : List S50) : List Int × List Int × Bool := plantS (l.map (·.f5)) 0 [] (List.replicate l.length 0) (List.replicate l.length 0)

/-- What stands behind what has come up of region 1. -/
def In1 (A : Option Addr) (c : Nat) (l : List S50) (w : World) (gr : Nat) (L : Array Bool) (a : Act) (W : World) : Prop :=
 ∃ u3 u8 u9 u10 u11 u12 u13 u14 u15 : Value, a = ⟨#[.slice A l.length c, undef, .pointer (some ⟨gr, 0, none⟩), u3, undef, undef, undef, undef, u8, u9, u10, u11, u12, u13, u14, u15, undef, undef, undef, undef, undef, undef, undef, undef, undef, undef, undef, undef, undef, undef, undef, undef, undef, undef, undef, undef, undef, undef, undef, undef, undef, undef, undef, undef, undef, undef, undef, undef, undef, undef, undef, undef, undef, undef, undef, undef, undef, undef, undef, undef, undef, undef, undef, undef, undef, undef, undef, undef, undef, undef, undef, undef, undef, undef, undef, undef, undef, undef, undef, undef, undef, undef, undef, undef, undef, undef, undef, undef, undef, undef, undef, undef, undef, undef, undef, undef, undef, undef, undef, undef], []⟩ ∧
  (L.getD 0 false = true → u8 = .slice A l.length c) ∧ (L.getD 1 false = true → u9 = .slice A l.length c) ∧ (L.getD 2 false = true → u10 = .int .i64 (l.length : Int)) ∧
  (L.getD 4 false = true → u12 = .slice A l.length c) ∧ (L.getD 5 false = true → u13 = .int .i64 (l.length : Int)) ∧
  (L.getD 7 false = true → L.getD 3 false = true ∧ L.getD 6 false = true) ∧ (L.getD 9 false = true → L.getD 7 false = true ∧ L.getD 8 false = true) ∧
  (L.getD 7 false = true → u15 = .agg #[.slice A l.length c, u11, u14, .bool false]) ∧
  (L.getD 8 false = true → ∃ g3, u3 = .pointer (some ⟨g3, 0, none⟩) ∧ W.heap[g3]? = some (.cells (if L.getD 9 false then #[.slice A l.length c, u11, u14, .bool false] else #[.slice none 0 0, .slice none 0 0, .slice none 0 0, .bool false]) 135 (0, 0)) ∧ w.heap.size ≤ g3 ∧ g3 ≠ gr) ∧
  Ints W w.heap.size ((if L.getD 3 false then [(u11, List.replicate l.length 0)] else []) ++ (if L.getD 6 false then [(u14, List.replicate l.length 0)] else [])) ∧
  W.heap[gr]? = some (.cells #[.slice none 0 0, .slice none 0 0, .slice none 0 0, .bool false] 135 (0, 0)) ∧ Below w.heap.size w W

set_option maxHeartbeats 1000000 in
set_option maxRecDepth 100000 in
theorem plant_calls (A : Option Addr) (c : Nat) (l : List S50) (w : World) (hr : Kd.C k50 w A l.length l) (hc : l.length ≤ c) (hn : l.length ≤ 1954687338268)
  (hk : ∀ x ∈ l, x.f5 ≤ 9223372036854775807) :
  Calls Try.prog 62 #[.slice A l.length c] w fun e w' => ∃ v1 v2, e = .returned (.agg #[.slice A l.length c, v1, v2, .bool (plantK l).2.2]) ∧
   Ints w' w.heap.size [(v1, (plantK l).1), (v2, (plantK l).2.1)] ∧ Below w.heap.size w w' := by
 have hu135 := Try.underlying135
 have hu50 := Try.underlying50
 have HR := Aside0.mk hr
 have HC := Aside0.mk hc
 have HK := Aside0.mk hk
 clear hr hc hk
 go_enter Try.func62, Try.ntmps62
 go_wp2_with fail
 refine alloc_letter ?_
 intro W0 hb0 hblk0 hsz0
 refine wp_region_inv (by kernel_rfl) (In1 A c l w w.heap.size) ?h0 ?hstep ?hend
 case h0 => exact ⟨undef, undef, undef, undef, undef, undef, undef, undef, undef, rfl, by simp, by simp, by simp, by simp, by simp, by simp, by simp, by simp, by simp, by simpa using Ints.nil _ _, hblk0, below_drew hb0⟩
 case hstep =>
  intro i o ho L a W hL hni hpre hI
  have hL' : L.size = 10 := by simpa using hL
  have hi : i < 10 := by have := (Array.getElem?_eq_some_iff.1 ho).1; simpa using this
  obtain ⟨u3, u8, u9, u10, u11, u12, u13, u14, u15, rfl, h8, h9, h10, h12, h13, k7, k9, h15, h3, HI, hgr, hb⟩ := hI
  have hn0 := up_not hni
  clear hL
  obtain rfl | rfl | rfl | rfl | rfl | rfl | rfl | rfl | rfl | rfl : i = 0 ∨ i = 1 ∨ i = 2 ∨ i = 3 ∨ i = 4 ∨ i = 5 ∨ i = 6 ∨ i = 7 ∨ i = 8 ∨ i = 9 := by omega
  all_goals cases ho
  ·-- operation 0
   have X := Aside0.mk (And.intro h8 (And.intro h9 (And.intro h10 (And.intro h12 (And.intro h13 (And.intro k7 (And.intro k9 (And.intro h15 (And.intro h3 (And.intro HI (And.intro hgr hb)))))))))))
   have Y := Aside0.mk (And.intro hpre (And.intro hn0 hni))
   clear h8 h9 h10 h12 h13 k7 k9 h15 h3 HI hgr hb hpre hn0 hni
   go_wp2_with fail
   show In1 A c l w w.heap.size _ _ _
   unfold In1
   simp only [up_self _ (show 0 < L.size by omega), getD_set_ne _ (show (0 : Nat) ≠ 1 by decide), getD_set_ne _ (show (0 : Nat) ≠ 2 by decide), getD_set_ne _ (show (0 : Nat) ≠ 3 by decide), getD_set_ne _ (show (0 : Nat) ≠ 4 by decide), getD_set_ne _ (show (0 : Nat) ≠ 5 by decide), getD_set_ne _ (show (0 : Nat) ≠ 6 by decide), getD_set_ne _ (show (0 : Nat) ≠ 7 by decide), getD_set_ne _ (show (0 : Nat) ≠ 8 by decide), getD_set_ne _ (show (0 : Nat) ≠ 9 by decide)]
   exact ⟨_, _, _, _, _, _, _, _, _, rfl, fun _ => rfl, X.out.2.1, X.out.2.2.1, X.out.2.2.2.1, X.out.2.2.2.2.1, X.out.2.2.2.2.2.1, X.out.2.2.2.2.2.2.1, X.out.2.2.2.2.2.2.2.1, X.out.2.2.2.2.2.2.2.2.1, X.out.2.2.2.2.2.2.2.2.2.1, X.out.2.2.2.2.2.2.2.2.2.2.1, X.out.2.2.2.2.2.2.2.2.2.2.2⟩
  ·-- operation 1
   have X := Aside0.mk (And.intro h8 (And.intro h9 (And.intro h10 (And.intro h12 (And.intro h13 (And.intro k7 (And.intro k9 (And.intro h15 (And.intro h3 (And.intro HI (And.intro hgr hb)))))))))))
   have Y := Aside0.mk (And.intro hpre (And.intro hn0 hni))
   clear h8 h9 h10 h12 h13 k7 k9 h15 h3 HI hgr hb hpre hn0 hni
   go_wp2_with fail
   show In1 A c l w w.heap.size _ _ _
   unfold In1
   simp only [up_self _ (show 1 < L.size by omega), getD_set_ne _ (show (1 : Nat) ≠ 0 by decide), getD_set_ne _ (show (1 : Nat) ≠ 2 by decide), getD_set_ne _ (show (1 : Nat) ≠ 3 by decide), getD_set_ne _ (show (1 : Nat) ≠ 4 by decide), getD_set_ne _ (show (1 : Nat) ≠ 5 by decide), getD_set_ne _ (show (1 : Nat) ≠ 6 by decide), getD_set_ne _ (show (1 : Nat) ≠ 7 by decide), getD_set_ne _ (show (1 : Nat) ≠ 8 by decide), getD_set_ne _ (show (1 : Nat) ≠ 9 by decide)]
   exact ⟨_, _, _, _, _, _, _, _, _, rfl, X.out.1, fun _ => rfl, X.out.2.2.1, X.out.2.2.2.1, X.out.2.2.2.2.1, X.out.2.2.2.2.2.1, X.out.2.2.2.2.2.2.1, X.out.2.2.2.2.2.2.2.1, X.out.2.2.2.2.2.2.2.2.1, X.out.2.2.2.2.2.2.2.2.2.1, X.out.2.2.2.2.2.2.2.2.2.2.1, X.out.2.2.2.2.2.2.2.2.2.2.2⟩
  ·-- operation 2
   have p1 := hpre ⟨1, .data⟩ (by simp) rfl
   obtain rfl := h9 p1
   have X := Aside0.mk (And.intro h8 (And.intro h9 (And.intro h10 (And.intro h12 (And.intro h13 (And.intro k7 (And.intro k9 (And.intro h15 (And.intro h3 (And.intro HI (And.intro hgr hb)))))))))))
   have Y := Aside0.mk (And.intro hpre (And.intro hn0 hni))
   clear h8 h9 h10 h12 h13 k7 k9 h15 h3 HI hgr hb hpre hn0 hni p1
   go_wp2_with fail
   show In1 A c l w w.heap.size _ _ _
   unfold In1
   simp only [up_self _ (show 2 < L.size by omega), getD_set_ne _ (show (2 : Nat) ≠ 0 by decide), getD_set_ne _ (show (2 : Nat) ≠ 1 by decide), getD_set_ne _ (show (2 : Nat) ≠ 3 by decide), getD_set_ne _ (show (2 : Nat) ≠ 4 by decide), getD_set_ne _ (show (2 : Nat) ≠ 5 by decide), getD_set_ne _ (show (2 : Nat) ≠ 6 by decide), getD_set_ne _ (show (2 : Nat) ≠ 7 by decide), getD_set_ne _ (show (2 : Nat) ≠ 8 by decide), getD_set_ne _ (show (2 : Nat) ≠ 9 by decide)]
   exact ⟨_, _, _, _, _, _, _, _, _, rfl, X.out.1, fun _ => rfl, fun _ => rfl, X.out.2.2.2.1, X.out.2.2.2.2.1, X.out.2.2.2.2.2.1, X.out.2.2.2.2.2.2.1, X.out.2.2.2.2.2.2.2.1, X.out.2.2.2.2.2.2.2.2.1, X.out.2.2.2.2.2.2.2.2.2.1, X.out.2.2.2.2.2.2.2.2.2.2.1, X.out.2.2.2.2.2.2.2.2.2.2.2⟩
  ·-- operation 3
   have p2 := hpre ⟨2, .data⟩ (by simp) rfl
   obtain rfl := h10 p2
   have hmk := print_make 89 3 .i64 8 Try.underlying89 info3 (by omega) l.length (by omega)
   have X := Aside0.mk (And.intro h8 (And.intro h9 (And.intro h10 (And.intro h12 (And.intro h13 (And.intro k7 (And.intro k9 (And.intro h15 (And.intro h3 (And.intro HI (And.intro hgr hb)))))))))))
   have Y := Aside0.mk (And.intro hpre (And.intro hn0 hni))
   clear h8 h9 h10 h12 h13 k7 k9 h15 h3 HI hgr hb hpre hn0 hni p2
   go_wp2_with fail
   show In1 A c l w w.heap.size _ _ _
   unfold In1
   simp only [up_self _ (show 3 < L.size by omega), getD_set_ne _ (show (3 : Nat) ≠ 0 by decide), getD_set_ne _ (show (3 : Nat) ≠ 1 by decide), getD_set_ne _ (show (3 : Nat) ≠ 2 by decide), getD_set_ne _ (show (3 : Nat) ≠ 4 by decide), getD_set_ne _ (show (3 : Nat) ≠ 5 by decide), getD_set_ne _ (show (3 : Nat) ≠ 6 by decide), getD_set_ne _ (show (3 : Nat) ≠ 7 by decide), getD_set_ne _ (show (3 : Nat) ≠ 8 by decide), getD_set_ne _ (show (3 : Nat) ≠ 9 by decide)]
   exact ⟨_, _, _, _, _, _, _, _, _, rfl, X.out.1, X.out.2.1, fun _ => rfl, X.out.2.2.2.1, X.out.2.2.2.2.1, fun h => ⟨trivial, (X.out.2.2.2.2.2.1 h).2⟩, X.out.2.2.2.2.2.2.1, fun h => absurd (X.out.2.2.2.2.2.1 h).1 (by rw [Y.out.2.1]; decide), fun h => by obtain ⟨g3, e, hg, h1, h2⟩ := X.out.2.2.2.2.2.2.2.2.1 h; refine ⟨g3, e, ?_, h1, h2⟩; rw [if_neg (fun h9 => absurd (X.out.2.2.2.2.2.1 (X.out.2.2.2.2.2.2.1 h9).1).1 (by rw [Y.out.2.1]; decide))] at hg ⊢; exact blk_alloc hg _, by have z := X.out.2.2.2.2.2.2.2.2.2.1; simp only [Y.out.2.1, Bool.false_eq_true, if_false, if_true, List.nil_append, List.append_nil, List.cons_append] at z ⊢; exact z.cons_made l.length (below_size X.out.2.2.2.2.2.2.2.2.2.2.2) (by omega), blk_alloc X.out.2.2.2.2.2.2.2.2.2.2.1 _, below_alloc X.out.2.2.2.2.2.2.2.2.2.2.2 _⟩
  ·-- operation 4
   have X := Aside0.mk (And.intro h8 (And.intro h9 (And.intro h10 (And.intro h12 (And.intro h13 (And.intro k7 (And.intro k9 (And.intro h15 (And.intro h3 (And.intro HI (And.intro hgr hb)))))))))))
   have Y := Aside0.mk (And.intro hpre (And.intro hn0 hni))
   clear h8 h9 h10 h12 h13 k7 k9 h15 h3 HI hgr hb hpre hn0 hni
   go_wp2_with fail
   show In1 A c l w w.heap.size _ _ _
   unfold In1
   simp only [up_self _ (show 4 < L.size by omega), getD_set_ne _ (show (4 : Nat) ≠ 0 by decide), getD_set_ne _ (show (4 : Nat) ≠ 1 by decide), getD_set_ne _ (show (4 : Nat) ≠ 2 by decide), getD_set_ne _ (show (4 : Nat) ≠ 3 by decide), getD_set_ne _ (show (4 : Nat) ≠ 5 by decide), getD_set_ne _ (show (4 : Nat) ≠ 6 by decide), getD_set_ne _ (show (4 : Nat) ≠ 7 by decide), getD_set_ne _ (show (4 : Nat) ≠ 8 by decide), getD_set_ne _ (show (4 : Nat) ≠ 9 by decide)]
   exact ⟨_, _, _, _, _, _, _, _, _, rfl, X.out.1, X.out.2.1, X.out.2.2.1, fun _ => rfl, X.out.2.2.2.2.1, X.out.2.2.2.2.2.1, X.out.2.2.2.2.2.2.1, X.out.2.2.2.2.2.2.2.1, X.out.2.2.2.2.2.2.2.2.1, X.out.2.2.2.2.2.2.2.2.2.1, X.out.2.2.2.2.2.2.2.2.2.2.1, X.out.2.2.2.2.2.2.2.2.2.2.2⟩
  ·-- operation 5
   have p4 := hpre ⟨4, .data⟩ (by simp) rfl
   obtain rfl := h12 p4
   have X := Aside0.mk (And.intro h8 (And.intro h9 (And.intro h10 (And.intro h12 (And.intro h13 (And.intro k7 (And.intro k9 (And.intro h15 (And.intro h3 (And.intro HI (And.intro hgr hb)))))))))))
   have Y := Aside0.mk (And.intro hpre (And.intro hn0 hni))
   clear h8 h9 h10 h12 h13 k7 k9 h15 h3 HI hgr hb hpre hn0 hni p4
   go_wp2_with fail
   show In1 A c l w w.heap.size _ _ _
   unfold In1
   simp only [up_self _ (show 5 < L.size by omega), getD_set_ne _ (show (5 : Nat) ≠ 0 by decide), getD_set_ne _ (show (5 : Nat) ≠ 1 by decide), getD_set_ne _ (show (5 : Nat) ≠ 2 by decide), getD_set_ne _ (show (5 : Nat) ≠ 3 by decide), getD_set_ne _ (show (5 : Nat) ≠ 4 by decide), getD_set_ne _ (show (5 : Nat) ≠ 6 by decide), getD_set_ne _ (show (5 : Nat) ≠ 7 by decide), getD_set_ne _ (show (5 : Nat) ≠ 8 by decide), getD_set_ne _ (show (5 : Nat) ≠ 9 by decide)]
   exact ⟨_, _, _, _, _, _, _, _, _, rfl, X.out.1, X.out.2.1, X.out.2.2.1, fun _ => rfl, fun _ => rfl, X.out.2.2.2.2.2.1, X.out.2.2.2.2.2.2.1, X.out.2.2.2.2.2.2.2.1, X.out.2.2.2.2.2.2.2.2.1, X.out.2.2.2.2.2.2.2.2.2.1, X.out.2.2.2.2.2.2.2.2.2.2.1, X.out.2.2.2.2.2.2.2.2.2.2.2⟩
  ·-- operation 6
   have p5 := hpre ⟨5, .data⟩ (by simp) rfl
   obtain rfl := h13 p5
   have hmk := print_make 89 3 .i64 8 Try.underlying89 info3 (by omega) l.length (by omega)
   have X := Aside0.mk (And.intro h8 (And.intro h9 (And.intro h10 (And.intro h12 (And.intro h13 (And.intro k7 (And.intro k9 (And.intro h15 (And.intro h3 (And.intro HI (And.intro hgr hb)))))))))))
   have Y := Aside0.mk (And.intro hpre (And.intro hn0 hni))
   clear h8 h9 h10 h12 h13 k7 k9 h15 h3 HI hgr hb hpre hn0 hni p5
   go_wp2_with fail
   show In1 A c l w w.heap.size _ _ _
   unfold In1
   simp only [up_self _ (show 6 < L.size by omega), getD_set_ne _ (show (6 : Nat) ≠ 0 by decide), getD_set_ne _ (show (6 : Nat) ≠ 1 by decide), getD_set_ne _ (show (6 : Nat) ≠ 2 by decide), getD_set_ne _ (show (6 : Nat) ≠ 3 by decide), getD_set_ne _ (show (6 : Nat) ≠ 4 by decide), getD_set_ne _ (show (6 : Nat) ≠ 5 by decide), getD_set_ne _ (show (6 : Nat) ≠ 7 by decide), getD_set_ne _ (show (6 : Nat) ≠ 8 by decide), getD_set_ne _ (show (6 : Nat) ≠ 9 by decide)]
   exact ⟨_, _, _, _, _, _, _, _, _, rfl, X.out.1, X.out.2.1, X.out.2.2.1, X.out.2.2.2.1, fun _ => rfl, fun h => ⟨(X.out.2.2.2.2.2.1 h).1, trivial⟩, X.out.2.2.2.2.2.2.1, fun h => absurd (X.out.2.2.2.2.2.1 h).2 (by rw [Y.out.2.1]; decide), fun h => by obtain ⟨g3, e, hg, h1, h2⟩ := X.out.2.2.2.2.2.2.2.2.1 h; refine ⟨g3, e, ?_, h1, h2⟩; rw [if_neg (fun h9 => absurd (X.out.2.2.2.2.2.1 (X.out.2.2.2.2.2.2.1 h9).1).2 (by rw [Y.out.2.1]; decide))] at hg ⊢; exact blk_alloc hg _, by have z := X.out.2.2.2.2.2.2.2.2.2.1; simp only [Y.out.2.1, Bool.false_eq_true, if_false, if_true, List.nil_append, List.append_nil, List.cons_append] at z ⊢; have y := z.cons_made l.length (below_size X.out.2.2.2.2.2.2.2.2.2.2.2) (by omega); split; (rename_i h3; rw [if_pos h3] at y; exact y.swap); (rename_i h3; rw [if_neg h3] at y; exact y), blk_alloc X.out.2.2.2.2.2.2.2.2.2.2.1 _, below_alloc X.out.2.2.2.2.2.2.2.2.2.2.2 _⟩
  ·-- operation 7
   have p0 := hpre ⟨0, .data⟩ (by simp) rfl
   have p3 := hpre ⟨3, .data⟩ (by simp) rfl
   have p6 := hpre ⟨6, .data⟩ (by simp) rfl
   obtain rfl := h8 p0
   have HI2 := HI
   rw [if_pos p3, if_pos p6] at HI2
   obtain ⟨A11, c11, e11, _⟩ := Ints.shape (L1 := []) HI2
   rw [List.length_replicate] at e11
   subst e11
   obtain ⟨A14, c14, e14, _⟩ := Ints.shape (L1 := [(.slice A11 _ c11, _)]) HI2
   rw [List.length_replicate] at e14
   subst e14
   clear HI2
   have Z := Aside0.mk (And.intro p3 p6)
   have X := Aside0.mk (And.intro h8 (And.intro h9 (And.intro h10 (And.intro h12 (And.intro h13 (And.intro k7 (And.intro k9 (And.intro h15 (And.intro h3 (And.intro HI (And.intro hgr hb)))))))))))
   have Y := Aside0.mk (And.intro hpre (And.intro hn0 hni))
   clear h8 h9 h10 h12 h13 k7 k9 h15 h3 HI hgr hb hpre hn0 hni p0 p3 p6
   go_wp2_with fail
   show In1 A c l w w.heap.size _ _ _
   unfold In1
   simp only [up_self _ (show 7 < L.size by omega), getD_set_ne _ (show (7 : Nat) ≠ 0 by decide), getD_set_ne _ (show (7 : Nat) ≠ 1 by decide), getD_set_ne _ (show (7 : Nat) ≠ 2 by decide), getD_set_ne _ (show (7 : Nat) ≠ 3 by decide), getD_set_ne _ (show (7 : Nat) ≠ 4 by decide), getD_set_ne _ (show (7 : Nat) ≠ 5 by decide), getD_set_ne _ (show (7 : Nat) ≠ 6 by decide), getD_set_ne _ (show (7 : Nat) ≠ 8 by decide), getD_set_ne _ (show (7 : Nat) ≠ 9 by decide)]
   exact ⟨_, _, _, _, _, _, _, _, _, rfl, fun _ => rfl, X.out.2.1, X.out.2.2.1, X.out.2.2.2.1, X.out.2.2.2.2.1, fun _ => Z.out, fun h => ⟨trivial, (X.out.2.2.2.2.2.2.1 h).2⟩, fun _ => rfl, X.out.2.2.2.2.2.2.2.2.1, X.out.2.2.2.2.2.2.2.2.2.1, X.out.2.2.2.2.2.2.2.2.2.2.1, X.out.2.2.2.2.2.2.2.2.2.2.2⟩
  ·-- operation 8
   have X := Aside0.mk (And.intro h8 (And.intro h9 (And.intro h10 (And.intro h12 (And.intro h13 (And.intro k7 (And.intro k9 (And.intro h15 (And.intro h3 (And.intro HI (And.intro hgr hb)))))))))))
   have Y := Aside0.mk (And.intro hpre (And.intro hn0 hni))
   clear h8 h9 h10 h12 h13 k7 k9 h15 h3 HI hgr hb hpre hn0 hni
   go_wp2_with fail
   show In1 A c l w w.heap.size _ _ _
   unfold In1
   simp only [up_self _ (show 8 < L.size by omega), getD_set_ne _ (show (8 : Nat) ≠ 0 by decide), getD_set_ne _ (show (8 : Nat) ≠ 1 by decide), getD_set_ne _ (show (8 : Nat) ≠ 2 by decide), getD_set_ne _ (show (8 : Nat) ≠ 3 by decide), getD_set_ne _ (show (8 : Nat) ≠ 4 by decide), getD_set_ne _ (show (8 : Nat) ≠ 5 by decide), getD_set_ne _ (show (8 : Nat) ≠ 6 by decide), getD_set_ne _ (show (8 : Nat) ≠ 7 by decide), getD_set_ne _ (show (8 : Nat) ≠ 9 by decide)]
   exact ⟨_, _, _, _, _, _, _, _, _, rfl, X.out.1, X.out.2.1, X.out.2.2.1, X.out.2.2.2.1, X.out.2.2.2.2.1, X.out.2.2.2.2.2.1, fun h => ⟨(X.out.2.2.2.2.2.2.1 h).1, trivial⟩, X.out.2.2.2.2.2.2.2.1, fun _ => ⟨W.heap.size, rfl, by rw [if_neg (fun h9 => absurd (X.out.2.2.2.2.2.2.1 h9).2 (by rw [Y.out.2.1]; decide))]; exact blk_new W _, below_size X.out.2.2.2.2.2.2.2.2.2.2.2, by have := blk_lt X.out.2.2.2.2.2.2.2.2.2.2.1; omega⟩, X.out.2.2.2.2.2.2.2.2.2.1.moved (below_alloc (Below.refl _ _) _), blk_alloc X.out.2.2.2.2.2.2.2.2.2.2.1 _, below_alloc X.out.2.2.2.2.2.2.2.2.2.2.2 _⟩
  ·-- operation 9
   have p7 := hpre ⟨7, .data⟩ (by simp) rfl
   have p8 := hpre ⟨8, .data⟩ (by simp) rfl
   obtain rfl := h15 p7
   obtain ⟨g3, rfl, hg3, hge, hne⟩ := h3 p8
   rw [hn0, if_neg (by decide)] at hg3
   have HI2 := HI
   rw [if_pos (k7 p7).1, if_pos (k7 p7).2] at HI2
   obtain ⟨A11, c11, e11, _⟩ := Ints.shape (L1 := []) HI2
   rw [List.length_replicate] at e11
   subst e11
   obtain ⟨A14, c14, e14, _⟩ := Ints.shape (L1 := [(.slice A11 _ c11, _)]) HI2
   rw [List.length_replicate] at e14
   subst e14
   clear HI2 h3 h15
   have q0 : W.cell? ⟨g3, 0, none⟩ = some (.slice none 0 0) := (blk_cell hg3 0).trans rfl
   have q1 : W.cell? ⟨g3, 1, none⟩ = some (.slice none 0 0) := (blk_cell hg3 1).trans rfl
   have q2 : W.cell? ⟨g3, 2, none⟩ = some (.slice none 0 0) := (blk_cell hg3 2).trans rfl
   have q3 : W.cell? ⟨g3, 3, none⟩ = some (.bool false) := (blk_cell hg3 3).trans rfl
   have z0 := blk_frozen hg3 0
   have z1 := blk_frozen hg3 1
   have z2 := blk_frozen hg3 2
   have z3 := blk_frozen hg3 3
   have X := Aside0.mk (And.intro h8 (And.intro h9 (And.intro h10 (And.intro h12 (And.intro h13 (And.intro k7 (And.intro k9 (And.intro HI (And.intro hgr (And.intro hb (And.intro hg3 (And.intro hge (And.intro hne (And.intro p7 p8))))))))))))))
   have Y := Aside0.mk (And.intro hpre (And.intro hn0 hni))
   clear h8 h9 h10 h12 h13 k7 k9 HI hgr hb hpre hn0 hni p7 p8 hg3 hge hne
   go_wp2_with fail
   show In1 A c l w w.heap.size _ _ _
   unfold In1
   simp only [up_self _ (show 9 < L.size by omega), getD_set_ne _ (show (9 : Nat) ≠ 0 by decide), getD_set_ne _ (show (9 : Nat) ≠ 1 by decide), getD_set_ne _ (show (9 : Nat) ≠ 2 by decide), getD_set_ne _ (show (9 : Nat) ≠ 3 by decide), getD_set_ne _ (show (9 : Nat) ≠ 4 by decide), getD_set_ne _ (show (9 : Nat) ≠ 5 by decide), getD_set_ne _ (show (9 : Nat) ≠ 6 by decide), getD_set_ne _ (show (9 : Nat) ≠ 7 by decide), getD_set_ne _ (show (9 : Nat) ≠ 8 by decide)]
   exact ⟨_, _, _, _, _, _, _, _, _, rfl, X.out.1, X.out.2.1, X.out.2.2.1, X.out.2.2.2.1, X.out.2.2.2.2.1, X.out.2.2.2.2.2.1, fun _ => ⟨X.out.2.2.2.2.2.2.2.2.2.2.2.2.2.1, X.out.2.2.2.2.2.2.2.2.2.2.2.2.2.2⟩, fun _ => rfl, fun _ => ⟨g3, rfl, by rw [if_pos trivial]; exact blk_put (blk_put (blk_put (blk_put X.out.2.2.2.2.2.2.2.2.2.2.1 0 _ rfl) 1 _ rfl) 2 _ rfl) 3 _ rfl, X.out.2.2.2.2.2.2.2.2.2.2.2.1, X.out.2.2.2.2.2.2.2.2.2.2.2.2.1⟩, ((((X.out.2.2.2.2.2.2.2.1.grown (grown_set _ _ _ _) (Ints.ne X.out.2.2.2.2.2.2.2.1 X.out.2.2.2.2.2.2.2.2.2.2.1 (by decide))).grown (grown_set _ _ _ _) (Ints.ne X.out.2.2.2.2.2.2.2.1 X.out.2.2.2.2.2.2.2.2.2.2.1 (by decide))).grown (grown_set _ _ _ _) (Ints.ne X.out.2.2.2.2.2.2.2.1 X.out.2.2.2.2.2.2.2.2.2.2.1 (by decide))).grown (grown_set _ _ _ _) (Ints.ne X.out.2.2.2.2.2.2.2.1 X.out.2.2.2.2.2.2.2.2.2.2.1 (by decide))), blk_far (blk_far (blk_far (blk_far X.out.2.2.2.2.2.2.2.2.1 (Ne.symm X.out.2.2.2.2.2.2.2.2.2.2.2.2.1) _) (Ne.symm X.out.2.2.2.2.2.2.2.2.2.2.2.2.1) _) (Ne.symm X.out.2.2.2.2.2.2.2.2.2.2.2.2.1) _) (Ne.symm X.out.2.2.2.2.2.2.2.2.2.2.2.2.1) _, below_set (below_set (below_set (below_set X.out.2.2.2.2.2.2.2.2.2.1 X.out.2.2.2.2.2.2.2.2.2.2.2.1) X.out.2.2.2.2.2.2.2.2.2.2.2.1) X.out.2.2.2.2.2.2.2.2.2.2.2.1) X.out.2.2.2.2.2.2.2.2.2.2.2.1⟩
 case hend =>
  intro L a W hL hr hI
  have hup := up_all hL hr (by kernel_rfl)
  obtain ⟨u3, u8, u9, u10, u11, u12, u13, u14, u15, rfl, h8, h9, h10, h12, h13, k7, k9, h15, h3, HI, hgr, hb⟩ := hI
  obtain ⟨g3, rfl, hg3, hge, hne⟩ := h3 (hup 8 (by decide))
  rw [if_pos (hup 9 (by decide))] at hg3
  rw [if_pos (hup 3 (by decide)), if_pos (hup 6 (by decide))] at HI
  clear h8 h9 h10 h12 h13 k7 k9 h15 h3 hup hr hL L hblk0 hb0 hsz0 W0
  obtain ⟨A11, c11, e11, _⟩ := Ints.shape (L1 := []) HI
  rw [List.length_replicate] at e11
  subst e11
  obtain ⟨A14, c14, e14, _⟩ := Ints.shape (L1 := [(.slice A11 _ c11, _)]) HI
  rw [List.length_replicate] at e14
  subst e14
  go_wp2_with fail
  have hlk : ∀ i, i < l.length → rd_T50 l (i : Int) ∈ l := fun i hi => by simp [rd_T50, List.getD_eq_getElem?_getD, List.getElem?_eq_getElem hi]
  have HG := Aside0.mk (And.intro hg3 (And.intro hgr hb))
  have HI0 := Aside0.mk HI.cons_nil.cons_nil
  have HLK := Aside0.mk hlk
  have HGE := Aside0.mk (And.intro hge hne)
  clear hg3 hgr hb HI hlk hge
  go_loopg [4, 5, 18] l.length (fun k v4 v5 v18 W' => ∃ (i : Nat) (st : List (Int × Int)) (p e : List Int), k = l.length - i ∧ i ≤ l.length ∧ v18 = .int .i64 i ∧
   Aside0 (plantS ((l.map (·.f5)).drop i) i st p e = plantK l) ∧ Aside0 (Upr i st) ∧ Aside0 (st.length ≤ i) ∧ Aside0 (p.length = l.length) ∧ Aside0 (e.length = l.length) ∧
   Aside0 (Ints W' w.heap.size [(v4, opens st), (v5, lefts st), (.slice A11 l.length c11, p), (.slice A14 l.length c14, e)]) ∧
   Aside0 (W'.heap[g3]? = some (.cells #[.slice A l.length c, .slice A11 l.length c11, .slice A14 l.length c14, .bool false] 135 (0, 0)) ∧ W'.heap[w.heap.size]? = some (.cells #[.slice none 0 0, .slice none 0 0, .slice none 0 0, .bool false] 135 (0, 0)) ∧ Below w.heap.size w W'))
  case atStart => exact ⟨0, [], _, _, rfl, Nat.zero_le _, rfl, ⟨rfl⟩, ⟨by simp [Upr]⟩, ⟨by simp⟩, ⟨by simp⟩, ⟨by simp⟩, HI0, HG⟩
  case round =>
   clear HI0 HG
   obtain ⟨i, st, p, e, hk, hi, rfl, HP, HGd, HS, Hp, He, HI, HG⟩ := hrel
   by_cases hlt : i < l.length
   ·obtain ⟨ad, had, q0, q1, q2, q3, q4, q5, q6⟩ := at_T50 (Kd.C_below HR.out HG.out.2.2) (i : Int) (by omega) (by omega)
    subst had
    simp only [Int.toNat_natCast] at q0 q1 q2 q3 q4 q5 q6
    obtain ⟨g11, c11', e11, h11b, h11⟩ := Ints.form (L1 := [_, _]) HI.out (by rw [Hp.out]; omega)
    go_upto_region 6 with (fail)
    refine alloc_letter ?_
    intro W2 hb2 hbn hsz2
    have HI2 := HI.out.moved hb2
    have g3b := blk_below HG.out.1 hb2
    have grb := blk_below HG.out.2.1 hb2
    have hB2 := below_step HG.out.2.2 hb2
    injection e11 with e11 x1 x2
    subst e11
    clear x1 x2
    clear HI HG q0 q1 q2 q3 q4 q5 q6 h11b h11 hb2
    have k1 : W2.cell? ⟨g3, 1, none⟩ = some (.slice (some ⟨g11, 0, none⟩) l.length c11) := (blk_cell g3b 1).trans rfl
    obtain ⟨k2, k3⟩ := HI2.cell (L1 := [_, _]) Hp.out i hlt
    have HI2 := Aside0.mk HI2
    have HG2 := Aside0.mk (And.intro g3b (And.intro grb (And.intro hB2 hbn)))
    clear g3b grb hB2 hbn
    go_upto_region 7 with (fail)
    refine HI2.out.store_at (L1 := [_, _]) Hp.out i (-1) fun W3 HI3 st3 => ?_
    have hz2 : w.heap.size ≤ W2.heap.size := below_size HG2.out.2.2.1
    have HG3 := Aside0.mk (And.intro (st3.blk HG2.out.1 (by decide)) (And.intro (st3.blk HG2.out.2.1 (by decide)) (And.intro (st3.below HG2.out.2.2.1 hz2) (st3.blk HG2.out.2.2.2 (by decide)))))
    have hz3 : w.heap.size ≤ W3.heap.size := below_size HG3.out.2.2.1
    clear st3 HI2 HG2 k1 k2 k3
    obtain ⟨A4, c4, e4, h4⟩ := Ints.shape (L1 := []) HI3
    rw [opens_len] at e4
    subst e4
    have HI3 := Aside0.mk HI3
    go_upto_if 29 with (fail)
    go_cut [] from 30 to 47 (fun wc => Aside0 (Ints wc w.heap.size [(.slice A4 st.length c4, opens st), (u5, lefts (less st)), (.slice (some ⟨g11, 0, none⟩) l.length c11, p.set i (topOf st)), (.slice A14 l.length c14, e)]) ∧
     Aside0 (wc.heap[g3]? = some (.cells #[.slice (some ad) l.length c, .slice (some ⟨g11, 0, none⟩) l.length c11, .slice A14 l.length c14, .bool false] 135 (0, 0)) ∧ wc.heap[w.heap.size]? = some (.cells #[.slice none 0 0, .slice none 0 0, .slice none 0 0, .bool false] 135 (0, 0)) ∧ Below w.heap.size w wc ∧
      wc.heap[wr.heap.size]? = some (.cells #[.string (rd_T50 l i).f0, .bool (rd_T50 l i).f1, .string (rd_T50 l i).f2, .int .i64 (rd_T50 l i).f3, .int .i64 (rd_T50 l i).f4, .int .i64 (rd_T50 l i).f5, .int .i64 (rd_T50 l i).f6] 50 (0, 0))))
    case first =>
     cases st with
     | nil =>
      go_wp2_with fail
      go_meet
      case rel => exact ⟨⟨(by simpa [less, topOf] using HI3.out)⟩, HG3⟩
     | cons z st' =>
      have hu := HGd.out.1 z (by simp)
      have hu1 := HGd.out.2 z rfl
      have hd0 : 0 < (z :: st').length := by simp
      go_wp2_with fail
      clear hd0
      have hf : 0 < (opens (z :: st')).length := by rw [opens_len]; simp
      obtain ⟨g4, c4', e4, hz4⟩ := Ints.form (L1 := []) (xs := opens (z :: st')) HI3.out hf
      rw [opens_len] at e4
      injection e4 with e4a e4b e4c
      subst e4a e4c
      have r1 : W3.cell? ⟨g3, 1, none⟩ = some (.slice (some ⟨g11, 0, none⟩) l.length c11) := (blk_cell HG3.out.1 1).trans rfl
      obtain ⟨r2, _⟩ := HI3.out.cell (L1 := []) (opens_len _) st'.length (by simp)
      obtain ⟨r3, r4⟩ := HI3.out.cell (L1 := [_, _]) (by simpa using Hp.out) i hlt
      rw [show (opens (z :: st')).getD st'.length 0 = z.1 from by simp [opens_cons, List.getD_eq_getElem?_getD, ← opens_len]] at r2
      have hst : st'.length + 1 ≤ i := by simpa using HS.out
      have s1 : IntKind.i64.wrap ((st'.length : Int) + 1 - 1) = (st'.length : Int) := by rw [IntWalk.i64_in _ (by omega)]; omega
      have s2 : IntKind.i64.wrap (st'.length : Int) = (st'.length : Int) := IntWalk.i64_in _ (by omega)
      have s3 : (0 : Int) ≤ st'.length := by omega
      go_region
      go_upto_region 9 with (fail)
      refine HI3.out.store_drew_at (L1 := [_, _]) (by simpa using Hp.out) i z.1 fun W4 HI4 st4 => ?_
      have HG4 := Aside0.mk (And.intro (st4.blk HG3.out.1 (by decide)) (And.intro (st4.blk HG3.out.2.1 (by decide)) (And.intro (st4.below HG3.out.2.2.1 hz3) (st4.blk HG3.out.2.2.2 (by decide)))))
      have hz4 : w.heap.size ≤ W4.heap.size := below_size HG4.out.2.2.1
      clear r1 r2 r3 r4 HI3 HG3 st4
      have hf5 : 0 < (lefts (z :: st')).length := by rw [lefts_len]; simp
      obtain ⟨g5, c5, e5, _⟩ := Ints.form (L1 := [_]) (xs := lefts (z :: st')) HI4 hf5
      rw [lefts_len] at e5
      subst e5
      obtain ⟨r5, r6⟩ := HI4.cell (L1 := [_]) (lefts_len _) st'.length (by simp)
      rw [show (lefts (z :: st')).getD st'.length 0 = z.2 from by simp [lefts_cons, List.getD_eq_getElem?_getD, ← lefts_len]] at r5
      obtain ⟨_, _, _, hn2⟩ := hu
      have HI4 := Aside0.mk HI4
      go_wp2_with fail
      go_meet
      case rel =>
       have H5 := HI4.out.store (L1 := [_]) (lefts_len _) st'.length (z.2 - 1)
       have S5 := Step3.of_grown (HI4.out.mid (L1 := [_])).1 H5.2
       refine ⟨⟨?_⟩, ⟨S5.blk HG4.out.1 (by decide), S5.blk HG4.out.2.1 (by decide), S5.below HG4.out.2.2.1 hz4, S5.blk HG4.out.2.2.2 (by decide)⟩⟩
       have H6 := H5.1
       rw [lefts_less] at H6
       simpa [topOf_cons] using H6
    case rest =>
     obtain ⟨HI6, HG6⟩ := hcut
     have hz6 : w.heap.size ≤ wc.heap.size := below_size HG6.out.2.2.1
     clear HI3 HG3 hz3 hz2
     have r7 : wc.cell? ⟨wr.heap.size, 5, none⟩ = some (.int .i64 (rd_T50 l i).f5) := (blk_cell HG6.out.2.2.2 5).trans rfl
     by_cases hneg : (rd_T50 l i).f5 < 0
     ·have t0 : wc.cell? ⟨g3, 0, none⟩ = some (.slice (some ad) l.length c) := (blk_cell HG6.out.1 0).trans rfl
      have t1 : wc.cell? ⟨g3, 1, none⟩ = some (.slice (some ⟨g11, 0, none⟩) l.length c11) := (blk_cell HG6.out.1 1).trans rfl
      have t2 : wc.cell? ⟨g3, 2, none⟩ = some (.slice A14 l.length c14) := (blk_cell HG6.out.1 2).trans rfl
      have t3 : wc.cell? ⟨g3, 3, none⟩ = some (.bool false) := (blk_cell HG6.out.1 3).trans rfl
      have y0 : wc.cell? ⟨w.heap.size, 0, none⟩ = some (.slice none 0 0) := (blk_cell HG6.out.2.1 0).trans rfl
      have y1 : wc.cell? ⟨w.heap.size, 1, none⟩ = some (.slice none 0 0) := (blk_cell HG6.out.2.1 1).trans rfl
      have y2 : wc.cell? ⟨w.heap.size, 2, none⟩ = some (.slice none 0 0) := (blk_cell HG6.out.2.1 2).trans rfl
      have y3 : wc.cell? ⟨w.heap.size, 3, none⟩ = some (.bool false) := (blk_cell HG6.out.2.1 3).trans rfl
      have x0 := blk_frozen HG6.out.2.1 0
      have x1 := blk_frozen HG6.out.2.1 1
      have x2 := blk_frozen HG6.out.2.1 2
      have x3 := blk_frozen HG6.out.2.1 3
      go_wp2_with fail
      have hd : (l.map (·.f5)).drop i = (rd_T50 l i).f5 :: (l.map (·.f5)).drop (i + 1) := by
       rw [List.drop_eq_getElem_cons (by simpa using hlt)]
       simp [rd_T50, List.getD_eq_getElem?_getD, List.getElem?_eq_getElem hlt]
      have hfin := HP.out
      rw [hd] at hfin
      simp only [plantS, if_pos hneg, Int.toNat_natCast] at hfin
      have b0 := HG6.out.2.1
      have b1 := blk_put b0 0 (.slice (some ad) l.length c) rfl
      have b2 := blk_put b1 1 (.slice (some ⟨g11, 0, none⟩) l.length c11) rfl
      have b3 := blk_put b2 2 (.slice A14 l.length c14) rfl
      have b4 := blk_put b3 3 (.bool false) rfl
      refine bodyPost_ret (results_cell_row rfl _ _ w.heap.size 135 _ (0, 0) _ rfl b4 Try.underlying135 rfl (by kernel_rfl)) rfl ⟨.slice (some ⟨g11, 0, none⟩) l.length c11, .slice A14 l.length c14, ?_, ?_, ?_⟩
      ·rw [← hfin]; rfl
      ·rw [← hfin]
       exact (((HI6.out.tail.tail.sets b0 (by decide) _ _).sets b1 (by decide) _ _).sets b2 (by decide) _ _).sets b3 (by decide) _ _
      ·exact below_set (below_set (below_set (below_set HG6.out.2.2.1 (Nat.le_refl _)) (Nat.le_refl _)) (Nat.le_refl _)) (Nat.le_refl _)
     ·have hd : (l.map (·.f5)).drop i = (rd_T50 l i).f5 :: (l.map (·.f5)).drop (i + 1) := by
       rw [List.drop_eq_getElem_cons (by simpa using hlt)]
       simp [rd_T50, List.getD_eq_getElem?_getD, List.getElem?_eq_getElem hlt]
      have HD := Aside0.mk hd
      clear hd
      go_upto_region 12 with (fail)
      obtain ⟨Inv, hInv⟩ : ∃ I : Array Bool → Act → World → Prop, I = (fun L a W => ∃ z52 z53 z54 z55 z56 z57 z58 z59 z60 z4 z5 vo vl : Value, a = ⟨#[(Value.slice (some ad) l.length c), undef, (Value.pointer (some { block := w.heap.size, off := 0 })), (Value.pointer (some { block := g3, off := 0 })), z4, z5, (Value.int IntKind.i64 ↑i), (Value.pointer (some { block := wr.heap.size, off := 0 })), u8, u9, u10, (Value.slice (some { block := g11, off := 0 }) l.length c11), u12, u13, (Value.slice A14 l.length c14), u15, (Value.slice (some ad) l.length c), (Value.int IntKind.i64 ↑l.length), (Value.int IntKind.i64 ↑i), (Value.bool true), (Value.int IntKind.i64 ↑i), (Value.pointer (some (ad.add (i * 7)))), (Value.agg #[Value.string (rd_T50 l ↑i).f0, Value.bool (rd_T50 l ↑i).f1, Value.string (rd_T50 l ↑i).f2, Value.int IntKind.i64 (rd_T50 l ↑i).f3, Value.int IntKind.i64 (rd_T50 l ↑i).f4, Value.int IntKind.i64 (rd_T50 l ↑i).f5, Value.int IntKind.i64 (rd_T50 l ↑i).f6]), (Value.pointer (some { block := g3, off := 1 })), (Value.slice (some { block := g11, off := 0 }) l.length c11), (Value.int IntKind.i64 ↑i), (Value.pointer (some { block := g11, off := i })), (Value.slice A4 st.length c4), (Value.int IntKind.i64 ↑st.length), (Value.bool (decide (0 < st.length))), u30, u31, u32, u33, u34, u35, u36, u37, u38, u39, u40, u41, u42, u43, u44, u45, u46, u47, (Value.pointer (some { block := wr.heap.size, off := 5 })), (Value.int IntKind.i64 (rd_T50 l ↑i).f5), (Value.bool false), u51, z52, z53, z54, z55, z56, z57, z58, z59, z60, u61, u62, u63, u64, u65, u66, u67, u68, u69, u70, u71, u72, u73, u74, u75, u76, u77, u78, u79, u80, u81, u82, u83, u84, u85, u86, u87, u88, u89, u90, u91, u92, u93, u94, undef, undef, undef, undef, undef], []⟩ ∧ (L.getD 0 false = true → z52 = (Value.slice A4 st.length c4)) ∧ (L.getD 1 false = true → z53 = .int .i64 (i : Int)) ∧ (L.getD 4 false = true → z56 = u5) ∧ (L.getD 5 false = true → z57 = .pointer (some ⟨wr.heap.size, 5, none⟩)) ∧ (L.getD 6 false = true → z58 = .int .i64 (rd_T50 l i).f5) ∧ (L.getD 2 false = true → ∃ b, z54 = .slice (some ⟨b, 0, none⟩) 1 1) ∧ (L.getD 7 false = true → ∃ b, z59 = .slice (some ⟨b, 0, none⟩) 1 1) ∧ (L.getD 3 false = false → vo = (Value.slice A4 st.length c4)) ∧ (L.getD 8 false = false → vl = u5) ∧ (L.getD 3 false = true → z55 = vo) ∧ (L.getD 8 false = true → z60 = vl) ∧ (L.getD 9 false = true → z4 = vo) ∧ (L.getD 10 false = true → z5 = vl) ∧ (L.getD 9 false = false → z4 = (Value.slice A4 st.length c4)) ∧ (L.getD 10 false = false → z5 = u5) ∧ (L.getD 9 false = true → L.getD 0 false = true ∧ L.getD 3 false = true) ∧ (L.getD 10 false = true → L.getD 4 false = true ∧ L.getD 8 false = true) ∧ Ints W w.heap.size (((if L.getD 2 false then [(z54, [(i : Int)])] else []) ++ (if L.getD 7 false then [(z59, [(rd_T50 l i).f5])] else [])) ++ (vo, if L.getD 3 false then opens st ++ [(i : Int)] else opens st) :: (vl, if L.getD 8 false then lefts (less st) ++ [(rd_T50 l i).f5] else lefts (less st)) :: (.slice (some ⟨g11, 0, none⟩) l.length c11, p.set i (topOf st)) :: (.slice A14 l.length c14, e) :: []) ∧ W.heap[g3]? = some (.cells #[.slice (some ad) l.length c, .slice (some ⟨g11, 0, none⟩) l.length c11, .slice A14 l.length c14, .bool false] 135 (0, 0)) ∧ W.heap[w.heap.size]? = some (.cells #[.slice none 0 0, .slice none 0 0, .slice none 0 0, .bool false] 135 (0, 0)) ∧ W.heap[wr.heap.size]? = some (.cells #[.string (rd_T50 l i).f0, .bool (rd_T50 l i).f1, .string (rd_T50 l i).f2, .int .i64 (rd_T50 l i).f3, .int .i64 (rd_T50 l i).f4, .int .i64 (rd_T50 l i).f5, .int .i64 (rd_T50 l i).f6] 50 (0, 0)) ∧ Below w.heap.size w W) := ⟨_, rfl⟩
      have HInv := Aside0.mk hInv
      clear hInv
      refine wp_region_inv (by kernel_rfl) Inv ?h0 ?hstep ?hend
      case h0 => rw [HInv.out]; exact ⟨_, _, _, _, _, _, _, _, _, _, _, (Value.slice A4 st.length c4), u5, rfl, (by simp), (by simp), (by simp), (by simp), (by simp), (by simp), (by simp), (fun _ => rfl), (fun _ => rfl), (by simp), (by simp), (by simp), (by simp), (fun _ => rfl), (fun _ => rfl), (by simp), (by simp), (by simpa using HI6.out.drew), HG6.out.1, HG6.out.2.1, HG6.out.2.2.2, below_drew HG6.out.2.2.1⟩
      case hstep =>
       intro ix ox hox L a W hL hni hpre hI
       have hL' : L.size = 11 := by simpa using hL
       have hix : ix < 11 := by have := (Array.getElem?_eq_some_iff.1 hox).1; simpa using this
       rw [HInv.out] at hI
       obtain ⟨z52, z53, z54, z55, z56, z57, z58, z59, z60, z4, z5, vo, vl, rfl, c52, c53, c56, c57, c58, c54, c59, n3, n8, c55, c60, c4, c5, n4, n5, i9, i10, HI, G1, G2, G3, hb⟩ := hI
       have hn0 := up_not hni
       clear hL r7 HI6 HG6 HP HGd Hp He HR HC HK HLK
       have hbs : w.heap.size ≤ W.heap.size := below_size hb
       obtain rfl | rfl | rfl | rfl | rfl | rfl | rfl | rfl | rfl | rfl | rfl : ix = 0 ∨ ix = 1 ∨ ix = 2 ∨ ix = 3 ∨ ix = 4 ∨ ix = 5 ∨ ix = 6 ∨ ix = 7 ∨ ix = 8 ∨ ix = 9 ∨ ix = 10 := by omega
       all_goals cases hox
       ·-- operation 0
        obtain rfl := n4 (by cases h : L.getD 9 false with | false => rfl | true => exact absurd (i9 h).1 (by rw [hn0]; decide))
        have X := Aside0.mk (And.intro c52 (And.intro c53 (And.intro c56 (And.intro c57 (And.intro c58 (And.intro c54 (And.intro c59 (And.intro n3 (And.intro n8 (And.intro c55 (And.intro c60 (And.intro c4 (And.intro c5 (And.intro n4 (And.intro n5 (And.intro i9 (And.intro i10 (And.intro HI (And.intro G1 (And.intro G2 (And.intro G3 (hb))))))))))))))))))))))
        have Y := Aside0.mk (And.intro hpre (And.intro hn0 (And.intro hni hbs)))
        clear c52 c53 c56 c57 c58 c54 c59 n3 n8 c55 c60 c4 c5 n4 n5 i9 i10 HI G1 G2 G3 hb hpre hn0 hni hbs
        go_wp2_with fail
        show Inv _ _ _
        rw [HInv.out]
        simp only [up_self _ (show 0 < L.size by omega), getD_set_ne _ (show (0 : Nat) ≠ 1 by decide), getD_set_ne _ (show (0 : Nat) ≠ 2 by decide), getD_set_ne _ (show (0 : Nat) ≠ 3 by decide), getD_set_ne _ (show (0 : Nat) ≠ 4 by decide), getD_set_ne _ (show (0 : Nat) ≠ 5 by decide), getD_set_ne _ (show (0 : Nat) ≠ 6 by decide), getD_set_ne _ (show (0 : Nat) ≠ 7 by decide), getD_set_ne _ (show (0 : Nat) ≠ 8 by decide), getD_set_ne _ (show (0 : Nat) ≠ 9 by decide), getD_set_ne _ (show (0 : Nat) ≠ 10 by decide)]
        exact ⟨_, _, _, _, _, _, _, _, _, _, _, vo, vl, rfl, fun _ => rfl, X.out.2.1, X.out.2.2.1, X.out.2.2.2.1, X.out.2.2.2.2.1, X.out.2.2.2.2.2.1, X.out.2.2.2.2.2.2.1, X.out.2.2.2.2.2.2.2.1, X.out.2.2.2.2.2.2.2.2.1, X.out.2.2.2.2.2.2.2.2.2.1, X.out.2.2.2.2.2.2.2.2.2.2.1, fun h => absurd (X.out.2.2.2.2.2.2.2.2.2.2.2.2.2.2.2.1 h).1 (by rw [Y.out.2.1]; decide), X.out.2.2.2.2.2.2.2.2.2.2.2.2.1, fun _ => rfl, X.out.2.2.2.2.2.2.2.2.2.2.2.2.2.2.1, fun h => absurd (X.out.2.2.2.2.2.2.2.2.2.2.2.2.2.2.2.1 h).1 (by rw [Y.out.2.1]; decide), X.out.2.2.2.2.2.2.2.2.2.2.2.2.2.2.2.2.1, X.out.2.2.2.2.2.2.2.2.2.2.2.2.2.2.2.2.2.1, X.out.2.2.2.2.2.2.2.2.2.2.2.2.2.2.2.2.2.2.1, X.out.2.2.2.2.2.2.2.2.2.2.2.2.2.2.2.2.2.2.2.1, X.out.2.2.2.2.2.2.2.2.2.2.2.2.2.2.2.2.2.2.2.2.1, X.out.2.2.2.2.2.2.2.2.2.2.2.2.2.2.2.2.2.2.2.2.2⟩
       ·-- operation 1
        have X := Aside0.mk (And.intro c52 (And.intro c53 (And.intro c56 (And.intro c57 (And.intro c58 (And.intro c54 (And.intro c59 (And.intro n3 (And.intro n8 (And.intro c55 (And.intro c60 (And.intro c4 (And.intro c5 (And.intro n4 (And.intro n5 (And.intro i9 (And.intro i10 (And.intro HI (And.intro G1 (And.intro G2 (And.intro G3 (hb))))))))))))))))))))))
        have Y := Aside0.mk (And.intro hpre (And.intro hn0 (And.intro hni hbs)))
        clear c52 c53 c56 c57 c58 c54 c59 n3 n8 c55 c60 c4 c5 n4 n5 i9 i10 HI G1 G2 G3 hb hpre hn0 hni hbs
        go_wp2_with fail
        show Inv _ _ _
        rw [HInv.out]
        simp only [up_self _ (show 1 < L.size by omega), getD_set_ne _ (show (1 : Nat) ≠ 0 by decide), getD_set_ne _ (show (1 : Nat) ≠ 2 by decide), getD_set_ne _ (show (1 : Nat) ≠ 3 by decide), getD_set_ne _ (show (1 : Nat) ≠ 4 by decide), getD_set_ne _ (show (1 : Nat) ≠ 5 by decide), getD_set_ne _ (show (1 : Nat) ≠ 6 by decide), getD_set_ne _ (show (1 : Nat) ≠ 7 by decide), getD_set_ne _ (show (1 : Nat) ≠ 8 by decide), getD_set_ne _ (show (1 : Nat) ≠ 9 by decide), getD_set_ne _ (show (1 : Nat) ≠ 10 by decide)]
        exact ⟨_, _, _, _, _, _, _, _, _, _, _, vo, vl, rfl, X.out.1, fun _ => rfl, X.out.2.2.1, X.out.2.2.2.1, X.out.2.2.2.2.1, X.out.2.2.2.2.2.1, X.out.2.2.2.2.2.2.1, X.out.2.2.2.2.2.2.2.1, X.out.2.2.2.2.2.2.2.2.1, X.out.2.2.2.2.2.2.2.2.2.1, X.out.2.2.2.2.2.2.2.2.2.2.1, X.out.2.2.2.2.2.2.2.2.2.2.2.1, X.out.2.2.2.2.2.2.2.2.2.2.2.2.1, X.out.2.2.2.2.2.2.2.2.2.2.2.2.2.1, X.out.2.2.2.2.2.2.2.2.2.2.2.2.2.2.1, X.out.2.2.2.2.2.2.2.2.2.2.2.2.2.2.2.1, X.out.2.2.2.2.2.2.2.2.2.2.2.2.2.2.2.2.1, X.out.2.2.2.2.2.2.2.2.2.2.2.2.2.2.2.2.2.1, X.out.2.2.2.2.2.2.2.2.2.2.2.2.2.2.2.2.2.2.1, X.out.2.2.2.2.2.2.2.2.2.2.2.2.2.2.2.2.2.2.2.1, X.out.2.2.2.2.2.2.2.2.2.2.2.2.2.2.2.2.2.2.2.2.1, X.out.2.2.2.2.2.2.2.2.2.2.2.2.2.2.2.2.2.2.2.2.2⟩
       ·-- operation 2
        have p1 := hpre ⟨1, .data⟩ (by simp) rfl
        obtain rfl := c53 p1
        have X := Aside0.mk (And.intro c52 (And.intro c53 (And.intro c56 (And.intro c57 (And.intro c58 (And.intro c54 (And.intro c59 (And.intro n3 (And.intro n8 (And.intro c55 (And.intro c60 (And.intro c4 (And.intro c5 (And.intro n4 (And.intro n5 (And.intro i9 (And.intro i10 (And.intro HI (And.intro G1 (And.intro G2 (And.intro G3 (hb))))))))))))))))))))))
        have Y := Aside0.mk (And.intro hpre (And.intro hn0 (And.intro hni hbs)))
        clear c52 c53 c56 c57 c58 c54 c59 n3 n8 c55 c60 c4 c5 n4 n5 i9 i10 HI G1 G2 G3 hb hpre hn0 hni hbs p1
        go_wp2_with fail
        show Inv _ _ _
        rw [HInv.out]
        simp only [up_self _ (show 2 < L.size by omega), getD_set_ne _ (show (2 : Nat) ≠ 0 by decide), getD_set_ne _ (show (2 : Nat) ≠ 1 by decide), getD_set_ne _ (show (2 : Nat) ≠ 3 by decide), getD_set_ne _ (show (2 : Nat) ≠ 4 by decide), getD_set_ne _ (show (2 : Nat) ≠ 5 by decide), getD_set_ne _ (show (2 : Nat) ≠ 6 by decide), getD_set_ne _ (show (2 : Nat) ≠ 7 by decide), getD_set_ne _ (show (2 : Nat) ≠ 8 by decide), getD_set_ne _ (show (2 : Nat) ≠ 9 by decide), getD_set_ne _ (show (2 : Nat) ≠ 10 by decide)]
        exact ⟨_, _, _, _, _, _, _, _, _, _, _, vo, vl, rfl, X.out.1, fun _ => rfl, X.out.2.2.1, X.out.2.2.2.1, X.out.2.2.2.2.1, fun _ => ⟨_, rfl⟩, X.out.2.2.2.2.2.2.1, X.out.2.2.2.2.2.2.2.1, X.out.2.2.2.2.2.2.2.2.1, X.out.2.2.2.2.2.2.2.2.2.1, X.out.2.2.2.2.2.2.2.2.2.2.1, X.out.2.2.2.2.2.2.2.2.2.2.2.1, X.out.2.2.2.2.2.2.2.2.2.2.2.2.1, X.out.2.2.2.2.2.2.2.2.2.2.2.2.2.1, X.out.2.2.2.2.2.2.2.2.2.2.2.2.2.2.1, X.out.2.2.2.2.2.2.2.2.2.2.2.2.2.2.2.1, X.out.2.2.2.2.2.2.2.2.2.2.2.2.2.2.2.2.1, by have z := X.out.2.2.2.2.2.2.2.2.2.2.2.2.2.2.2.2.2.1; simp only [Y.out.2.1, Bool.false_eq_true, if_false, if_true, List.nil_append, List.cons_append] at z ⊢; exact z.cons_one _ Y.out.2.2.2, blk_alloc X.out.2.2.2.2.2.2.2.2.2.2.2.2.2.2.2.2.2.2.1 _, blk_alloc X.out.2.2.2.2.2.2.2.2.2.2.2.2.2.2.2.2.2.2.2.1 _, blk_alloc X.out.2.2.2.2.2.2.2.2.2.2.2.2.2.2.2.2.2.2.2.2.1 _, below_alloc X.out.2.2.2.2.2.2.2.2.2.2.2.2.2.2.2.2.2.2.2.2.2 _⟩
       ·-- operation 3
        have p0 := hpre ⟨0, .data⟩ (by simp) rfl
        have p2 := hpre ⟨2, .data⟩ (by simp) rfl
        obtain rfl := c52 p0
        obtain rfl := n3 hn0
        obtain ⟨b, rfl⟩ := c54 p2
        have HI7 := HI
        simp only [hn0, Bool.false_eq_true, if_false] at HI7
        have hb1 : W.heap[b]? = some (.cells #[.int .i64 (i : Int)] 3 (0, 0)) := by rw [if_pos p2] at HI7; exact Ints.block1 (L1 := []) HI7
        have hlen : (opens st).length < 17592186044416 := by rw [opens_len]; have := HS.out; omega
        have X := Aside0.mk (And.intro c52 (And.intro c53 (And.intro c56 (And.intro c57 (And.intro c58 (And.intro c54 (And.intro c59 (And.intro n3 (And.intro n8 (And.intro c55 (And.intro c60 (And.intro c4 (And.intro c5 (And.intro n4 (And.intro n5 (And.intro i9 (And.intro i10 (And.intro HI (And.intro G1 (And.intro G2 (And.intro G3 (hb))))))))))))))))))))))
        have Y := Aside0.mk (And.intro hpre (And.intro hn0 (And.intro hni hbs)))
        clear c52 c53 c56 c57 c58 c54 c59 n3 n8 c55 c60 c4 c5 n4 n5 i9 i10 HI G1 G2 G3 hb hpre hn0 hni hbs p0 p2
        refine Ints.append rfl (.tmp 52) (.tmp 54) 89 rfl Try.underlying89 info3 b _ rfl rfl hb1 HI7 Y.out.2.2.2 hlen fun v1 W1 HI8 st3 => ?_
        show Inv _ _ _
        rw [HInv.out]
        simp only [up_self _ (show 3 < L.size by omega), getD_set_ne _ (show (3 : Nat) ≠ 0 by decide), getD_set_ne _ (show (3 : Nat) ≠ 1 by decide), getD_set_ne _ (show (3 : Nat) ≠ 2 by decide), getD_set_ne _ (show (3 : Nat) ≠ 4 by decide), getD_set_ne _ (show (3 : Nat) ≠ 5 by decide), getD_set_ne _ (show (3 : Nat) ≠ 6 by decide), getD_set_ne _ (show (3 : Nat) ≠ 7 by decide), getD_set_ne _ (show (3 : Nat) ≠ 8 by decide), getD_set_ne _ (show (3 : Nat) ≠ 9 by decide), getD_set_ne _ (show (3 : Nat) ≠ 10 by decide)]
        exact ⟨_, _, _, _, _, _, _, _, _, _, _, v1, vl, rfl, fun _ => rfl, X.out.2.1, X.out.2.2.1, X.out.2.2.2.1, X.out.2.2.2.2.1, fun _ => ⟨_, rfl⟩, X.out.2.2.2.2.2.2.1, fun h => absurd h (by simp), X.out.2.2.2.2.2.2.2.2.1, fun _ => rfl, X.out.2.2.2.2.2.2.2.2.2.2.1, fun h => absurd (X.out.2.2.2.2.2.2.2.2.2.2.2.2.2.2.2.1 h).2 (by rw [Y.out.2.1]; decide), X.out.2.2.2.2.2.2.2.2.2.2.2.2.1, X.out.2.2.2.2.2.2.2.2.2.2.2.2.2.1, X.out.2.2.2.2.2.2.2.2.2.2.2.2.2.2.1, fun h => ⟨(X.out.2.2.2.2.2.2.2.2.2.2.2.2.2.2.2.1 h).1, trivial⟩, X.out.2.2.2.2.2.2.2.2.2.2.2.2.2.2.2.2.1, by simpa using HI8, st3.blk X.out.2.2.2.2.2.2.2.2.2.2.2.2.2.2.2.2.2.2.1 (by decide), st3.blk X.out.2.2.2.2.2.2.2.2.2.2.2.2.2.2.2.2.2.2.2.1 (by decide), st3.blk X.out.2.2.2.2.2.2.2.2.2.2.2.2.2.2.2.2.2.2.2.2.1 (by decide), st3.below X.out.2.2.2.2.2.2.2.2.2.2.2.2.2.2.2.2.2.2.2.2.2 Y.out.2.2.2⟩
       ·-- operation 4
        obtain rfl := n5 (by cases h : L.getD 10 false with | false => rfl | true => exact absurd (i10 h).1 (by rw [hn0]; decide))
        have X := Aside0.mk (And.intro c52 (And.intro c53 (And.intro c56 (And.intro c57 (And.intro c58 (And.intro c54 (And.intro c59 (And.intro n3 (And.intro n8 (And.intro c55 (And.intro c60 (And.intro c4 (And.intro c5 (And.intro n4 (And.intro n5 (And.intro i9 (And.intro i10 (And.intro HI (And.intro G1 (And.intro G2 (And.intro G3 (hb))))))))))))))))))))))
        have Y := Aside0.mk (And.intro hpre (And.intro hn0 (And.intro hni hbs)))
        clear c52 c53 c56 c57 c58 c54 c59 n3 n8 c55 c60 c4 c5 n4 n5 i9 i10 HI G1 G2 G3 hb hpre hn0 hni hbs
        go_wp2_with fail
        show Inv _ _ _
        rw [HInv.out]
        simp only [up_self _ (show 4 < L.size by omega), getD_set_ne _ (show (4 : Nat) ≠ 0 by decide), getD_set_ne _ (show (4 : Nat) ≠ 1 by decide), getD_set_ne _ (show (4 : Nat) ≠ 2 by decide), getD_set_ne _ (show (4 : Nat) ≠ 3 by decide), getD_set_ne _ (show (4 : Nat) ≠ 5 by decide), getD_set_ne _ (show (4 : Nat) ≠ 6 by decide), getD_set_ne _ (show (4 : Nat) ≠ 7 by decide), getD_set_ne _ (show (4 : Nat) ≠ 8 by decide), getD_set_ne _ (show (4 : Nat) ≠ 9 by decide), getD_set_ne _ (show (4 : Nat) ≠ 10 by decide)]
        exact ⟨_, _, _, _, _, _, _, _, _, _, _, vo, vl, rfl, X.out.1, X.out.2.1, fun _ => rfl, X.out.2.2.2.1, X.out.2.2.2.2.1, X.out.2.2.2.2.2.1, X.out.2.2.2.2.2.2.1, X.out.2.2.2.2.2.2.2.1, X.out.2.2.2.2.2.2.2.2.1, X.out.2.2.2.2.2.2.2.2.2.1, X.out.2.2.2.2.2.2.2.2.2.2.1, X.out.2.2.2.2.2.2.2.2.2.2.2.1, fun h => absurd (X.out.2.2.2.2.2.2.2.2.2.2.2.2.2.2.2.2.1 h).1 (by rw [Y.out.2.1]; decide), X.out.2.2.2.2.2.2.2.2.2.2.2.2.2.1, fun _ => rfl, X.out.2.2.2.2.2.2.2.2.2.2.2.2.2.2.2.1, fun h => absurd (X.out.2.2.2.2.2.2.2.2.2.2.2.2.2.2.2.2.1 h).1 (by rw [Y.out.2.1]; decide), X.out.2.2.2.2.2.2.2.2.2.2.2.2.2.2.2.2.2.1, X.out.2.2.2.2.2.2.2.2.2.2.2.2.2.2.2.2.2.2.1, X.out.2.2.2.2.2.2.2.2.2.2.2.2.2.2.2.2.2.2.2.1, X.out.2.2.2.2.2.2.2.2.2.2.2.2.2.2.2.2.2.2.2.2.1, X.out.2.2.2.2.2.2.2.2.2.2.2.2.2.2.2.2.2.2.2.2.2⟩
       ·-- operation 5
        have X := Aside0.mk (And.intro c52 (And.intro c53 (And.intro c56 (And.intro c57 (And.intro c58 (And.intro c54 (And.intro c59 (And.intro n3 (And.intro n8 (And.intro c55 (And.intro c60 (And.intro c4 (And.intro c5 (And.intro n4 (And.intro n5 (And.intro i9 (And.intro i10 (And.intro HI (And.intro G1 (And.intro G2 (And.intro G3 (hb))))))))))))))))))))))
        have Y := Aside0.mk (And.intro hpre (And.intro hn0 (And.intro hni hbs)))
        clear c52 c53 c56 c57 c58 c54 c59 n3 n8 c55 c60 c4 c5 n4 n5 i9 i10 HI G1 G2 G3 hb hpre hn0 hni hbs
        go_wp2_with fail
        show Inv _ _ _
        rw [HInv.out]
        simp only [up_self _ (show 5 < L.size by omega), getD_set_ne _ (show (5 : Nat) ≠ 0 by decide), getD_set_ne _ (show (5 : Nat) ≠ 1 by decide), getD_set_ne _ (show (5 : Nat) ≠ 2 by decide), getD_set_ne _ (show (5 : Nat) ≠ 3 by decide), getD_set_ne _ (show (5 : Nat) ≠ 4 by decide), getD_set_ne _ (show (5 : Nat) ≠ 6 by decide), getD_set_ne _ (show (5 : Nat) ≠ 7 by decide), getD_set_ne _ (show (5 : Nat) ≠ 8 by decide), getD_set_ne _ (show (5 : Nat) ≠ 9 by decide), getD_set_ne _ (show (5 : Nat) ≠ 10 by decide)]
        exact ⟨_, _, _, _, _, _, _, _, _, _, _, vo, vl, rfl, X.out.1, X.out.2.1, X.out.2.2.1, fun _ => rfl, X.out.2.2.2.2.1, X.out.2.2.2.2.2.1, X.out.2.2.2.2.2.2.1, X.out.2.2.2.2.2.2.2.1, X.out.2.2.2.2.2.2.2.2.1, X.out.2.2.2.2.2.2.2.2.2.1, X.out.2.2.2.2.2.2.2.2.2.2.1, X.out.2.2.2.2.2.2.2.2.2.2.2.1, X.out.2.2.2.2.2.2.2.2.2.2.2.2.1, X.out.2.2.2.2.2.2.2.2.2.2.2.2.2.1, X.out.2.2.2.2.2.2.2.2.2.2.2.2.2.2.1, X.out.2.2.2.2.2.2.2.2.2.2.2.2.2.2.2.1, X.out.2.2.2.2.2.2.2.2.2.2.2.2.2.2.2.2.1, X.out.2.2.2.2.2.2.2.2.2.2.2.2.2.2.2.2.2.1, X.out.2.2.2.2.2.2.2.2.2.2.2.2.2.2.2.2.2.2.1, X.out.2.2.2.2.2.2.2.2.2.2.2.2.2.2.2.2.2.2.2.1, X.out.2.2.2.2.2.2.2.2.2.2.2.2.2.2.2.2.2.2.2.2.1, X.out.2.2.2.2.2.2.2.2.2.2.2.2.2.2.2.2.2.2.2.2.2⟩
       ·-- operation 6
        have p5 := hpre ⟨5, .data⟩ (by simp) rfl
        obtain rfl := c57 p5
        have r8 : W.cell? ⟨wr.heap.size, 5, none⟩ = some (.int .i64 (rd_T50 l i).f5) := (blk_cell G3 5).trans rfl
        have X := Aside0.mk (And.intro c52 (And.intro c53 (And.intro c56 (And.intro c57 (And.intro c58 (And.intro c54 (And.intro c59 (And.intro n3 (And.intro n8 (And.intro c55 (And.intro c60 (And.intro c4 (And.intro c5 (And.intro n4 (And.intro n5 (And.intro i9 (And.intro i10 (And.intro HI (And.intro G1 (And.intro G2 (And.intro G3 (hb))))))))))))))))))))))
        have Y := Aside0.mk (And.intro hpre (And.intro hn0 (And.intro hni hbs)))
        clear c52 c53 c56 c57 c58 c54 c59 n3 n8 c55 c60 c4 c5 n4 n5 i9 i10 HI G1 G2 G3 hb hpre hn0 hni hbs p5
        go_wp2_with fail
        show Inv _ _ _
        rw [HInv.out]
        simp only [up_self _ (show 6 < L.size by omega), getD_set_ne _ (show (6 : Nat) ≠ 0 by decide), getD_set_ne _ (show (6 : Nat) ≠ 1 by decide), getD_set_ne _ (show (6 : Nat) ≠ 2 by decide), getD_set_ne _ (show (6 : Nat) ≠ 3 by decide), getD_set_ne _ (show (6 : Nat) ≠ 4 by decide), getD_set_ne _ (show (6 : Nat) ≠ 5 by decide), getD_set_ne _ (show (6 : Nat) ≠ 7 by decide), getD_set_ne _ (show (6 : Nat) ≠ 8 by decide), getD_set_ne _ (show (6 : Nat) ≠ 9 by decide), getD_set_ne _ (show (6 : Nat) ≠ 10 by decide)]
        exact ⟨_, _, _, _, _, _, _, _, _, _, _, vo, vl, rfl, X.out.1, X.out.2.1, X.out.2.2.1, fun _ => rfl, fun _ => rfl, X.out.2.2.2.2.2.1, X.out.2.2.2.2.2.2.1, X.out.2.2.2.2.2.2.2.1, X.out.2.2.2.2.2.2.2.2.1, X.out.2.2.2.2.2.2.2.2.2.1, X.out.2.2.2.2.2.2.2.2.2.2.1, X.out.2.2.2.2.2.2.2.2.2.2.2.1, X.out.2.2.2.2.2.2.2.2.2.2.2.2.1, X.out.2.2.2.2.2.2.2.2.2.2.2.2.2.1, X.out.2.2.2.2.2.2.2.2.2.2.2.2.2.2.1, X.out.2.2.2.2.2.2.2.2.2.2.2.2.2.2.2.1, X.out.2.2.2.2.2.2.2.2.2.2.2.2.2.2.2.2.1, X.out.2.2.2.2.2.2.2.2.2.2.2.2.2.2.2.2.2.1, X.out.2.2.2.2.2.2.2.2.2.2.2.2.2.2.2.2.2.2.1, X.out.2.2.2.2.2.2.2.2.2.2.2.2.2.2.2.2.2.2.2.1, X.out.2.2.2.2.2.2.2.2.2.2.2.2.2.2.2.2.2.2.2.2.1, X.out.2.2.2.2.2.2.2.2.2.2.2.2.2.2.2.2.2.2.2.2.2⟩
       ·-- operation 7
        have p6 := hpre ⟨6, .data⟩ (by simp) rfl
        obtain rfl := c58 p6
        have X := Aside0.mk (And.intro c52 (And.intro c53 (And.intro c56 (And.intro c57 (And.intro c58 (And.intro c54 (And.intro c59 (And.intro n3 (And.intro n8 (And.intro c55 (And.intro c60 (And.intro c4 (And.intro c5 (And.intro n4 (And.intro n5 (And.intro i9 (And.intro i10 (And.intro HI (And.intro G1 (And.intro G2 (And.intro G3 (hb))))))))))))))))))))))
        have Y := Aside0.mk (And.intro hpre (And.intro hn0 (And.intro hni hbs)))
        clear c52 c53 c56 c57 c58 c54 c59 n3 n8 c55 c60 c4 c5 n4 n5 i9 i10 HI G1 G2 G3 hb hpre hn0 hni hbs p6
        go_wp2_with fail
        show Inv _ _ _
        rw [HInv.out]
        simp only [up_self _ (show 7 < L.size by omega), getD_set_ne _ (show (7 : Nat) ≠ 0 by decide), getD_set_ne _ (show (7 : Nat) ≠ 1 by decide), getD_set_ne _ (show (7 : Nat) ≠ 2 by decide), getD_set_ne _ (show (7 : Nat) ≠ 3 by decide), getD_set_ne _ (show (7 : Nat) ≠ 4 by decide), getD_set_ne _ (show (7 : Nat) ≠ 5 by decide), getD_set_ne _ (show (7 : Nat) ≠ 6 by decide), getD_set_ne _ (show (7 : Nat) ≠ 8 by decide), getD_set_ne _ (show (7 : Nat) ≠ 9 by decide), getD_set_ne _ (show (7 : Nat) ≠ 10 by decide)]
        exact ⟨_, _, _, _, _, _, _, _, _, _, _, vo, vl, rfl, X.out.1, X.out.2.1, X.out.2.2.1, X.out.2.2.2.1, fun _ => rfl, X.out.2.2.2.2.2.1, fun _ => ⟨_, rfl⟩, X.out.2.2.2.2.2.2.2.1, X.out.2.2.2.2.2.2.2.2.1, X.out.2.2.2.2.2.2.2.2.2.1, X.out.2.2.2.2.2.2.2.2.2.2.1, X.out.2.2.2.2.2.2.2.2.2.2.2.1, X.out.2.2.2.2.2.2.2.2.2.2.2.2.1, X.out.2.2.2.2.2.2.2.2.2.2.2.2.2.1, X.out.2.2.2.2.2.2.2.2.2.2.2.2.2.2.1, X.out.2.2.2.2.2.2.2.2.2.2.2.2.2.2.2.1, X.out.2.2.2.2.2.2.2.2.2.2.2.2.2.2.2.2.1, by have z := X.out.2.2.2.2.2.2.2.2.2.2.2.2.2.2.2.2.2.1; simp only [Y.out.2.1, Bool.false_eq_true, if_false, if_true, List.nil_append, List.append_nil, List.cons_append] at z ⊢; have y := z.cons_one (rd_T50 l i).f5 Y.out.2.2.2; split; (rename_i h2; rw [if_pos h2] at y; exact y.swap); (rename_i h2; rw [if_neg h2] at y; exact y), blk_alloc X.out.2.2.2.2.2.2.2.2.2.2.2.2.2.2.2.2.2.2.1 _, blk_alloc X.out.2.2.2.2.2.2.2.2.2.2.2.2.2.2.2.2.2.2.2.1 _, blk_alloc X.out.2.2.2.2.2.2.2.2.2.2.2.2.2.2.2.2.2.2.2.2.1 _, below_alloc X.out.2.2.2.2.2.2.2.2.2.2.2.2.2.2.2.2.2.2.2.2.2 _⟩
       ·-- operation 8
        have p4 := hpre ⟨4, .data⟩ (by simp) rfl
        have p7 := hpre ⟨7, .data⟩ (by simp) rfl
        obtain rfl := c56 p4
        obtain rfl := n8 hn0
        obtain ⟨b, rfl⟩ := c59 p7
        have HI7 := HI
        simp only [hn0, Bool.false_eq_true, if_false] at HI7
        have hb1 : W.heap[b]? = some (.cells #[.int .i64 (rd_T50 l i).f5] 3 (0, 0)) := by rw [if_pos p7] at HI7; simp only [List.append_assoc] at HI7; exact Ints.block1 HI7
        have hlen : (lefts (less st)).length < 17592186044416 := by rw [lefts_len, less_len]; have := HS.out; omega
        have X := Aside0.mk (And.intro c52 (And.intro c53 (And.intro c56 (And.intro c57 (And.intro c58 (And.intro c54 (And.intro c59 (And.intro n3 (And.intro n8 (And.intro c55 (And.intro c60 (And.intro c4 (And.intro c5 (And.intro n4 (And.intro n5 (And.intro i9 (And.intro i10 (And.intro HI (And.intro G1 (And.intro G2 (And.intro G3 (hb))))))))))))))))))))))
        have Y := Aside0.mk (And.intro hpre (And.intro hn0 (And.intro hni hbs)))
        clear c52 c53 c56 c57 c58 c54 c59 n3 n8 c55 c60 c4 c5 n4 n5 i9 i10 HI G1 G2 G3 hb hpre hn0 hni hbs p4 p7
        refine Ints.append rfl (.tmp 56) (.tmp 59) 89 rfl Try.underlying89 info3 b _ rfl rfl hb1 HI7.shift Y.out.2.2.2 hlen fun v1 W1 HI8 st3 => ?_
        show Inv _ _ _
        rw [HInv.out]
        simp only [up_self _ (show 8 < L.size by omega), getD_set_ne _ (show (8 : Nat) ≠ 0 by decide), getD_set_ne _ (show (8 : Nat) ≠ 1 by decide), getD_set_ne _ (show (8 : Nat) ≠ 2 by decide), getD_set_ne _ (show (8 : Nat) ≠ 3 by decide), getD_set_ne _ (show (8 : Nat) ≠ 4 by decide), getD_set_ne _ (show (8 : Nat) ≠ 5 by decide), getD_set_ne _ (show (8 : Nat) ≠ 6 by decide), getD_set_ne _ (show (8 : Nat) ≠ 7 by decide), getD_set_ne _ (show (8 : Nat) ≠ 9 by decide), getD_set_ne _ (show (8 : Nat) ≠ 10 by decide)]
        exact ⟨_, _, _, _, _, _, _, _, _, _, _, vo, v1, rfl, X.out.1, X.out.2.1, fun _ => rfl, X.out.2.2.2.1, X.out.2.2.2.2.1, X.out.2.2.2.2.2.1, fun _ => ⟨_, rfl⟩, X.out.2.2.2.2.2.2.2.1, fun h => absurd h (by simp), X.out.2.2.2.2.2.2.2.2.2.1, fun _ => rfl, X.out.2.2.2.2.2.2.2.2.2.2.2.1, fun h => absurd (X.out.2.2.2.2.2.2.2.2.2.2.2.2.2.2.2.2.1 h).2 (by rw [Y.out.2.1]; decide), X.out.2.2.2.2.2.2.2.2.2.2.2.2.2.1, X.out.2.2.2.2.2.2.2.2.2.2.2.2.2.2.1, X.out.2.2.2.2.2.2.2.2.2.2.2.2.2.2.2.1, fun h => ⟨(X.out.2.2.2.2.2.2.2.2.2.2.2.2.2.2.2.2.1 h).1, trivial⟩, by simpa using HI8.unshift, st3.blk X.out.2.2.2.2.2.2.2.2.2.2.2.2.2.2.2.2.2.2.1 (by decide), st3.blk X.out.2.2.2.2.2.2.2.2.2.2.2.2.2.2.2.2.2.2.2.1 (by decide), st3.blk X.out.2.2.2.2.2.2.2.2.2.2.2.2.2.2.2.2.2.2.2.2.1 (by decide), st3.below X.out.2.2.2.2.2.2.2.2.2.2.2.2.2.2.2.2.2.2.2.2.2 Y.out.2.2.2⟩
       ·-- operation 9
        have p3 := hpre ⟨3, .data⟩ (by simp) rfl
        obtain rfl := c55 p3
        have X := Aside0.mk (And.intro c52 (And.intro c53 (And.intro c56 (And.intro c57 (And.intro c58 (And.intro c54 (And.intro c59 (And.intro n3 (And.intro n8 (And.intro c55 (And.intro c60 (And.intro c4 (And.intro c5 (And.intro n4 (And.intro n5 (And.intro i9 (And.intro i10 (And.intro HI (And.intro G1 (And.intro G2 (And.intro G3 (hb))))))))))))))))))))))
        have Y := Aside0.mk (And.intro hpre (And.intro hn0 (And.intro hni hbs)))
        clear c52 c53 c56 c57 c58 c54 c59 n3 n8 c55 c60 c4 c5 n4 n5 i9 i10 HI G1 G2 G3 hb hpre hn0 hni hbs p3
        go_wp2_with fail
        show Inv _ _ _
        rw [HInv.out]
        simp only [up_self _ (show 9 < L.size by omega), getD_set_ne _ (show (9 : Nat) ≠ 0 by decide), getD_set_ne _ (show (9 : Nat) ≠ 1 by decide), getD_set_ne _ (show (9 : Nat) ≠ 2 by decide), getD_set_ne _ (show (9 : Nat) ≠ 3 by decide), getD_set_ne _ (show (9 : Nat) ≠ 4 by decide), getD_set_ne _ (show (9 : Nat) ≠ 5 by decide), getD_set_ne _ (show (9 : Nat) ≠ 6 by decide), getD_set_ne _ (show (9 : Nat) ≠ 7 by decide), getD_set_ne _ (show (9 : Nat) ≠ 8 by decide), getD_set_ne _ (show (9 : Nat) ≠ 10 by decide)]
        exact ⟨_, _, _, _, _, _, _, _, _, _, _, z55, vl, rfl, X.out.1, X.out.2.1, X.out.2.2.1, X.out.2.2.2.1, X.out.2.2.2.2.1, X.out.2.2.2.2.2.1, X.out.2.2.2.2.2.2.1, X.out.2.2.2.2.2.2.2.1, X.out.2.2.2.2.2.2.2.2.1, fun _ => rfl, X.out.2.2.2.2.2.2.2.2.2.2.1, fun _ => rfl, X.out.2.2.2.2.2.2.2.2.2.2.2.2.1, fun h => absurd h (by simp), X.out.2.2.2.2.2.2.2.2.2.2.2.2.2.2.1, fun _ => ⟨Y.out.1 ⟨0, .phase⟩ (by simp) rfl, Y.out.1 ⟨3, .data⟩ (by simp) rfl⟩, X.out.2.2.2.2.2.2.2.2.2.2.2.2.2.2.2.2.1, X.out.2.2.2.2.2.2.2.2.2.2.2.2.2.2.2.2.2.1, X.out.2.2.2.2.2.2.2.2.2.2.2.2.2.2.2.2.2.2.1, X.out.2.2.2.2.2.2.2.2.2.2.2.2.2.2.2.2.2.2.2.1, X.out.2.2.2.2.2.2.2.2.2.2.2.2.2.2.2.2.2.2.2.2.1, X.out.2.2.2.2.2.2.2.2.2.2.2.2.2.2.2.2.2.2.2.2.2⟩
       ·-- operation 10
        have p8 := hpre ⟨8, .data⟩ (by simp) rfl
        obtain rfl := c60 p8
        have X := Aside0.mk (And.intro c52 (And.intro c53 (And.intro c56 (And.intro c57 (And.intro c58 (And.intro c54 (And.intro c59 (And.intro n3 (And.intro n8 (And.intro c55 (And.intro c60 (And.intro c4 (And.intro c5 (And.intro n4 (And.intro n5 (And.intro i9 (And.intro i10 (And.intro HI (And.intro G1 (And.intro G2 (And.intro G3 (hb))))))))))))))))))))))
        have Y := Aside0.mk (And.intro hpre (And.intro hn0 (And.intro hni hbs)))
        clear c52 c53 c56 c57 c58 c54 c59 n3 n8 c55 c60 c4 c5 n4 n5 i9 i10 HI G1 G2 G3 hb hpre hn0 hni hbs p8
        go_wp2_with fail
        show Inv _ _ _
        rw [HInv.out]
        simp only [up_self _ (show 10 < L.size by omega), getD_set_ne _ (show (10 : Nat) ≠ 0 by decide), getD_set_ne _ (show (10 : Nat) ≠ 1 by decide), getD_set_ne _ (show (10 : Nat) ≠ 2 by decide), getD_set_ne _ (show (10 : Nat) ≠ 3 by decide), getD_set_ne _ (show (10 : Nat) ≠ 4 by decide), getD_set_ne _ (show (10 : Nat) ≠ 5 by decide), getD_set_ne _ (show (10 : Nat) ≠ 6 by decide), getD_set_ne _ (show (10 : Nat) ≠ 7 by decide), getD_set_ne _ (show (10 : Nat) ≠ 8 by decide), getD_set_ne _ (show (10 : Nat) ≠ 9 by decide)]
        exact ⟨_, _, _, _, _, _, _, _, _, _, _, vo, z60, rfl, X.out.1, X.out.2.1, X.out.2.2.1, X.out.2.2.2.1, X.out.2.2.2.2.1, X.out.2.2.2.2.2.1, X.out.2.2.2.2.2.2.1, X.out.2.2.2.2.2.2.2.1, X.out.2.2.2.2.2.2.2.2.1, X.out.2.2.2.2.2.2.2.2.2.1, fun _ => rfl, X.out.2.2.2.2.2.2.2.2.2.2.2.1, fun _ => rfl, X.out.2.2.2.2.2.2.2.2.2.2.2.2.2.1, fun h => absurd h (by simp), X.out.2.2.2.2.2.2.2.2.2.2.2.2.2.2.2.1, fun _ => ⟨Y.out.1 ⟨4, .phase⟩ (by simp) rfl, Y.out.1 ⟨8, .data⟩ (by simp) rfl⟩, X.out.2.2.2.2.2.2.2.2.2.2.2.2.2.2.2.2.2.1, X.out.2.2.2.2.2.2.2.2.2.2.2.2.2.2.2.2.2.2.1, X.out.2.2.2.2.2.2.2.2.2.2.2.2.2.2.2.2.2.2.2.1, X.out.2.2.2.2.2.2.2.2.2.2.2.2.2.2.2.2.2.2.2.2.1, X.out.2.2.2.2.2.2.2.2.2.2.2.2.2.2.2.2.2.2.2.2.2⟩
      case hend =>
       intro L a W hL hr hI
       have hup := up_all hL hr (by kernel_rfl)
       rw [HInv.out] at hI
       obtain ⟨z52, z53, z54, z55, z56, z57, z58, z59, z60, z4, z5, vo, vl, rfl, c52, c53, c56, c57, c58, c54, c59, n3, n8, c55, c60, c4, c5, n4, n5, i9, i10, HI, G1, G2, G3, hb⟩ := hI
       obtain rfl := c4 (hup 9 (by decide))
       obtain rfl := c5 (hup 10 (by decide))
       have HI9 := HI
       rw [if_pos (hup 3 (by decide)), if_pos (hup 8 (by decide))] at HI9
       have HI10 := Ints.behind HI9
       rw [show opens st ++ [(i : Int)] = opens (((i : Int), (rd_T50 l i).f5) :: less st) from by rw [opens_cons, opens_less], show lefts (less st) ++ [(rd_T50 l i).f5] = lefts (((i : Int), (rd_T50 l i).f5) :: less st) from by rw [lefts_cons]] at HI10
       have HI11 := Aside0.mk HI10
       have HG11 := Aside0.mk (And.intro G1 (And.intro G2 (And.intro G3 hb)))
       clear HI9 HI10 HI G1 G2 G3 hb c52 c53 c54 c55 c56 c57 c58 c59 c60 c4 c5 n3 n8 n4 n5 i9 i10 hup hr hL HInv
       go_wp2_with fail
       go_loopg [4, 5] (st.length + 1) (fun k v4 v5 W' => ∃ (s2 : List (Int × Int)) (e2 : List Int), k = s2.length ∧ Aside0 (closeS i s2 e2 = closeS i (((i : Int), (rd_T50 l i).f5) :: less st) e) ∧ Aside0 (∀ q ∈ s2, 0 ≤ q.1 ∧ q.1 ≤ i ∧ 0 ≤ q.2 ∧ q.2 ≤ 9223372036854775807) ∧ Aside0 (s2.length ≤ i + 1) ∧
        Aside0 (e2.length = l.length) ∧ Aside0 (Ints W' w.heap.size [(v4, opens s2), (v5, lefts s2), (.slice (some ⟨g11, 0, none⟩) l.length c11, p.set i (topOf st)), (.slice A14 l.length c14, e2)]) ∧
        Aside0 (W'.heap[g3]? = some (.cells #[.slice (some ad) l.length c, .slice (some ⟨g11, 0, none⟩) l.length c11, .slice A14 l.length c14, .bool false] 135 (0, 0)) ∧ W'.heap[w.heap.size]? = some (.cells #[.slice none 0 0, .slice none 0 0, .slice none 0 0, .bool false] 135 (0, 0)) ∧ Below w.heap.size w W'))
       case atStart => exact ⟨_, _, by simp [less_len], ⟨rfl⟩, ⟨fun q hq => by
        have hkx := HK.out (rd_T50 l i) (HLK.out i hlt)
        rcases List.mem_cons.1 hq with rfl | hq
        ·exact ⟨by simp, by simp, by simp; omega, by simpa using hkx⟩
        ·cases st with
         | nil => simp [less] at hq
         | cons y st1 =>
          obtain ⟨o, n⟩ := y
          simp only [less, List.mem_cons] at hq
          have hh := HGd.out.2 (o, n) rfl
          rcases hq with rfl | hq
          ·have := HGd.out.1 (o, n) (by simp)
           simp at this hh ⊢
           omega
          ·have := HGd.out.1 q (by simp [hq])
           omega⟩, ⟨by simp [less_len]; exact HS.out⟩, He, HI11, ⟨HG11.out.1, HG11.out.2.1, HG11.out.2.2.2⟩⟩
       case round =>
        clear HI11 HG11
        obtain ⟨s2, e2, rfl, HC2, HQ2, HS2, He2, HI2', HG2'⟩ := hrel
        cases s2 with
        | nil =>
         obtain ⟨A4', c4', e4', _⟩ := Ints.shape (L1 := []) HI2'.out
         rw [opens_len] at e4'
         subst e4'
         go_wp2_with fail
         have hfin := HP.out
         rw [HD.out] at hfin
         rw [plantS_pos (by omega), ← HC2.out] at hfin
         simp only [closeS, Int.toNat_natCast] at hfin
         go_roundg (l.length - (i + 1))
         case measure => omega
         case rel => exact ⟨i + 1, [], p.set i (topOf st), e2, rfl, by omega, by go_num, ⟨by simpa using hfin⟩, ⟨by simp [Upr]⟩, ⟨by simp⟩, ⟨by simp; exact Hp.out⟩, He2, HI2', HG2'⟩
        | cons z s2 =>
         have hq := HQ2.out z (by simp)
         have hs2 : s2.length ≤ i := by simpa using HS2.out
         have hd0 : 0 < (z :: s2).length := by simp
         have hf : 0 < (opens (z :: s2)).length := by rw [opens_len]; simp
         obtain ⟨g4, k4, e4', _⟩ := Ints.form (L1 := []) (xs := opens (z :: s2)) HI2'.out hf
         rw [opens_len] at e4'
         subst e4'
         have hf5 : 0 < (lefts (z :: s2)).length := by rw [lefts_len]; simp
         obtain ⟨g5, k5, e5', _⟩ := Ints.form (L1 := [_]) (xs := lefts (z :: s2)) HI2'.out hf5
         rw [lefts_len] at e5'
         subst e5'
         obtain ⟨r4, _⟩ := HI2'.out.cell (L1 := []) (opens_len _) s2.length (by simp)
         rw [show (opens (z :: s2)).getD s2.length 0 = z.1 from by simp [opens_cons, List.getD_eq_getElem?_getD, ← opens_len]] at r4
         obtain ⟨r5, _⟩ := HI2'.out.cell (L1 := [_]) (lefts_len _) s2.length (by simp)
         rw [show (lefts (z :: s2)).getD s2.length 0 = z.2 from by simp [lefts_cons, List.getD_eq_getElem?_getD, ← lefts_len]] at r5
         by_cases hz0 : z.2 = 0
         ·have hzb : (z.2 == 0) = true := by simpa using hz0
          have HZ := Aside0.mk hz0
          clear hz0
          have t2 : wr.cell? ⟨g3, 2, none⟩ = some (.slice A14 l.length c14) := (blk_cell HG2'.out.1 2).trans rfl
          obtain ⟨oz, hoz⟩ : ∃ oz : Nat, z.1 = oz := ⟨z.1.toNat, by omega⟩
          have HO := Aside0.mk hoz
          rw [hoz] at r4 hq
          clear hoz
          obtain ⟨g14, k14, e14, hb14, _⟩ := Ints.form (L1 := [_, _, _]) (xs := e2) HI2'.out (by rw [He2.out]; omega)
          injection e14 with e14 x1 x2
          subst e14
          clear x1 x2
          obtain ⟨r6, r7'⟩ := HI2'.out.cell (L1 := [_, _, _]) He2.out oz (by omega)
          have hzn : oz < l.length := by omega
          have s1 : IntKind.i64.wrap ((s2.length : Int) + 1 - 1) = (s2.length : Int) := by rw [IntWalk.i64_in _ (by omega)]; omega
          have s2' : IntKind.i64.wrap (s2.length : Int) = (s2.length : Int) := IntWalk.i64_in _ (by omega)
          have s3 : (0 : Int) ≤ s2.length := by omega
          have s4 : IntKind.i64.wrap ((i : Int) + 1) = (i : Int) + 1 := IntWalk.i64_in _ (by omega)
          go_wp2_with fail
          go_region
          go_upto_region 15 with (fail)
          have hzz : w.heap.size ≤ wr.heap.size := below_size HG2'.out.2.2
          refine HI2'.out.store_drew_at (L1 := [_, _, _]) He2.out oz ((i : Int) + 1) fun W7 HI7 st7 => ?_
          have HG7 := Aside0.mk (And.intro (st7.blk HG2'.out.1 (by decide)) (And.intro (st7.blk HG2'.out.2.1 (by decide)) (st7.below HG2'.out.2.2 hzz)))
          have HI7 := Aside0.mk HI7
          clear r4 r5 r6 r7' t2 HI2' HG2' st7 hzz
          obtain ⟨i0, hi0, _⟩ := Option.map_eq_some_iff.1 info3
          have cut4 := cut_to (P := Try.prog) 89 3 .i64 Try.underlying89 hi0 (some ⟨g4, 0, none⟩) (s2.length + 1) k4 (s2.length : Int) (by omega) (by omega) (HI7.out.cap (L1 := []) (opens_len _))
          have cut5 := cut_to (P := Try.prog) 89 3 .i64 Try.underlying89 hi0 (some ⟨g5, 0, none⟩) (s2.length + 1) k5 (s2.length : Int) (by omega) (by omega) (HI7.out.cap (L1 := [_]) (lefts_len _))
          simp only [Int.toNat_natCast] at cut4 cut5
          go_quiet (fail)
          go_wp2_with fail
          go_roundg s2.length
          case measure => simp
          case rel =>
           have h1 := HI7.out.take (L1 := []) (m := s2.length) (opens_len _) (by simp)
           rw [opens_take] at h1
           have h2 := h1.take (L1 := [_]) (m := s2.length) (lefts_len _) (by simp)
           rw [lefts_take] at h2
           refine ⟨s2, e2.set oz ((i : Int) + 1), rfl, ⟨?_⟩, ⟨fun q hq => HQ2.out q (by simp [hq])⟩, ⟨by omega⟩, ⟨by simp; exact He2.out⟩, ⟨h2.moved ?_⟩, ⟨HG7.out.1, HG7.out.2.1, pw_below_drewN HG7.out.2.2 _⟩⟩
           ·rw [← HC2.out, closeS_go _ _ _ _ HZ.out, HO.out, Int.toNat_natCast]
           ·exact pw_below_drewN (Below.refl _ _) _
         ·have hzb : (z.2 == 0) = false := by simpa using hz0
          have HZ := Aside0.mk hz0
          clear hz0
          go_wp2_with fail
          have hfin := HP.out
          rw [HD.out] at hfin
          rw [plantS_pos (by omega), ← HC2.out, closeS_stop _ _ _ _ HZ.out] at hfin
          simp only [Int.toNat_natCast] at hfin
          go_roundg (l.length - (i + 1))
          case measure => omega
          case rel => exact ⟨i + 1, z :: s2, p.set i (topOf st), e2, rfl, by omega, by go_num, ⟨by simpa using hfin⟩, ⟨⟨fun q hq => by have := HQ2.out q hq; omega, fun q hq => by
           have hqz : z = q := by simpa using hq
           subst hqz
           have := HZ.out
           omega⟩⟩, HS2, ⟨by simp; exact Hp.out⟩, He2, HI2', HG2'⟩
   ·obtain rfl : i = l.length := by omega
    have hfin := HP.out
    rw [List.drop_of_length_le (by simp)] at hfin
    simp only [plantS] at hfin
    have HF := Aside0.mk hfin
    obtain ⟨A4, c4, e4, _⟩ := Ints.shape (L1 := []) HI.out
    rw [opens_len] at e4
    subst e4
    have t0 : wr.cell? ⟨g3, 0, none⟩ = some (.slice A l.length c) := (blk_cell HG.out.1 0).trans rfl
    have t1 : wr.cell? ⟨g3, 1, none⟩ = some (.slice A11 l.length c11) := (blk_cell HG.out.1 1).trans rfl
    have t2 : wr.cell? ⟨g3, 2, none⟩ = some (.slice A14 l.length c14) := (blk_cell HG.out.1 2).trans rfl
    have t3 : wr.cell? ⟨g3, 3, none⟩ = some (.bool false) := (blk_cell HG.out.1 3).trans rfl
    have z3 := blk_frozen HG.out.1 3
    have y0 : wr.cell? ⟨w.heap.size, 0, none⟩ = some (.slice none 0 0) := (blk_cell HG.out.2.1 0).trans rfl
    have y1 : wr.cell? ⟨w.heap.size, 1, none⟩ = some (.slice none 0 0) := (blk_cell HG.out.2.1 1).trans rfl
    have y2 : wr.cell? ⟨w.heap.size, 2, none⟩ = some (.slice none 0 0) := (blk_cell HG.out.2.1 2).trans rfl
    have y3 : wr.cell? ⟨w.heap.size, 3, none⟩ = some (.bool false) := (blk_cell HG.out.2.1 3).trans rfl
    have x0 := blk_frozen HG.out.2.1 0
    have x1 := blk_frozen HG.out.2.1 1
    have x2 := blk_frozen HG.out.2.1 2
    have x3 := blk_frozen HG.out.2.1 3
    clear hfin
    go_upto_region 18 with (fail)
    refine set_letter HG.out.1 rfl fun W8 hb8 hg8 => ?_
    have HI8 := HI.out.grown hg8 (HI.out.ne HG.out.1 (by decide))
    have G8 := blk_grown HG.out.2.1 hg8 (by simpa using HGE.out.2.symm)
    have B8 := HG.out.2.2.grown hg8 (below_size HG.out.2.2) (fun k hk => by injection hk with hk; subst hk; exact HGE.out.1)
    clear HI HG hg8 t0 t1 t2 t3 y0 y1 y2 y3 x0 x1 x2 x3 z3
    have t0 : W8.cell? ⟨g3, 0, none⟩ = some (.slice A l.length c) := (blk_cell hb8 0).trans rfl
    have t1 : W8.cell? ⟨g3, 1, none⟩ = some (.slice A11 l.length c11) := (blk_cell hb8 1).trans rfl
    have t2 : W8.cell? ⟨g3, 2, none⟩ = some (.slice A14 l.length c14) := (blk_cell hb8 2).trans rfl
    have t3 : W8.cell? ⟨g3, 3, none⟩ = some (.bool ((st.length : Int) == 0)) := (blk_cell hb8 3).trans rfl
    have y0 : W8.cell? ⟨w.heap.size, 0, none⟩ = some (.slice none 0 0) := (blk_cell G8 0).trans rfl
    have y1 : W8.cell? ⟨w.heap.size, 1, none⟩ = some (.slice none 0 0) := (blk_cell G8 1).trans rfl
    have y2 : W8.cell? ⟨w.heap.size, 2, none⟩ = some (.slice none 0 0) := (blk_cell G8 2).trans rfl
    have y3 : W8.cell? ⟨w.heap.size, 3, none⟩ = some (.bool false) := (blk_cell G8 3).trans rfl
    have x0 := blk_frozen G8 0
    have x1 := blk_frozen G8 1
    have x2 := blk_frozen G8 2
    have x3 := blk_frozen G8 3
    have HX := Aside0.mk (And.intro HI8 (And.intro G8 (And.intro B8 hb8)))
    clear HI8 G8 B8 hb8
    go_wp2_with fail
    have b0 := HX.out.2.1
    have b1 := blk_put b0 0 (.slice A l.length c) rfl
    have b2 := blk_put b1 1 (.slice A11 l.length c11) rfl
    have b3 := blk_put b2 2 (.slice A14 l.length c14) rfl
    have b4 := blk_put b3 3 (.bool ((st.length : Int) == 0)) rfl
    refine bodyPost_ret (results_cell_row rfl _ _ w.heap.size 135 _ (0, 0) _ rfl b4 Try.underlying135 rfl (by kernel_rfl)) rfl ⟨.slice A11 l.length c11, .slice A14 l.length c14, ?_, ?_, ?_⟩
    ·rw [← HF.out, show st.isEmpty = ((st.length : Int) == 0) from by cases st <;> simp <;> omega]; rfl
    ·rw [← HF.out]
     exact (((HX.out.1.tail.tail.sets b0 (by decide) _ _).sets b1 (by decide) _ _).sets b2 (by decide) _ _).sets b3 (by decide) _ _
    ·exact below_set (below_set (below_set (below_set HX.out.2.2.1 (Nat.le_refl _)) (Nat.le_refl _)) (Nat.le_refl _)) (Nat.le_refl _)
end Go.Proofs.Ytmhmmffhmdbclaa.PO
