/- trellisref15.find: the subtree at a place, by going through the trees. -/
import Derived.Test.YtmhmmffhmdbclaaPOx7
import Derived.Test.YtmhmmffhmdbclaaH
import Derived.Test.YtmhmmffhmdbclaaTree
namespace Go.Proofs.Ytmhmmffhmdbclaa.PO
open Go.RowKit Go.Proofs.YtmhmmffhmdbclaaW.PrintWords Go.Proofs.YtmhmmffhmdbclaaW.PrintLast Go.Proofs.YtmhmmffhmdbclaaW.PrintMore H Pl
set_option linter.unusedVariables false
set_option linter.unusedSimpArgs false
theorem S142.kids_lt (x : S142) : SizeOf.sizeOf x.f1 < SizeOf.sizeOf x := by
 cases x
 simp
 omega
/-- The subtree at a place, and its parent's place. -/
def findT (at_ : Int) : List S142 → Int → Option (S142 × Int)
 | [], _ => none
 | x :: xs, par => if x.f2 = at_ then some (x, par) else
  match findT at_ x.f1 x.f2 with
  | some r => some r
  | none => findT at_ xs par
termination_by l => SizeOf.sizeOf l
decreasing_by
 ·have := S142.kids_lt x
  simp
  omega
 ·simp
  omega
def oneT (r : Option (S142 × Int)) : S142 := (r.map (·.1)).getD z142
def parT (r : Option (S142 × Int)) : Int := (r.map (·.2)).getD (-1)
/-- A node's subtree as a value. -/
def treeV (A : Option Addr) (c : Nat) (x : S142) : Value :=
 .agg #[.string x.f0.f0, .bool x.f0.f1, .string x.f0.f2, .int .i64 x.f0.f3, .int .i64 x.f0.f4, .int .i64 x.f0.f5, .int .i64 x.f0.f6, .slice A x.f1.length c, .int .i64 x.f2]
/-- What find answers. -/
def FindPost (w0 w : World) (r : Option (S142 × Int)) (e : Ending) (w' : World) : Prop :=
 ∃ A c, e = .returned (.tuple #[treeV A c (oneT r), .int .i64 (parT r), .bool r.isSome]) ∧ (oneT r).f1.length ≤ c ∧ Kd.C k142 w0 A (oneT r).f1.length (oneT r).f1 ∧ Below w.heap.size w w'

set_option maxHeartbeats 1000000 in
set_option maxRecDepth 100000 in
theorem find_calls : ∀ (n : Nat) (A : Option Addr) (c : Nat) (l : List S142) (a par : Int) (w0 w : World), SizeOf.sizeOf l = n → Below w0.heap.size w0 w → Kd.C k142 w0 A l.length l → l.length ≤ c →
  Calls Try.prog 67 #[.slice A l.length c, .int .i64 a, .int .i64 par] w (FindPost w0 w (findT a l par)) := by
 intro n
 induction n using Nat.strongRecOn with
 | _ n ih =>
 intro A c l a par w0 w hn hb0 hr hc
 have hu142 := Try.underlying142
 have HR := Aside0.mk hr
 have H0 := Aside0.mk hb0
 have HM := Aside0.mk (Kd.C_max hr)
 have IH := Aside0.mk ih
 have HN := Aside0.mk hn
 clear hr hc ih hn hb0
 go_enter Try.func67, Try.ntmps67
 go_wp2_with fail
 refine alloc_letter ?_
 intro W hb hblk hsz
 have HB := Aside0.mk (And.intro hb hblk)
 clear hb hblk
 go_wp2_with fail
 go_loopg [9] l.length (fun k v9 W' => ∃ i : Nat, k = l.length - i ∧ i ≤ l.length ∧ v9 = .int .i64 i ∧ Aside0 (findT a (l.drop i) par = findT a l par) ∧
  Aside0 (Below w.heap.size w W' ∧ W'.heap[w.heap.size]? = some (.cells #[.string ⟨#[]⟩, .bool false, .string ⟨#[]⟩, .int .i64 0, .int .i64 0, .int .i64 0, .int .i64 0, .slice none 0 0, .int .i64 0] 142 (0, 0))))
 case atStart => exact ⟨0, rfl, by omega, rfl, ⟨rfl⟩, HB⟩
 case round =>
  clear HB
  obtain ⟨i, rfl, hi, rfl, HF, HG⟩ := hrel
  have hm := HM.out
  by_cases hlt : i < l.length
  ·have hdr : l.drop i = rd_T142 l i :: l.drop (i + 1) := by
    rw [List.drop_eq_getElem_cons hlt]
    simp [rd_T142, List.getD_eq_getElem?_getD, List.getElem?_eq_getElem hlt]
   have hszx : SizeOf.sizeOf (rd_T142 l i).f1 < n := by
    have h1 := S142.kids_lt (rd_T142 l i)
    have h2 : SizeOf.sizeOf (rd_T142 l i) < SizeOf.sizeOf l := List.sizeOf_lt_of_mem (by simp [rd_T142, List.getD_eq_getElem?_getD, List.getElem?_eq_getElem hlt])
    have := HN.out
    omega
   have HD := Aside0.mk (And.intro hdr hszx)
   obtain ⟨ad, A7, c7, had, q0', q1', q2', q3', q4', q5', q6', q7', q8', hl7, hC7⟩ := at_T142 HR.out (i : Int) (by omega) (by omega)
   subst had
   simp only [Int.toNat_natCast] at q0' q1' q2' q3' q4' q5' q6' q7' q8'
   have hbw := below_step H0.out HG.out.1
   have q0 := pw_cell_below hbw q0'
   have q1 := pw_cell_below hbw q1'
   have q2 := pw_cell_below hbw q2'
   have q3 := pw_cell_below hbw q3'
   have q4 := pw_cell_below hbw q4'
   have q5 := pw_cell_below hbw q5'
   have q6 := pw_cell_below hbw q6'
   have q7 := pw_cell_below hbw q7'
   have q8 := pw_cell_below hbw q8'
   clear hbw q0' q1' q2' q3' q4' q5' q6' q7' q8'
   have HC7 := Aside0.mk (And.intro hl7 hC7)
   clear hdr hszx hl7 hC7
   by_cases hx : (rd_T142 l i).f2 = a
   ·have hxb : ((rd_T142 l i).f2 == a) = true := by simpa using hx
    have HX := Aside0.mk hx
    clear hx
    have hg := HG.out.2
    have z0 : wr.cell? ⟨w.heap.size, 0, none⟩ = some (.string ⟨#[]⟩) := (blk_cell hg 0).trans rfl
    have fz0 := blk_frozen hg 0
    have z1 : wr.cell? ⟨w.heap.size, 1, none⟩ = some (.bool false) := (blk_cell hg 1).trans rfl
    have fz1 := blk_frozen hg 1
    have z2 : wr.cell? ⟨w.heap.size, 2, none⟩ = some (.string ⟨#[]⟩) := (blk_cell hg 2).trans rfl
    have fz2 := blk_frozen hg 2
    have z3 : wr.cell? ⟨w.heap.size, 3, none⟩ = some (.int .i64 0) := (blk_cell hg 3).trans rfl
    have fz3 := blk_frozen hg 3
    have z4 : wr.cell? ⟨w.heap.size, 4, none⟩ = some (.int .i64 0) := (blk_cell hg 4).trans rfl
    have fz4 := blk_frozen hg 4
    have z5 : wr.cell? ⟨w.heap.size, 5, none⟩ = some (.int .i64 0) := (blk_cell hg 5).trans rfl
    have fz5 := blk_frozen hg 5
    have z6 : wr.cell? ⟨w.heap.size, 6, none⟩ = some (.int .i64 0) := (blk_cell hg 6).trans rfl
    have fz6 := blk_frozen hg 6
    have z7 : wr.cell? ⟨w.heap.size, 7, none⟩ = some (.slice none 0 0) := (blk_cell hg 7).trans rfl
    have fz7 := blk_frozen hg 7
    have z8 : wr.cell? ⟨w.heap.size, 8, none⟩ = some (.int .i64 0) := (blk_cell hg 8).trans rfl
    have fz8 := blk_frozen hg 8
    clear hg
    go_wp2_with fail
    have hfin := HF.out
    rw [HD.out.1, findT, if_pos HX.out] at hfin
    refine setN_letter [.string (rd_T142 l i).f0.f0, .bool (rd_T142 l i).f0.f1, .string (rd_T142 l i).f0.f2, .int .i64 (rd_T142 l i).f0.f3, .int .i64 (rd_T142 l i).f0.f4, .int .i64 (rd_T142 l i).f0.f5, .int .i64 (rd_T142 l i).f0.f6, .slice A7 (rd_T142 l i).f1.length c7, .int .i64 (rd_T142 l i).f2] HG.out.2 rfl fun W9 hb9 hg9 => ?_
    have hB9 : Below w.heap.size w W9 := HG.out.1.grown hg9 (below_size HG.out.1) (fun k hk => by injection hk with hk; omega)
    refine bodyPost_ret (results_row2 rfl _ _ w.heap.size 142 _ (0, 0) _ rfl hb9 Try.underlying142 rfl (by kernel_rfl)) rfl ?_
    rw [← hfin]
    exact ⟨A7, c7, rfl, HC7.out.1, HC7.out.2, hB9⟩
   ·have hxb : ((rd_T142 l i).f2 == a) = false := by simpa using hx
    have HX := Aside0.mk hx
    clear hx
    go_upto_region 6 with (fail)
    obtain ⟨Inv, hInv⟩ : ∃ I : Array Bool → Act → World → Prop, I = (fun L ac W => ∃ z32 z33 z34 z35 z36 z37 z38 z39 z40 z41 z42 z43 z31 z44 z45 z46 z10 z11 z12 vt : Value, ac = ⟨#[(Value.slice (some ad) l.length c), (Value.int IntKind.i64 a), (Value.int IntKind.i64 par), undef, undef, undef, (Value.pointer (some { block := w.heap.size, off := 0 })), u7, u8, (Value.int IntKind.i64 ↑i), z10, z11, z12, (Value.int IntKind.i64 ↑i), (Value.slice (some ad) l.length c), (Value.int IntKind.i64 ↑l.length), (Value.bool true), u17, u18, (Value.slice (some ad) l.length c), (Value.int IntKind.i64 ↑i), (Value.pointer (some (ad.add (i * 9)))), (Value.pointer (some { block := (ad.add (i * 9)).block, off := (ad.add (i * 9)).off + 8 })), (Value.int IntKind.i64 (rd_T142 l ↑i).f2), (Value.int IntKind.i64 a), (Value.bool false), u26, u27, u28, u29, u30, z31, z32, z33, z34, z35, z36, z37, z38, z39, z40, z41, z42, z43, z44, z45, z46, u47, u48, u49, undef], []⟩ ∧ (L.getD 0 false = true → z32 = .slice (some ad) l.length c) ∧ (L.getD 1 false = true → z33 = .int .i64 (i : Int)) ∧ (L.getD 2 false = true → z34 = .pointer (some (ad.add (i * 9)))) ∧ (L.getD 3 false = true → z35 = .pointer (some ⟨(ad.add (i * 9)).block, (ad.add (i * 9)).off + 7, none⟩)) ∧ (L.getD 4 false = true → z36 = .slice A7 (rd_T142 l i).f1.length c7) ∧ (L.getD 5 false = true → z37 = .int .i64 a) ∧ (L.getD 6 false = true → z38 = .slice (some ad) l.length c) ∧ (L.getD 7 false = true → z39 = .int .i64 (i : Int)) ∧ (L.getD 8 false = true → z40 = .pointer (some (ad.add (i * 9)))) ∧ (L.getD 9 false = true → z41 = .pointer (some ⟨(ad.add (i * 9)).block, (ad.add (i * 9)).off + 8, none⟩)) ∧ (L.getD 10 false = true → z42 = .int .i64 (rd_T142 l i).f2) ∧ (L.getD 11 false = true → ∃ A9 c9, vt = treeV A9 c9 (oneT (findT a (rd_T142 l i).f1 (rd_T142 l i).f2)) ∧ (oneT (findT a (rd_T142 l i).f1 (rd_T142 l i).f2)).f1.length ≤ c9 ∧ Kd.C k142 w0 A9 (oneT (findT a (rd_T142 l i).f1 (rd_T142 l i).f2)).f1.length (oneT (findT a (rd_T142 l i).f1 (rd_T142 l i).f2)).f1) ∧ (L.getD 11 false = true → z43 = .tuple #[vt, .int .i64 (parT (findT a (rd_T142 l i).f1 (rd_T142 l i).f2)), .bool ((findT a (rd_T142 l i).f1 (rd_T142 l i).f2)).isSome]) ∧ (L.getD 12 false = true → z31 = .tuple #[vt, .int .i64 (parT (findT a (rd_T142 l i).f1 (rd_T142 l i).f2)), .bool ((findT a (rd_T142 l i).f1 (rd_T142 l i).f2)).isSome]) ∧ (L.getD 13 false = true → z44 = vt) ∧ (L.getD 14 false = true → z45 = .int .i64 (parT (findT a (rd_T142 l i).f1 (rd_T142 l i).f2))) ∧ (L.getD 15 false = true → z46 = .bool ((findT a (rd_T142 l i).f1 (rd_T142 l i).f2)).isSome) ∧ (L.getD 16 false = true → ∃ g, z10 = .pointer (some ⟨g, 0, none⟩) ∧ W.heap[g]? = some (.cells (if L.getD 17 false then vt.cells else #[.string ⟨#[]⟩, .bool false, .string ⟨#[]⟩, .int .i64 0, .int .i64 0, .int .i64 0, .int .i64 0, .slice none 0 0, .int .i64 0]) 142 (0, 0)) ∧ wr.heap.size ≤ g) ∧ (L.getD 18 false = true → z11 = .int .i64 (parT (findT a (rd_T142 l i).f1 (rd_T142 l i).f2))) ∧ (L.getD 19 false = true → z12 = .bool ((findT a (rd_T142 l i).f1 (rd_T142 l i).f2)).isSome) ∧ (L.getD 12 false = true → L.getD 11 false = true) ∧ (L.getD 13 false = true → L.getD 11 false = true) ∧ (L.getD 17 false = true → L.getD 11 false = true ∧ L.getD 16 false = true) ∧ Below wr.heap.size wr W) := ⟨_, rfl⟩
    have HInv := Aside0.mk hInv
    clear hInv
    refine wp_region_inv (by kernel_rfl) Inv ?h0 ?hstep ?hend
    case h0 => rw [HInv.out]; exact ⟨_, _, _, _, _, _, _, _, _, _, _, _, _, _, _, _, _, _, _, undef, rfl, (by simp), (by simp), (by simp), (by simp), (by simp), (by simp), (by simp), (by simp), (by simp), (by simp), (by simp), (by simp), (by simp), (by simp), (by simp), (by simp), (by simp), (by simp), (by simp), (by simp), (by simp), (by simp), (by simp), below_drew (Below.refl _ _)⟩
    case hstep =>
     intro ix ox hox L ac W hL hni hpre hI
     have hL' : L.size = 20 := by simpa using hL
     have hix : ix < 20 := by have := (Array.getElem?_eq_some_iff.1 hox).1; simpa using this
     rw [HInv.out] at hI
     obtain ⟨z32, z33, z34, z35, z36, z37, z38, z39, z40, z41, z42, z43, z31, z44, z45, z46, z10, z11, z12, vt, rfl, c32, c33, c34, c35, c36, c37, c38, c39, c40, c41, c42, cvt, c43, c31, c44, c45, c46, c10, c11, c12, i12, i13, i17, G⟩ := hI
     have hn0 := up_not hni
     clear hL HF
     obtain rfl | rfl | rfl | rfl | rfl | rfl | rfl | rfl | rfl | rfl | rfl | rfl | rfl | rfl | rfl | rfl | rfl | rfl | rfl | rfl : ix = 0 ∨ ix = 1 ∨ ix = 2 ∨ ix = 3 ∨ ix = 4 ∨ ix = 5 ∨ ix = 6 ∨ ix = 7 ∨ ix = 8 ∨ ix = 9 ∨ ix = 10 ∨ ix = 11 ∨ ix = 12 ∨ ix = 13 ∨ ix = 14 ∨ ix = 15 ∨ ix = 16 ∨ ix = 17 ∨ ix = 18 ∨ ix = 19 := by omega
     all_goals cases hox
     ·-- operation 0
      have X := Aside0.mk (And.intro c32 (And.intro c33 (And.intro c34 (And.intro c35 (And.intro c36 (And.intro c37 (And.intro c38 (And.intro c39 (And.intro c40 (And.intro c41 (And.intro c42 (And.intro cvt (And.intro c43 (And.intro c31 (And.intro c44 (And.intro c45 (And.intro c46 (And.intro c10 (And.intro c11 (And.intro c12 (And.intro i12 (And.intro i13 (And.intro i17 (G))))))))))))))))))))))))
      have Y := Aside0.mk (And.intro hpre (And.intro hn0 hni))
      clear c32 c33 c34 c35 c36 c37 c38 c39 c40 c41 c42 cvt c43 c31 c44 c45 c46 c10 c11 c12 i12 i13 i17 G hpre hn0 hni
      go_wp2_with fail
      show Inv _ _ _
      rw [HInv.out]
      simp only [up_self _ (show 0 < L.size by omega), getD_set_ne _ (show (0 : Nat) ≠ 1 by decide), getD_set_ne _ (show (0 : Nat) ≠ 2 by decide), getD_set_ne _ (show (0 : Nat) ≠ 3 by decide), getD_set_ne _ (show (0 : Nat) ≠ 4 by decide), getD_set_ne _ (show (0 : Nat) ≠ 5 by decide), getD_set_ne _ (show (0 : Nat) ≠ 6 by decide), getD_set_ne _ (show (0 : Nat) ≠ 7 by decide), getD_set_ne _ (show (0 : Nat) ≠ 8 by decide), getD_set_ne _ (show (0 : Nat) ≠ 9 by decide), getD_set_ne _ (show (0 : Nat) ≠ 10 by decide), getD_set_ne _ (show (0 : Nat) ≠ 11 by decide), getD_set_ne _ (show (0 : Nat) ≠ 12 by decide), getD_set_ne _ (show (0 : Nat) ≠ 13 by decide), getD_set_ne _ (show (0 : Nat) ≠ 14 by decide), getD_set_ne _ (show (0 : Nat) ≠ 15 by decide), getD_set_ne _ (show (0 : Nat) ≠ 16 by decide), getD_set_ne _ (show (0 : Nat) ≠ 17 by decide), getD_set_ne _ (show (0 : Nat) ≠ 18 by decide), getD_set_ne _ (show (0 : Nat) ≠ 19 by decide)]
      exact ⟨_, _, _, _, _, _, _, _, _, _, _, _, _, _, _, _, _, _, _, vt, rfl, fun _ => rfl, X.out.2.1, X.out.2.2.1, X.out.2.2.2.1, X.out.2.2.2.2.1, X.out.2.2.2.2.2.1, X.out.2.2.2.2.2.2.1, X.out.2.2.2.2.2.2.2.1, X.out.2.2.2.2.2.2.2.2.1, X.out.2.2.2.2.2.2.2.2.2.1, X.out.2.2.2.2.2.2.2.2.2.2.1, X.out.2.2.2.2.2.2.2.2.2.2.2.1, X.out.2.2.2.2.2.2.2.2.2.2.2.2.1, X.out.2.2.2.2.2.2.2.2.2.2.2.2.2.1, X.out.2.2.2.2.2.2.2.2.2.2.2.2.2.2.1, X.out.2.2.2.2.2.2.2.2.2.2.2.2.2.2.2.1, X.out.2.2.2.2.2.2.2.2.2.2.2.2.2.2.2.2.1, X.out.2.2.2.2.2.2.2.2.2.2.2.2.2.2.2.2.2.1, X.out.2.2.2.2.2.2.2.2.2.2.2.2.2.2.2.2.2.2.1, X.out.2.2.2.2.2.2.2.2.2.2.2.2.2.2.2.2.2.2.2.1, X.out.2.2.2.2.2.2.2.2.2.2.2.2.2.2.2.2.2.2.2.2.1, X.out.2.2.2.2.2.2.2.2.2.2.2.2.2.2.2.2.2.2.2.2.2.1, X.out.2.2.2.2.2.2.2.2.2.2.2.2.2.2.2.2.2.2.2.2.2.2.1, X.out.2.2.2.2.2.2.2.2.2.2.2.2.2.2.2.2.2.2.2.2.2.2.2⟩
     ·-- operation 1
      have X := Aside0.mk (And.intro c32 (And.intro c33 (And.intro c34 (And.intro c35 (And.intro c36 (And.intro c37 (And.intro c38 (And.intro c39 (And.intro c40 (And.intro c41 (And.intro c42 (And.intro cvt (And.intro c43 (And.intro c31 (And.intro c44 (And.intro c45 (And.intro c46 (And.intro c10 (And.intro c11 (And.intro c12 (And.intro i12 (And.intro i13 (And.intro i17 (G))))))))))))))))))))))))
      have Y := Aside0.mk (And.intro hpre (And.intro hn0 hni))
      clear c32 c33 c34 c35 c36 c37 c38 c39 c40 c41 c42 cvt c43 c31 c44 c45 c46 c10 c11 c12 i12 i13 i17 G hpre hn0 hni
      go_wp2_with fail
      show Inv _ _ _
      rw [HInv.out]
      simp only [up_self _ (show 1 < L.size by omega), getD_set_ne _ (show (1 : Nat) ≠ 0 by decide), getD_set_ne _ (show (1 : Nat) ≠ 2 by decide), getD_set_ne _ (show (1 : Nat) ≠ 3 by decide), getD_set_ne _ (show (1 : Nat) ≠ 4 by decide), getD_set_ne _ (show (1 : Nat) ≠ 5 by decide), getD_set_ne _ (show (1 : Nat) ≠ 6 by decide), getD_set_ne _ (show (1 : Nat) ≠ 7 by decide), getD_set_ne _ (show (1 : Nat) ≠ 8 by decide), getD_set_ne _ (show (1 : Nat) ≠ 9 by decide), getD_set_ne _ (show (1 : Nat) ≠ 10 by decide), getD_set_ne _ (show (1 : Nat) ≠ 11 by decide), getD_set_ne _ (show (1 : Nat) ≠ 12 by decide), getD_set_ne _ (show (1 : Nat) ≠ 13 by decide), getD_set_ne _ (show (1 : Nat) ≠ 14 by decide), getD_set_ne _ (show (1 : Nat) ≠ 15 by decide), getD_set_ne _ (show (1 : Nat) ≠ 16 by decide), getD_set_ne _ (show (1 : Nat) ≠ 17 by decide), getD_set_ne _ (show (1 : Nat) ≠ 18 by decide), getD_set_ne _ (show (1 : Nat) ≠ 19 by decide)]
      exact ⟨_, _, _, _, _, _, _, _, _, _, _, _, _, _, _, _, _, _, _, vt, rfl, X.out.1, fun _ => rfl, X.out.2.2.1, X.out.2.2.2.1, X.out.2.2.2.2.1, X.out.2.2.2.2.2.1, X.out.2.2.2.2.2.2.1, X.out.2.2.2.2.2.2.2.1, X.out.2.2.2.2.2.2.2.2.1, X.out.2.2.2.2.2.2.2.2.2.1, X.out.2.2.2.2.2.2.2.2.2.2.1, X.out.2.2.2.2.2.2.2.2.2.2.2.1, X.out.2.2.2.2.2.2.2.2.2.2.2.2.1, X.out.2.2.2.2.2.2.2.2.2.2.2.2.2.1, X.out.2.2.2.2.2.2.2.2.2.2.2.2.2.2.1, X.out.2.2.2.2.2.2.2.2.2.2.2.2.2.2.2.1, X.out.2.2.2.2.2.2.2.2.2.2.2.2.2.2.2.2.1, X.out.2.2.2.2.2.2.2.2.2.2.2.2.2.2.2.2.2.1, X.out.2.2.2.2.2.2.2.2.2.2.2.2.2.2.2.2.2.2.1, X.out.2.2.2.2.2.2.2.2.2.2.2.2.2.2.2.2.2.2.2.1, X.out.2.2.2.2.2.2.2.2.2.2.2.2.2.2.2.2.2.2.2.2.1, X.out.2.2.2.2.2.2.2.2.2.2.2.2.2.2.2.2.2.2.2.2.2.1, X.out.2.2.2.2.2.2.2.2.2.2.2.2.2.2.2.2.2.2.2.2.2.2.1, X.out.2.2.2.2.2.2.2.2.2.2.2.2.2.2.2.2.2.2.2.2.2.2.2⟩
     ·-- operation 2
      have p0 := hpre ⟨0, .data⟩ (by simp) rfl
      have p1 := hpre ⟨1, .data⟩ (by simp) rfl
      obtain rfl := c32 p0
      obtain rfl := c33 p1
      have X := Aside0.mk (And.intro c32 (And.intro c33 (And.intro c34 (And.intro c35 (And.intro c36 (And.intro c37 (And.intro c38 (And.intro c39 (And.intro c40 (And.intro c41 (And.intro c42 (And.intro cvt (And.intro c43 (And.intro c31 (And.intro c44 (And.intro c45 (And.intro c46 (And.intro c10 (And.intro c11 (And.intro c12 (And.intro i12 (And.intro i13 (And.intro i17 (G))))))))))))))))))))))))
      have Y := Aside0.mk (And.intro hpre (And.intro hn0 hni))
      clear c32 c33 c34 c35 c36 c37 c38 c39 c40 c41 c42 cvt c43 c31 c44 c45 c46 c10 c11 c12 i12 i13 i17 G hpre hn0 hni p0 p1
      go_wp2_with fail
      show Inv _ _ _
      rw [HInv.out]
      simp only [up_self _ (show 2 < L.size by omega), getD_set_ne _ (show (2 : Nat) ≠ 0 by decide), getD_set_ne _ (show (2 : Nat) ≠ 1 by decide), getD_set_ne _ (show (2 : Nat) ≠ 3 by decide), getD_set_ne _ (show (2 : Nat) ≠ 4 by decide), getD_set_ne _ (show (2 : Nat) ≠ 5 by decide), getD_set_ne _ (show (2 : Nat) ≠ 6 by decide), getD_set_ne _ (show (2 : Nat) ≠ 7 by decide), getD_set_ne _ (show (2 : Nat) ≠ 8 by decide), getD_set_ne _ (show (2 : Nat) ≠ 9 by decide), getD_set_ne _ (show (2 : Nat) ≠ 10 by decide), getD_set_ne _ (show (2 : Nat) ≠ 11 by decide), getD_set_ne _ (show (2 : Nat) ≠ 12 by decide), getD_set_ne _ (show (2 : Nat) ≠ 13 by decide), getD_set_ne _ (show (2 : Nat) ≠ 14 by decide), getD_set_ne _ (show (2 : Nat) ≠ 15 by decide), getD_set_ne _ (show (2 : Nat) ≠ 16 by decide), getD_set_ne _ (show (2 : Nat) ≠ 17 by decide), getD_set_ne _ (show (2 : Nat) ≠ 18 by decide), getD_set_ne _ (show (2 : Nat) ≠ 19 by decide)]
      exact ⟨_, _, _, _, _, _, _, _, _, _, _, _, _, _, _, _, _, _, _, vt, rfl, fun _ => rfl, fun _ => rfl, fun _ => rfl, X.out.2.2.2.1, X.out.2.2.2.2.1, X.out.2.2.2.2.2.1, X.out.2.2.2.2.2.2.1, X.out.2.2.2.2.2.2.2.1, X.out.2.2.2.2.2.2.2.2.1, X.out.2.2.2.2.2.2.2.2.2.1, X.out.2.2.2.2.2.2.2.2.2.2.1, X.out.2.2.2.2.2.2.2.2.2.2.2.1, X.out.2.2.2.2.2.2.2.2.2.2.2.2.1, X.out.2.2.2.2.2.2.2.2.2.2.2.2.2.1, X.out.2.2.2.2.2.2.2.2.2.2.2.2.2.2.1, X.out.2.2.2.2.2.2.2.2.2.2.2.2.2.2.2.1, X.out.2.2.2.2.2.2.2.2.2.2.2.2.2.2.2.2.1, X.out.2.2.2.2.2.2.2.2.2.2.2.2.2.2.2.2.2.1, X.out.2.2.2.2.2.2.2.2.2.2.2.2.2.2.2.2.2.2.1, X.out.2.2.2.2.2.2.2.2.2.2.2.2.2.2.2.2.2.2.2.1, X.out.2.2.2.2.2.2.2.2.2.2.2.2.2.2.2.2.2.2.2.2.1, X.out.2.2.2.2.2.2.2.2.2.2.2.2.2.2.2.2.2.2.2.2.2.1, X.out.2.2.2.2.2.2.2.2.2.2.2.2.2.2.2.2.2.2.2.2.2.2.1, X.out.2.2.2.2.2.2.2.2.2.2.2.2.2.2.2.2.2.2.2.2.2.2.2⟩
     ·-- operation 3
      have p2 := hpre ⟨2, .data⟩ (by simp) rfl
      obtain rfl := c34 p2
      have X := Aside0.mk (And.intro c32 (And.intro c33 (And.intro c34 (And.intro c35 (And.intro c36 (And.intro c37 (And.intro c38 (And.intro c39 (And.intro c40 (And.intro c41 (And.intro c42 (And.intro cvt (And.intro c43 (And.intro c31 (And.intro c44 (And.intro c45 (And.intro c46 (And.intro c10 (And.intro c11 (And.intro c12 (And.intro i12 (And.intro i13 (And.intro i17 (G))))))))))))))))))))))))
      have Y := Aside0.mk (And.intro hpre (And.intro hn0 hni))
      clear c32 c33 c34 c35 c36 c37 c38 c39 c40 c41 c42 cvt c43 c31 c44 c45 c46 c10 c11 c12 i12 i13 i17 G hpre hn0 hni p2
      go_wp2_with fail
      show Inv _ _ _
      rw [HInv.out]
      simp only [up_self _ (show 3 < L.size by omega), getD_set_ne _ (show (3 : Nat) ≠ 0 by decide), getD_set_ne _ (show (3 : Nat) ≠ 1 by decide), getD_set_ne _ (show (3 : Nat) ≠ 2 by decide), getD_set_ne _ (show (3 : Nat) ≠ 4 by decide), getD_set_ne _ (show (3 : Nat) ≠ 5 by decide), getD_set_ne _ (show (3 : Nat) ≠ 6 by decide), getD_set_ne _ (show (3 : Nat) ≠ 7 by decide), getD_set_ne _ (show (3 : Nat) ≠ 8 by decide), getD_set_ne _ (show (3 : Nat) ≠ 9 by decide), getD_set_ne _ (show (3 : Nat) ≠ 10 by decide), getD_set_ne _ (show (3 : Nat) ≠ 11 by decide), getD_set_ne _ (show (3 : Nat) ≠ 12 by decide), getD_set_ne _ (show (3 : Nat) ≠ 13 by decide), getD_set_ne _ (show (3 : Nat) ≠ 14 by decide), getD_set_ne _ (show (3 : Nat) ≠ 15 by decide), getD_set_ne _ (show (3 : Nat) ≠ 16 by decide), getD_set_ne _ (show (3 : Nat) ≠ 17 by decide), getD_set_ne _ (show (3 : Nat) ≠ 18 by decide), getD_set_ne _ (show (3 : Nat) ≠ 19 by decide)]
      exact ⟨_, _, _, _, _, _, _, _, _, _, _, _, _, _, _, _, _, _, _, vt, rfl, X.out.1, X.out.2.1, fun _ => rfl, fun _ => rfl, X.out.2.2.2.2.1, X.out.2.2.2.2.2.1, X.out.2.2.2.2.2.2.1, X.out.2.2.2.2.2.2.2.1, X.out.2.2.2.2.2.2.2.2.1, X.out.2.2.2.2.2.2.2.2.2.1, X.out.2.2.2.2.2.2.2.2.2.2.1, X.out.2.2.2.2.2.2.2.2.2.2.2.1, X.out.2.2.2.2.2.2.2.2.2.2.2.2.1, X.out.2.2.2.2.2.2.2.2.2.2.2.2.2.1, X.out.2.2.2.2.2.2.2.2.2.2.2.2.2.2.1, X.out.2.2.2.2.2.2.2.2.2.2.2.2.2.2.2.1, X.out.2.2.2.2.2.2.2.2.2.2.2.2.2.2.2.2.1, X.out.2.2.2.2.2.2.2.2.2.2.2.2.2.2.2.2.2.1, X.out.2.2.2.2.2.2.2.2.2.2.2.2.2.2.2.2.2.2.1, X.out.2.2.2.2.2.2.2.2.2.2.2.2.2.2.2.2.2.2.2.1, X.out.2.2.2.2.2.2.2.2.2.2.2.2.2.2.2.2.2.2.2.2.1, X.out.2.2.2.2.2.2.2.2.2.2.2.2.2.2.2.2.2.2.2.2.2.1, X.out.2.2.2.2.2.2.2.2.2.2.2.2.2.2.2.2.2.2.2.2.2.2.1, X.out.2.2.2.2.2.2.2.2.2.2.2.2.2.2.2.2.2.2.2.2.2.2.2⟩
     ·-- operation 4
      have p3 := hpre ⟨3, .data⟩ (by simp) rfl
      obtain rfl := c35 p3
      have k7 := pw_cell_below G q7
      have X := Aside0.mk (And.intro c32 (And.intro c33 (And.intro c34 (And.intro c35 (And.intro c36 (And.intro c37 (And.intro c38 (And.intro c39 (And.intro c40 (And.intro c41 (And.intro c42 (And.intro cvt (And.intro c43 (And.intro c31 (And.intro c44 (And.intro c45 (And.intro c46 (And.intro c10 (And.intro c11 (And.intro c12 (And.intro i12 (And.intro i13 (And.intro i17 (G))))))))))))))))))))))))
      have Y := Aside0.mk (And.intro hpre (And.intro hn0 hni))
      clear c32 c33 c34 c35 c36 c37 c38 c39 c40 c41 c42 cvt c43 c31 c44 c45 c46 c10 c11 c12 i12 i13 i17 G hpre hn0 hni p3
      go_wp2_with fail
      show Inv _ _ _
      rw [HInv.out]
      simp only [up_self _ (show 4 < L.size by omega), getD_set_ne _ (show (4 : Nat) ≠ 0 by decide), getD_set_ne _ (show (4 : Nat) ≠ 1 by decide), getD_set_ne _ (show (4 : Nat) ≠ 2 by decide), getD_set_ne _ (show (4 : Nat) ≠ 3 by decide), getD_set_ne _ (show (4 : Nat) ≠ 5 by decide), getD_set_ne _ (show (4 : Nat) ≠ 6 by decide), getD_set_ne _ (show (4 : Nat) ≠ 7 by decide), getD_set_ne _ (show (4 : Nat) ≠ 8 by decide), getD_set_ne _ (show (4 : Nat) ≠ 9 by decide), getD_set_ne _ (show (4 : Nat) ≠ 10 by decide), getD_set_ne _ (show (4 : Nat) ≠ 11 by decide), getD_set_ne _ (show (4 : Nat) ≠ 12 by decide), getD_set_ne _ (show (4 : Nat) ≠ 13 by decide), getD_set_ne _ (show (4 : Nat) ≠ 14 by decide), getD_set_ne _ (show (4 : Nat) ≠ 15 by decide), getD_set_ne _ (show (4 : Nat) ≠ 16 by decide), getD_set_ne _ (show (4 : Nat) ≠ 17 by decide), getD_set_ne _ (show (4 : Nat) ≠ 18 by decide), getD_set_ne _ (show (4 : Nat) ≠ 19 by decide)]
      exact ⟨_, _, _, _, _, _, _, _, _, _, _, _, _, _, _, _, _, _, _, vt, rfl, X.out.1, X.out.2.1, X.out.2.2.1, fun _ => rfl, fun _ => rfl, X.out.2.2.2.2.2.1, X.out.2.2.2.2.2.2.1, X.out.2.2.2.2.2.2.2.1, X.out.2.2.2.2.2.2.2.2.1, X.out.2.2.2.2.2.2.2.2.2.1, X.out.2.2.2.2.2.2.2.2.2.2.1, X.out.2.2.2.2.2.2.2.2.2.2.2.1, X.out.2.2.2.2.2.2.2.2.2.2.2.2.1, X.out.2.2.2.2.2.2.2.2.2.2.2.2.2.1, X.out.2.2.2.2.2.2.2.2.2.2.2.2.2.2.1, X.out.2.2.2.2.2.2.2.2.2.2.2.2.2.2.2.1, X.out.2.2.2.2.2.2.2.2.2.2.2.2.2.2.2.2.1, X.out.2.2.2.2.2.2.2.2.2.2.2.2.2.2.2.2.2.1, X.out.2.2.2.2.2.2.2.2.2.2.2.2.2.2.2.2.2.2.1, X.out.2.2.2.2.2.2.2.2.2.2.2.2.2.2.2.2.2.2.2.1, X.out.2.2.2.2.2.2.2.2.2.2.2.2.2.2.2.2.2.2.2.2.1, X.out.2.2.2.2.2.2.2.2.2.2.2.2.2.2.2.2.2.2.2.2.2.1, X.out.2.2.2.2.2.2.2.2.2.2.2.2.2.2.2.2.2.2.2.2.2.2.1, X.out.2.2.2.2.2.2.2.2.2.2.2.2.2.2.2.2.2.2.2.2.2.2.2⟩
     ·-- operation 5
      have X := Aside0.mk (And.intro c32 (And.intro c33 (And.intro c34 (And.intro c35 (And.intro c36 (And.intro c37 (And.intro c38 (And.intro c39 (And.intro c40 (And.intro c41 (And.intro c42 (And.intro cvt (And.intro c43 (And.intro c31 (And.intro c44 (And.intro c45 (And.intro c46 (And.intro c10 (And.intro c11 (And.intro c12 (And.intro i12 (And.intro i13 (And.intro i17 (G))))))))))))))))))))))))
      have Y := Aside0.mk (And.intro hpre (And.intro hn0 hni))
      clear c32 c33 c34 c35 c36 c37 c38 c39 c40 c41 c42 cvt c43 c31 c44 c45 c46 c10 c11 c12 i12 i13 i17 G hpre hn0 hni
      go_wp2_with fail
      show Inv _ _ _
      rw [HInv.out]
      simp only [up_self _ (show 5 < L.size by omega), getD_set_ne _ (show (5 : Nat) ≠ 0 by decide), getD_set_ne _ (show (5 : Nat) ≠ 1 by decide), getD_set_ne _ (show (5 : Nat) ≠ 2 by decide), getD_set_ne _ (show (5 : Nat) ≠ 3 by decide), getD_set_ne _ (show (5 : Nat) ≠ 4 by decide), getD_set_ne _ (show (5 : Nat) ≠ 6 by decide), getD_set_ne _ (show (5 : Nat) ≠ 7 by decide), getD_set_ne _ (show (5 : Nat) ≠ 8 by decide), getD_set_ne _ (show (5 : Nat) ≠ 9 by decide), getD_set_ne _ (show (5 : Nat) ≠ 10 by decide), getD_set_ne _ (show (5 : Nat) ≠ 11 by decide), getD_set_ne _ (show (5 : Nat) ≠ 12 by decide), getD_set_ne _ (show (5 : Nat) ≠ 13 by decide), getD_set_ne _ (show (5 : Nat) ≠ 14 by decide), getD_set_ne _ (show (5 : Nat) ≠ 15 by decide), getD_set_ne _ (show (5 : Nat) ≠ 16 by decide), getD_set_ne _ (show (5 : Nat) ≠ 17 by decide), getD_set_ne _ (show (5 : Nat) ≠ 18 by decide), getD_set_ne _ (show (5 : Nat) ≠ 19 by decide)]
      exact ⟨_, _, _, _, _, _, _, _, _, _, _, _, _, _, _, _, _, _, _, vt, rfl, X.out.1, X.out.2.1, X.out.2.2.1, X.out.2.2.2.1, X.out.2.2.2.2.1, fun _ => rfl, X.out.2.2.2.2.2.2.1, X.out.2.2.2.2.2.2.2.1, X.out.2.2.2.2.2.2.2.2.1, X.out.2.2.2.2.2.2.2.2.2.1, X.out.2.2.2.2.2.2.2.2.2.2.1, X.out.2.2.2.2.2.2.2.2.2.2.2.1, X.out.2.2.2.2.2.2.2.2.2.2.2.2.1, X.out.2.2.2.2.2.2.2.2.2.2.2.2.2.1, X.out.2.2.2.2.2.2.2.2.2.2.2.2.2.2.1, X.out.2.2.2.2.2.2.2.2.2.2.2.2.2.2.2.1, X.out.2.2.2.2.2.2.2.2.2.2.2.2.2.2.2.2.1, X.out.2.2.2.2.2.2.2.2.2.2.2.2.2.2.2.2.2.1, X.out.2.2.2.2.2.2.2.2.2.2.2.2.2.2.2.2.2.2.1, X.out.2.2.2.2.2.2.2.2.2.2.2.2.2.2.2.2.2.2.2.1, X.out.2.2.2.2.2.2.2.2.2.2.2.2.2.2.2.2.2.2.2.2.1, X.out.2.2.2.2.2.2.2.2.2.2.2.2.2.2.2.2.2.2.2.2.2.1, X.out.2.2.2.2.2.2.2.2.2.2.2.2.2.2.2.2.2.2.2.2.2.2.1, X.out.2.2.2.2.2.2.2.2.2.2.2.2.2.2.2.2.2.2.2.2.2.2.2⟩
     ·-- operation 6
      have X := Aside0.mk (And.intro c32 (And.intro c33 (And.intro c34 (And.intro c35 (And.intro c36 (And.intro c37 (And.intro c38 (And.intro c39 (And.intro c40 (And.intro c41 (And.intro c42 (And.intro cvt (And.intro c43 (And.intro c31 (And.intro c44 (And.intro c45 (And.intro c46 (And.intro c10 (And.intro c11 (And.intro c12 (And.intro i12 (And.intro i13 (And.intro i17 (G))))))))))))))))))))))))
      have Y := Aside0.mk (And.intro hpre (And.intro hn0 hni))
      clear c32 c33 c34 c35 c36 c37 c38 c39 c40 c41 c42 cvt c43 c31 c44 c45 c46 c10 c11 c12 i12 i13 i17 G hpre hn0 hni
      go_wp2_with fail
      show Inv _ _ _
      rw [HInv.out]
      simp only [up_self _ (show 6 < L.size by omega), getD_set_ne _ (show (6 : Nat) ≠ 0 by decide), getD_set_ne _ (show (6 : Nat) ≠ 1 by decide), getD_set_ne _ (show (6 : Nat) ≠ 2 by decide), getD_set_ne _ (show (6 : Nat) ≠ 3 by decide), getD_set_ne _ (show (6 : Nat) ≠ 4 by decide), getD_set_ne _ (show (6 : Nat) ≠ 5 by decide), getD_set_ne _ (show (6 : Nat) ≠ 7 by decide), getD_set_ne _ (show (6 : Nat) ≠ 8 by decide), getD_set_ne _ (show (6 : Nat) ≠ 9 by decide), getD_set_ne _ (show (6 : Nat) ≠ 10 by decide), getD_set_ne _ (show (6 : Nat) ≠ 11 by decide), getD_set_ne _ (show (6 : Nat) ≠ 12 by decide), getD_set_ne _ (show (6 : Nat) ≠ 13 by decide), getD_set_ne _ (show (6 : Nat) ≠ 14 by decide), getD_set_ne _ (show (6 : Nat) ≠ 15 by decide), getD_set_ne _ (show (6 : Nat) ≠ 16 by decide), getD_set_ne _ (show (6 : Nat) ≠ 17 by decide), getD_set_ne _ (show (6 : Nat) ≠ 18 by decide), getD_set_ne _ (show (6 : Nat) ≠ 19 by decide)]
      exact ⟨_, _, _, _, _, _, _, _, _, _, _, _, _, _, _, _, _, _, _, vt, rfl, X.out.1, X.out.2.1, X.out.2.2.1, X.out.2.2.2.1, X.out.2.2.2.2.1, X.out.2.2.2.2.2.1, fun _ => rfl, X.out.2.2.2.2.2.2.2.1, X.out.2.2.2.2.2.2.2.2.1, X.out.2.2.2.2.2.2.2.2.2.1, X.out.2.2.2.2.2.2.2.2.2.2.1, X.out.2.2.2.2.2.2.2.2.2.2.2.1, X.out.2.2.2.2.2.2.2.2.2.2.2.2.1, X.out.2.2.2.2.2.2.2.2.2.2.2.2.2.1, X.out.2.2.2.2.2.2.2.2.2.2.2.2.2.2.1, X.out.2.2.2.2.2.2.2.2.2.2.2.2.2.2.2.1, X.out.2.2.2.2.2.2.2.2.2.2.2.2.2.2.2.2.1, X.out.2.2.2.2.2.2.2.2.2.2.2.2.2.2.2.2.2.1, X.out.2.2.2.2.2.2.2.2.2.2.2.2.2.2.2.2.2.2.1, X.out.2.2.2.2.2.2.2.2.2.2.2.2.2.2.2.2.2.2.2.1, X.out.2.2.2.2.2.2.2.2.2.2.2.2.2.2.2.2.2.2.2.2.1, X.out.2.2.2.2.2.2.2.2.2.2.2.2.2.2.2.2.2.2.2.2.2.1, X.out.2.2.2.2.2.2.2.2.2.2.2.2.2.2.2.2.2.2.2.2.2.2.1, X.out.2.2.2.2.2.2.2.2.2.2.2.2.2.2.2.2.2.2.2.2.2.2.2⟩
     ·-- operation 7
      have X := Aside0.mk (And.intro c32 (And.intro c33 (And.intro c34 (And.intro c35 (And.intro c36 (And.intro c37 (And.intro c38 (And.intro c39 (And.intro c40 (And.intro c41 (And.intro c42 (And.intro cvt (And.intro c43 (And.intro c31 (And.intro c44 (And.intro c45 (And.intro c46 (And.intro c10 (And.intro c11 (And.intro c12 (And.intro i12 (And.intro i13 (And.intro i17 (G))))))))))))))))))))))))
      have Y := Aside0.mk (And.intro hpre (And.intro hn0 hni))
      clear c32 c33 c34 c35 c36 c37 c38 c39 c40 c41 c42 cvt c43 c31 c44 c45 c46 c10 c11 c12 i12 i13 i17 G hpre hn0 hni
      go_wp2_with fail
      show Inv _ _ _
      rw [HInv.out]
      simp only [up_self _ (show 7 < L.size by omega), getD_set_ne _ (show (7 : Nat) ≠ 0 by decide), getD_set_ne _ (show (7 : Nat) ≠ 1 by decide), getD_set_ne _ (show (7 : Nat) ≠ 2 by decide), getD_set_ne _ (show (7 : Nat) ≠ 3 by decide), getD_set_ne _ (show (7 : Nat) ≠ 4 by decide), getD_set_ne _ (show (7 : Nat) ≠ 5 by decide), getD_set_ne _ (show (7 : Nat) ≠ 6 by decide), getD_set_ne _ (show (7 : Nat) ≠ 8 by decide), getD_set_ne _ (show (7 : Nat) ≠ 9 by decide), getD_set_ne _ (show (7 : Nat) ≠ 10 by decide), getD_set_ne _ (show (7 : Nat) ≠ 11 by decide), getD_set_ne _ (show (7 : Nat) ≠ 12 by decide), getD_set_ne _ (show (7 : Nat) ≠ 13 by decide), getD_set_ne _ (show (7 : Nat) ≠ 14 by decide), getD_set_ne _ (show (7 : Nat) ≠ 15 by decide), getD_set_ne _ (show (7 : Nat) ≠ 16 by decide), getD_set_ne _ (show (7 : Nat) ≠ 17 by decide), getD_set_ne _ (show (7 : Nat) ≠ 18 by decide), getD_set_ne _ (show (7 : Nat) ≠ 19 by decide)]
      exact ⟨_, _, _, _, _, _, _, _, _, _, _, _, _, _, _, _, _, _, _, vt, rfl, X.out.1, X.out.2.1, X.out.2.2.1, X.out.2.2.2.1, X.out.2.2.2.2.1, X.out.2.2.2.2.2.1, X.out.2.2.2.2.2.2.1, fun _ => rfl, X.out.2.2.2.2.2.2.2.2.1, X.out.2.2.2.2.2.2.2.2.2.1, X.out.2.2.2.2.2.2.2.2.2.2.1, X.out.2.2.2.2.2.2.2.2.2.2.2.1, X.out.2.2.2.2.2.2.2.2.2.2.2.2.1, X.out.2.2.2.2.2.2.2.2.2.2.2.2.2.1, X.out.2.2.2.2.2.2.2.2.2.2.2.2.2.2.1, X.out.2.2.2.2.2.2.2.2.2.2.2.2.2.2.2.1, X.out.2.2.2.2.2.2.2.2.2.2.2.2.2.2.2.2.1, X.out.2.2.2.2.2.2.2.2.2.2.2.2.2.2.2.2.2.1, X.out.2.2.2.2.2.2.2.2.2.2.2.2.2.2.2.2.2.2.1, X.out.2.2.2.2.2.2.2.2.2.2.2.2.2.2.2.2.2.2.2.1, X.out.2.2.2.2.2.2.2.2.2.2.2.2.2.2.2.2.2.2.2.2.1, X.out.2.2.2.2.2.2.2.2.2.2.2.2.2.2.2.2.2.2.2.2.2.1, X.out.2.2.2.2.2.2.2.2.2.2.2.2.2.2.2.2.2.2.2.2.2.2.1, X.out.2.2.2.2.2.2.2.2.2.2.2.2.2.2.2.2.2.2.2.2.2.2.2⟩
     ·-- operation 8
      have p6 := hpre ⟨6, .data⟩ (by simp) rfl
      have p7 := hpre ⟨7, .data⟩ (by simp) rfl
      obtain rfl := c38 p6
      obtain rfl := c39 p7
      have X := Aside0.mk (And.intro c32 (And.intro c33 (And.intro c34 (And.intro c35 (And.intro c36 (And.intro c37 (And.intro c38 (And.intro c39 (And.intro c40 (And.intro c41 (And.intro c42 (And.intro cvt (And.intro c43 (And.intro c31 (And.intro c44 (And.intro c45 (And.intro c46 (And.intro c10 (And.intro c11 (And.intro c12 (And.intro i12 (And.intro i13 (And.intro i17 (G))))))))))))))))))))))))
      have Y := Aside0.mk (And.intro hpre (And.intro hn0 hni))
      clear c32 c33 c34 c35 c36 c37 c38 c39 c40 c41 c42 cvt c43 c31 c44 c45 c46 c10 c11 c12 i12 i13 i17 G hpre hn0 hni p6 p7
      go_wp2_with fail
      show Inv _ _ _
      rw [HInv.out]
      simp only [up_self _ (show 8 < L.size by omega), getD_set_ne _ (show (8 : Nat) ≠ 0 by decide), getD_set_ne _ (show (8 : Nat) ≠ 1 by decide), getD_set_ne _ (show (8 : Nat) ≠ 2 by decide), getD_set_ne _ (show (8 : Nat) ≠ 3 by decide), getD_set_ne _ (show (8 : Nat) ≠ 4 by decide), getD_set_ne _ (show (8 : Nat) ≠ 5 by decide), getD_set_ne _ (show (8 : Nat) ≠ 6 by decide), getD_set_ne _ (show (8 : Nat) ≠ 7 by decide), getD_set_ne _ (show (8 : Nat) ≠ 9 by decide), getD_set_ne _ (show (8 : Nat) ≠ 10 by decide), getD_set_ne _ (show (8 : Nat) ≠ 11 by decide), getD_set_ne _ (show (8 : Nat) ≠ 12 by decide), getD_set_ne _ (show (8 : Nat) ≠ 13 by decide), getD_set_ne _ (show (8 : Nat) ≠ 14 by decide), getD_set_ne _ (show (8 : Nat) ≠ 15 by decide), getD_set_ne _ (show (8 : Nat) ≠ 16 by decide), getD_set_ne _ (show (8 : Nat) ≠ 17 by decide), getD_set_ne _ (show (8 : Nat) ≠ 18 by decide), getD_set_ne _ (show (8 : Nat) ≠ 19 by decide)]
      exact ⟨_, _, _, _, _, _, _, _, _, _, _, _, _, _, _, _, _, _, _, vt, rfl, X.out.1, X.out.2.1, X.out.2.2.1, X.out.2.2.2.1, X.out.2.2.2.2.1, X.out.2.2.2.2.2.1, fun _ => rfl, fun _ => rfl, fun _ => rfl, X.out.2.2.2.2.2.2.2.2.2.1, X.out.2.2.2.2.2.2.2.2.2.2.1, X.out.2.2.2.2.2.2.2.2.2.2.2.1, X.out.2.2.2.2.2.2.2.2.2.2.2.2.1, X.out.2.2.2.2.2.2.2.2.2.2.2.2.2.1, X.out.2.2.2.2.2.2.2.2.2.2.2.2.2.2.1, X.out.2.2.2.2.2.2.2.2.2.2.2.2.2.2.2.1, X.out.2.2.2.2.2.2.2.2.2.2.2.2.2.2.2.2.1, X.out.2.2.2.2.2.2.2.2.2.2.2.2.2.2.2.2.2.1, X.out.2.2.2.2.2.2.2.2.2.2.2.2.2.2.2.2.2.2.1, X.out.2.2.2.2.2.2.2.2.2.2.2.2.2.2.2.2.2.2.2.1, X.out.2.2.2.2.2.2.2.2.2.2.2.2.2.2.2.2.2.2.2.2.1, X.out.2.2.2.2.2.2.2.2.2.2.2.2.2.2.2.2.2.2.2.2.2.1, X.out.2.2.2.2.2.2.2.2.2.2.2.2.2.2.2.2.2.2.2.2.2.2.1, X.out.2.2.2.2.2.2.2.2.2.2.2.2.2.2.2.2.2.2.2.2.2.2.2⟩
     ·-- operation 9
      have p8 := hpre ⟨8, .data⟩ (by simp) rfl
      obtain rfl := c40 p8
      have X := Aside0.mk (And.intro c32 (And.intro c33 (And.intro c34 (And.intro c35 (And.intro c36 (And.intro c37 (And.intro c38 (And.intro c39 (And.intro c40 (And.intro c41 (And.intro c42 (And.intro cvt (And.intro c43 (And.intro c31 (And.intro c44 (And.intro c45 (And.intro c46 (And.intro c10 (And.intro c11 (And.intro c12 (And.intro i12 (And.intro i13 (And.intro i17 (G))))))))))))))))))))))))
      have Y := Aside0.mk (And.intro hpre (And.intro hn0 hni))
      clear c32 c33 c34 c35 c36 c37 c38 c39 c40 c41 c42 cvt c43 c31 c44 c45 c46 c10 c11 c12 i12 i13 i17 G hpre hn0 hni p8
      go_wp2_with fail
      show Inv _ _ _
      rw [HInv.out]
      simp only [up_self _ (show 9 < L.size by omega), getD_set_ne _ (show (9 : Nat) ≠ 0 by decide), getD_set_ne _ (show (9 : Nat) ≠ 1 by decide), getD_set_ne _ (show (9 : Nat) ≠ 2 by decide), getD_set_ne _ (show (9 : Nat) ≠ 3 by decide), getD_set_ne _ (show (9 : Nat) ≠ 4 by decide), getD_set_ne _ (show (9 : Nat) ≠ 5 by decide), getD_set_ne _ (show (9 : Nat) ≠ 6 by decide), getD_set_ne _ (show (9 : Nat) ≠ 7 by decide), getD_set_ne _ (show (9 : Nat) ≠ 8 by decide), getD_set_ne _ (show (9 : Nat) ≠ 10 by decide), getD_set_ne _ (show (9 : Nat) ≠ 11 by decide), getD_set_ne _ (show (9 : Nat) ≠ 12 by decide), getD_set_ne _ (show (9 : Nat) ≠ 13 by decide), getD_set_ne _ (show (9 : Nat) ≠ 14 by decide), getD_set_ne _ (show (9 : Nat) ≠ 15 by decide), getD_set_ne _ (show (9 : Nat) ≠ 16 by decide), getD_set_ne _ (show (9 : Nat) ≠ 17 by decide), getD_set_ne _ (show (9 : Nat) ≠ 18 by decide), getD_set_ne _ (show (9 : Nat) ≠ 19 by decide)]
      exact ⟨_, _, _, _, _, _, _, _, _, _, _, _, _, _, _, _, _, _, _, vt, rfl, X.out.1, X.out.2.1, X.out.2.2.1, X.out.2.2.2.1, X.out.2.2.2.2.1, X.out.2.2.2.2.2.1, X.out.2.2.2.2.2.2.1, X.out.2.2.2.2.2.2.2.1, fun _ => rfl, fun _ => rfl, X.out.2.2.2.2.2.2.2.2.2.2.1, X.out.2.2.2.2.2.2.2.2.2.2.2.1, X.out.2.2.2.2.2.2.2.2.2.2.2.2.1, X.out.2.2.2.2.2.2.2.2.2.2.2.2.2.1, X.out.2.2.2.2.2.2.2.2.2.2.2.2.2.2.1, X.out.2.2.2.2.2.2.2.2.2.2.2.2.2.2.2.1, X.out.2.2.2.2.2.2.2.2.2.2.2.2.2.2.2.2.1, X.out.2.2.2.2.2.2.2.2.2.2.2.2.2.2.2.2.2.1, X.out.2.2.2.2.2.2.2.2.2.2.2.2.2.2.2.2.2.2.1, X.out.2.2.2.2.2.2.2.2.2.2.2.2.2.2.2.2.2.2.2.1, X.out.2.2.2.2.2.2.2.2.2.2.2.2.2.2.2.2.2.2.2.2.1, X.out.2.2.2.2.2.2.2.2.2.2.2.2.2.2.2.2.2.2.2.2.2.1, X.out.2.2.2.2.2.2.2.2.2.2.2.2.2.2.2.2.2.2.2.2.2.2.1, X.out.2.2.2.2.2.2.2.2.2.2.2.2.2.2.2.2.2.2.2.2.2.2.2⟩
     ·-- operation 10
      have p9 := hpre ⟨9, .data⟩ (by simp) rfl
      obtain rfl := c41 p9
      have k8 := pw_cell_below G q8
      have X := Aside0.mk (And.intro c32 (And.intro c33 (And.intro c34 (And.intro c35 (And.intro c36 (And.intro c37 (And.intro c38 (And.intro c39 (And.intro c40 (And.intro c41 (And.intro c42 (And.intro cvt (And.intro c43 (And.intro c31 (And.intro c44 (And.intro c45 (And.intro c46 (And.intro c10 (And.intro c11 (And.intro c12 (And.intro i12 (And.intro i13 (And.intro i17 (G))))))))))))))))))))))))
      have Y := Aside0.mk (And.intro hpre (And.intro hn0 hni))
      clear c32 c33 c34 c35 c36 c37 c38 c39 c40 c41 c42 cvt c43 c31 c44 c45 c46 c10 c11 c12 i12 i13 i17 G hpre hn0 hni p9
      go_wp2_with fail
      show Inv _ _ _
      rw [HInv.out]
      simp only [up_self _ (show 10 < L.size by omega), getD_set_ne _ (show (10 : Nat) ≠ 0 by decide), getD_set_ne _ (show (10 : Nat) ≠ 1 by decide), getD_set_ne _ (show (10 : Nat) ≠ 2 by decide), getD_set_ne _ (show (10 : Nat) ≠ 3 by decide), getD_set_ne _ (show (10 : Nat) ≠ 4 by decide), getD_set_ne _ (show (10 : Nat) ≠ 5 by decide), getD_set_ne _ (show (10 : Nat) ≠ 6 by decide), getD_set_ne _ (show (10 : Nat) ≠ 7 by decide), getD_set_ne _ (show (10 : Nat) ≠ 8 by decide), getD_set_ne _ (show (10 : Nat) ≠ 9 by decide), getD_set_ne _ (show (10 : Nat) ≠ 11 by decide), getD_set_ne _ (show (10 : Nat) ≠ 12 by decide), getD_set_ne _ (show (10 : Nat) ≠ 13 by decide), getD_set_ne _ (show (10 : Nat) ≠ 14 by decide), getD_set_ne _ (show (10 : Nat) ≠ 15 by decide), getD_set_ne _ (show (10 : Nat) ≠ 16 by decide), getD_set_ne _ (show (10 : Nat) ≠ 17 by decide), getD_set_ne _ (show (10 : Nat) ≠ 18 by decide), getD_set_ne _ (show (10 : Nat) ≠ 19 by decide)]
      exact ⟨_, _, _, _, _, _, _, _, _, _, _, _, _, _, _, _, _, _, _, vt, rfl, X.out.1, X.out.2.1, X.out.2.2.1, X.out.2.2.2.1, X.out.2.2.2.2.1, X.out.2.2.2.2.2.1, X.out.2.2.2.2.2.2.1, X.out.2.2.2.2.2.2.2.1, X.out.2.2.2.2.2.2.2.2.1, fun _ => rfl, fun _ => rfl, X.out.2.2.2.2.2.2.2.2.2.2.2.1, X.out.2.2.2.2.2.2.2.2.2.2.2.2.1, X.out.2.2.2.2.2.2.2.2.2.2.2.2.2.1, X.out.2.2.2.2.2.2.2.2.2.2.2.2.2.2.1, X.out.2.2.2.2.2.2.2.2.2.2.2.2.2.2.2.1, X.out.2.2.2.2.2.2.2.2.2.2.2.2.2.2.2.2.1, X.out.2.2.2.2.2.2.2.2.2.2.2.2.2.2.2.2.2.1, X.out.2.2.2.2.2.2.2.2.2.2.2.2.2.2.2.2.2.2.1, X.out.2.2.2.2.2.2.2.2.2.2.2.2.2.2.2.2.2.2.2.1, X.out.2.2.2.2.2.2.2.2.2.2.2.2.2.2.2.2.2.2.2.2.1, X.out.2.2.2.2.2.2.2.2.2.2.2.2.2.2.2.2.2.2.2.2.2.1, X.out.2.2.2.2.2.2.2.2.2.2.2.2.2.2.2.2.2.2.2.2.2.2.1, X.out.2.2.2.2.2.2.2.2.2.2.2.2.2.2.2.2.2.2.2.2.2.2.2⟩
     ·-- operation 11
      have p4 := hpre ⟨4, .data⟩ (by simp) rfl
      have p5 := hpre ⟨5, .data⟩ (by simp) rfl
      have p10 := hpre ⟨10, .data⟩ (by simp) rfl
      obtain rfl := c36 p4
      obtain rfl := c37 p5
      obtain rfl := c42 p10
      have X := Aside0.mk (And.intro c32 (And.intro c33 (And.intro c34 (And.intro c35 (And.intro c36 (And.intro c37 (And.intro c38 (And.intro c39 (And.intro c40 (And.intro c41 (And.intro c42 (And.intro cvt (And.intro c43 (And.intro c31 (And.intro c44 (And.intro c45 (And.intro c46 (And.intro c10 (And.intro c11 (And.intro c12 (And.intro i12 (And.intro i13 (And.intro i17 (G))))))))))))))))))))))))
      have Y := Aside0.mk (And.intro hpre (And.intro hn0 hni))
      clear c32 c33 c34 c35 c36 c37 c38 c39 c40 c41 c42 cvt c43 c31 c44 c45 c46 c10 c11 c12 i12 i13 i17 G hpre hn0 hni p4 p5 p10
      go_wp2_with fail
      refine (IH.out _ HD.out.2 A7 c7 (rd_T142 l i).f1 a (rd_T142 l i).f2 w0 W rfl (below_step H0.out (below_step HG.out.1 X.out.2.2.2.2.2.2.2.2.2.2.2.2.2.2.2.2.2.2.2.2.2.2.2)) HC7.out.2 HC7.out.1).mono ?_
      rintro e w3 ⟨A9, c9, rfl, h9, hC9, hb9⟩
      have HH := Aside0.mk (And.intro h9 (And.intro hC9 hb9))
      clear h9 hC9 hb9
      go_wp2_with fail
      show Inv _ _ _
      rw [HInv.out]
      simp only [up_self _ (show 11 < L.size by omega), getD_set_ne _ (show (11 : Nat) ≠ 0 by decide), getD_set_ne _ (show (11 : Nat) ≠ 1 by decide), getD_set_ne _ (show (11 : Nat) ≠ 2 by decide), getD_set_ne _ (show (11 : Nat) ≠ 3 by decide), getD_set_ne _ (show (11 : Nat) ≠ 4 by decide), getD_set_ne _ (show (11 : Nat) ≠ 5 by decide), getD_set_ne _ (show (11 : Nat) ≠ 6 by decide), getD_set_ne _ (show (11 : Nat) ≠ 7 by decide), getD_set_ne _ (show (11 : Nat) ≠ 8 by decide), getD_set_ne _ (show (11 : Nat) ≠ 9 by decide), getD_set_ne _ (show (11 : Nat) ≠ 10 by decide), getD_set_ne _ (show (11 : Nat) ≠ 12 by decide), getD_set_ne _ (show (11 : Nat) ≠ 13 by decide), getD_set_ne _ (show (11 : Nat) ≠ 14 by decide), getD_set_ne _ (show (11 : Nat) ≠ 15 by decide), getD_set_ne _ (show (11 : Nat) ≠ 16 by decide), getD_set_ne _ (show (11 : Nat) ≠ 17 by decide), getD_set_ne _ (show (11 : Nat) ≠ 18 by decide), getD_set_ne _ (show (11 : Nat) ≠ 19 by decide)]
      exact ⟨_, _, _, _, _, _, _, _, _, _, _, _, _, _, _, _, _, _, _, (treeV A9 c9 (oneT (findT a (rd_T142 l i).f1 (rd_T142 l i).f2))), rfl, X.out.1, X.out.2.1, X.out.2.2.1, X.out.2.2.2.1, fun _ => rfl, fun _ => rfl, X.out.2.2.2.2.2.2.1, X.out.2.2.2.2.2.2.2.1, X.out.2.2.2.2.2.2.2.2.1, X.out.2.2.2.2.2.2.2.2.2.1, fun _ => rfl, fun _ => ⟨A9, c9, rfl, HH.out.1, HH.out.2.1⟩, fun _ => rfl, fun h => absurd (X.out.2.2.2.2.2.2.2.2.2.2.2.2.2.2.2.2.2.2.2.2.1 h) (by rw [Y.out.2.1]; decide), fun h => absurd (X.out.2.2.2.2.2.2.2.2.2.2.2.2.2.2.2.2.2.2.2.2.2.1 h) (by rw [Y.out.2.1]; decide), X.out.2.2.2.2.2.2.2.2.2.2.2.2.2.2.2.1, X.out.2.2.2.2.2.2.2.2.2.2.2.2.2.2.2.2.1, fun h => by obtain ⟨g, e1, e2, e3⟩ := X.out.2.2.2.2.2.2.2.2.2.2.2.2.2.2.2.2.2.1 h; refine ⟨g, e1, ?_, e3⟩; rw [if_neg (fun h9 => absurd (X.out.2.2.2.2.2.2.2.2.2.2.2.2.2.2.2.2.2.2.2.2.2.2.1 h9).1 (by rw [Y.out.2.1]; decide))] at e2 ⊢; exact blk_below e2 HH.out.2.2, X.out.2.2.2.2.2.2.2.2.2.2.2.2.2.2.2.2.2.2.1, X.out.2.2.2.2.2.2.2.2.2.2.2.2.2.2.2.2.2.2.2.1, fun _ => trivial, fun _ => trivial, fun h => ⟨trivial, (X.out.2.2.2.2.2.2.2.2.2.2.2.2.2.2.2.2.2.2.2.2.2.2.1 h).2⟩, below_step X.out.2.2.2.2.2.2.2.2.2.2.2.2.2.2.2.2.2.2.2.2.2.2.2 HH.out.2.2⟩
     ·-- operation 12
      have p11 := hpre ⟨11, .data⟩ (by simp) rfl
      obtain rfl := c43 p11
      have Z := Aside0.mk p11
      have X := Aside0.mk (And.intro c32 (And.intro c33 (And.intro c34 (And.intro c35 (And.intro c36 (And.intro c37 (And.intro c38 (And.intro c39 (And.intro c40 (And.intro c41 (And.intro c42 (And.intro cvt (And.intro c43 (And.intro c31 (And.intro c44 (And.intro c45 (And.intro c46 (And.intro c10 (And.intro c11 (And.intro c12 (And.intro i12 (And.intro i13 (And.intro i17 (G))))))))))))))))))))))))
      have Y := Aside0.mk (And.intro hpre (And.intro hn0 hni))
      clear c32 c33 c34 c35 c36 c37 c38 c39 c40 c41 c42 cvt c43 c31 c44 c45 c46 c10 c11 c12 i12 i13 i17 G hpre hn0 hni p11
      go_wp2_with fail
      show Inv _ _ _
      rw [HInv.out]
      simp only [up_self _ (show 12 < L.size by omega), getD_set_ne _ (show (12 : Nat) ≠ 0 by decide), getD_set_ne _ (show (12 : Nat) ≠ 1 by decide), getD_set_ne _ (show (12 : Nat) ≠ 2 by decide), getD_set_ne _ (show (12 : Nat) ≠ 3 by decide), getD_set_ne _ (show (12 : Nat) ≠ 4 by decide), getD_set_ne _ (show (12 : Nat) ≠ 5 by decide), getD_set_ne _ (show (12 : Nat) ≠ 6 by decide), getD_set_ne _ (show (12 : Nat) ≠ 7 by decide), getD_set_ne _ (show (12 : Nat) ≠ 8 by decide), getD_set_ne _ (show (12 : Nat) ≠ 9 by decide), getD_set_ne _ (show (12 : Nat) ≠ 10 by decide), getD_set_ne _ (show (12 : Nat) ≠ 11 by decide), getD_set_ne _ (show (12 : Nat) ≠ 13 by decide), getD_set_ne _ (show (12 : Nat) ≠ 14 by decide), getD_set_ne _ (show (12 : Nat) ≠ 15 by decide), getD_set_ne _ (show (12 : Nat) ≠ 16 by decide), getD_set_ne _ (show (12 : Nat) ≠ 17 by decide), getD_set_ne _ (show (12 : Nat) ≠ 18 by decide), getD_set_ne _ (show (12 : Nat) ≠ 19 by decide)]
      exact ⟨_, _, _, _, _, _, _, _, _, _, _, _, _, _, _, _, _, _, _, vt, rfl, X.out.1, X.out.2.1, X.out.2.2.1, X.out.2.2.2.1, X.out.2.2.2.2.1, X.out.2.2.2.2.2.1, X.out.2.2.2.2.2.2.1, X.out.2.2.2.2.2.2.2.1, X.out.2.2.2.2.2.2.2.2.1, X.out.2.2.2.2.2.2.2.2.2.1, X.out.2.2.2.2.2.2.2.2.2.2.1, X.out.2.2.2.2.2.2.2.2.2.2.2.1, fun _ => rfl, fun _ => rfl, X.out.2.2.2.2.2.2.2.2.2.2.2.2.2.2.1, X.out.2.2.2.2.2.2.2.2.2.2.2.2.2.2.2.1, X.out.2.2.2.2.2.2.2.2.2.2.2.2.2.2.2.2.1, X.out.2.2.2.2.2.2.2.2.2.2.2.2.2.2.2.2.2.1, X.out.2.2.2.2.2.2.2.2.2.2.2.2.2.2.2.2.2.2.1, X.out.2.2.2.2.2.2.2.2.2.2.2.2.2.2.2.2.2.2.2.1, fun _ => Z.out, X.out.2.2.2.2.2.2.2.2.2.2.2.2.2.2.2.2.2.2.2.2.2.1, X.out.2.2.2.2.2.2.2.2.2.2.2.2.2.2.2.2.2.2.2.2.2.2.1, X.out.2.2.2.2.2.2.2.2.2.2.2.2.2.2.2.2.2.2.2.2.2.2.2⟩
     ·-- operation 13
      have p12 := hpre ⟨12, .data⟩ (by simp) rfl
      obtain rfl := c31 p12
      have Z := Aside0.mk (i12 p12)
      have X := Aside0.mk (And.intro c32 (And.intro c33 (And.intro c34 (And.intro c35 (And.intro c36 (And.intro c37 (And.intro c38 (And.intro c39 (And.intro c40 (And.intro c41 (And.intro c42 (And.intro cvt (And.intro c43 (And.intro c31 (And.intro c44 (And.intro c45 (And.intro c46 (And.intro c10 (And.intro c11 (And.intro c12 (And.intro i12 (And.intro i13 (And.intro i17 (G))))))))))))))))))))))))
      have Y := Aside0.mk (And.intro hpre (And.intro hn0 hni))
      clear c32 c33 c34 c35 c36 c37 c38 c39 c40 c41 c42 cvt c43 c31 c44 c45 c46 c10 c11 c12 i12 i13 i17 G hpre hn0 hni p12
      go_wp2_with fail
      show Inv _ _ _
      rw [HInv.out]
      simp only [up_self _ (show 13 < L.size by omega), getD_set_ne _ (show (13 : Nat) ≠ 0 by decide), getD_set_ne _ (show (13 : Nat) ≠ 1 by decide), getD_set_ne _ (show (13 : Nat) ≠ 2 by decide), getD_set_ne _ (show (13 : Nat) ≠ 3 by decide), getD_set_ne _ (show (13 : Nat) ≠ 4 by decide), getD_set_ne _ (show (13 : Nat) ≠ 5 by decide), getD_set_ne _ (show (13 : Nat) ≠ 6 by decide), getD_set_ne _ (show (13 : Nat) ≠ 7 by decide), getD_set_ne _ (show (13 : Nat) ≠ 8 by decide), getD_set_ne _ (show (13 : Nat) ≠ 9 by decide), getD_set_ne _ (show (13 : Nat) ≠ 10 by decide), getD_set_ne _ (show (13 : Nat) ≠ 11 by decide), getD_set_ne _ (show (13 : Nat) ≠ 12 by decide), getD_set_ne _ (show (13 : Nat) ≠ 14 by decide), getD_set_ne _ (show (13 : Nat) ≠ 15 by decide), getD_set_ne _ (show (13 : Nat) ≠ 16 by decide), getD_set_ne _ (show (13 : Nat) ≠ 17 by decide), getD_set_ne _ (show (13 : Nat) ≠ 18 by decide), getD_set_ne _ (show (13 : Nat) ≠ 19 by decide)]
      exact ⟨_, _, _, _, _, _, _, _, _, _, _, _, _, _, _, _, _, _, _, vt, rfl, X.out.1, X.out.2.1, X.out.2.2.1, X.out.2.2.2.1, X.out.2.2.2.2.1, X.out.2.2.2.2.2.1, X.out.2.2.2.2.2.2.1, X.out.2.2.2.2.2.2.2.1, X.out.2.2.2.2.2.2.2.2.1, X.out.2.2.2.2.2.2.2.2.2.1, X.out.2.2.2.2.2.2.2.2.2.2.1, X.out.2.2.2.2.2.2.2.2.2.2.2.1, X.out.2.2.2.2.2.2.2.2.2.2.2.2.1, fun _ => rfl, fun _ => rfl, X.out.2.2.2.2.2.2.2.2.2.2.2.2.2.2.2.1, X.out.2.2.2.2.2.2.2.2.2.2.2.2.2.2.2.2.1, X.out.2.2.2.2.2.2.2.2.2.2.2.2.2.2.2.2.2.1, X.out.2.2.2.2.2.2.2.2.2.2.2.2.2.2.2.2.2.2.1, X.out.2.2.2.2.2.2.2.2.2.2.2.2.2.2.2.2.2.2.2.1, X.out.2.2.2.2.2.2.2.2.2.2.2.2.2.2.2.2.2.2.2.2.1, fun _ => Z.out, X.out.2.2.2.2.2.2.2.2.2.2.2.2.2.2.2.2.2.2.2.2.2.2.1, X.out.2.2.2.2.2.2.2.2.2.2.2.2.2.2.2.2.2.2.2.2.2.2.2⟩
     ·-- operation 14
      have p12 := hpre ⟨12, .data⟩ (by simp) rfl
      obtain rfl := c31 p12
      have X := Aside0.mk (And.intro c32 (And.intro c33 (And.intro c34 (And.intro c35 (And.intro c36 (And.intro c37 (And.intro c38 (And.intro c39 (And.intro c40 (And.intro c41 (And.intro c42 (And.intro cvt (And.intro c43 (And.intro c31 (And.intro c44 (And.intro c45 (And.intro c46 (And.intro c10 (And.intro c11 (And.intro c12 (And.intro i12 (And.intro i13 (And.intro i17 (G))))))))))))))))))))))))
      have Y := Aside0.mk (And.intro hpre (And.intro hn0 hni))
      clear c32 c33 c34 c35 c36 c37 c38 c39 c40 c41 c42 cvt c43 c31 c44 c45 c46 c10 c11 c12 i12 i13 i17 G hpre hn0 hni p12
      go_wp2_with fail
      show Inv _ _ _
      rw [HInv.out]
      simp only [up_self _ (show 14 < L.size by omega), getD_set_ne _ (show (14 : Nat) ≠ 0 by decide), getD_set_ne _ (show (14 : Nat) ≠ 1 by decide), getD_set_ne _ (show (14 : Nat) ≠ 2 by decide), getD_set_ne _ (show (14 : Nat) ≠ 3 by decide), getD_set_ne _ (show (14 : Nat) ≠ 4 by decide), getD_set_ne _ (show (14 : Nat) ≠ 5 by decide), getD_set_ne _ (show (14 : Nat) ≠ 6 by decide), getD_set_ne _ (show (14 : Nat) ≠ 7 by decide), getD_set_ne _ (show (14 : Nat) ≠ 8 by decide), getD_set_ne _ (show (14 : Nat) ≠ 9 by decide), getD_set_ne _ (show (14 : Nat) ≠ 10 by decide), getD_set_ne _ (show (14 : Nat) ≠ 11 by decide), getD_set_ne _ (show (14 : Nat) ≠ 12 by decide), getD_set_ne _ (show (14 : Nat) ≠ 13 by decide), getD_set_ne _ (show (14 : Nat) ≠ 15 by decide), getD_set_ne _ (show (14 : Nat) ≠ 16 by decide), getD_set_ne _ (show (14 : Nat) ≠ 17 by decide), getD_set_ne _ (show (14 : Nat) ≠ 18 by decide), getD_set_ne _ (show (14 : Nat) ≠ 19 by decide)]
      exact ⟨_, _, _, _, _, _, _, _, _, _, _, _, _, _, _, _, _, _, _, vt, rfl, X.out.1, X.out.2.1, X.out.2.2.1, X.out.2.2.2.1, X.out.2.2.2.2.1, X.out.2.2.2.2.2.1, X.out.2.2.2.2.2.2.1, X.out.2.2.2.2.2.2.2.1, X.out.2.2.2.2.2.2.2.2.1, X.out.2.2.2.2.2.2.2.2.2.1, X.out.2.2.2.2.2.2.2.2.2.2.1, X.out.2.2.2.2.2.2.2.2.2.2.2.1, X.out.2.2.2.2.2.2.2.2.2.2.2.2.1, fun _ => rfl, X.out.2.2.2.2.2.2.2.2.2.2.2.2.2.2.1, fun _ => rfl, X.out.2.2.2.2.2.2.2.2.2.2.2.2.2.2.2.2.1, X.out.2.2.2.2.2.2.2.2.2.2.2.2.2.2.2.2.2.1, X.out.2.2.2.2.2.2.2.2.2.2.2.2.2.2.2.2.2.2.1, X.out.2.2.2.2.2.2.2.2.2.2.2.2.2.2.2.2.2.2.2.1, X.out.2.2.2.2.2.2.2.2.2.2.2.2.2.2.2.2.2.2.2.2.1, X.out.2.2.2.2.2.2.2.2.2.2.2.2.2.2.2.2.2.2.2.2.2.1, X.out.2.2.2.2.2.2.2.2.2.2.2.2.2.2.2.2.2.2.2.2.2.2.1, X.out.2.2.2.2.2.2.2.2.2.2.2.2.2.2.2.2.2.2.2.2.2.2.2⟩
     ·-- operation 15
      have p12 := hpre ⟨12, .data⟩ (by simp) rfl
      obtain rfl := c31 p12
      have X := Aside0.mk (And.intro c32 (And.intro c33 (And.intro c34 (And.intro c35 (And.intro c36 (And.intro c37 (And.intro c38 (And.intro c39 (And.intro c40 (And.intro c41 (And.intro c42 (And.intro cvt (And.intro c43 (And.intro c31 (And.intro c44 (And.intro c45 (And.intro c46 (And.intro c10 (And.intro c11 (And.intro c12 (And.intro i12 (And.intro i13 (And.intro i17 (G))))))))))))))))))))))))
      have Y := Aside0.mk (And.intro hpre (And.intro hn0 hni))
      clear c32 c33 c34 c35 c36 c37 c38 c39 c40 c41 c42 cvt c43 c31 c44 c45 c46 c10 c11 c12 i12 i13 i17 G hpre hn0 hni p12
      go_wp2_with fail
      show Inv _ _ _
      rw [HInv.out]
      simp only [up_self _ (show 15 < L.size by omega), getD_set_ne _ (show (15 : Nat) ≠ 0 by decide), getD_set_ne _ (show (15 : Nat) ≠ 1 by decide), getD_set_ne _ (show (15 : Nat) ≠ 2 by decide), getD_set_ne _ (show (15 : Nat) ≠ 3 by decide), getD_set_ne _ (show (15 : Nat) ≠ 4 by decide), getD_set_ne _ (show (15 : Nat) ≠ 5 by decide), getD_set_ne _ (show (15 : Nat) ≠ 6 by decide), getD_set_ne _ (show (15 : Nat) ≠ 7 by decide), getD_set_ne _ (show (15 : Nat) ≠ 8 by decide), getD_set_ne _ (show (15 : Nat) ≠ 9 by decide), getD_set_ne _ (show (15 : Nat) ≠ 10 by decide), getD_set_ne _ (show (15 : Nat) ≠ 11 by decide), getD_set_ne _ (show (15 : Nat) ≠ 12 by decide), getD_set_ne _ (show (15 : Nat) ≠ 13 by decide), getD_set_ne _ (show (15 : Nat) ≠ 14 by decide), getD_set_ne _ (show (15 : Nat) ≠ 16 by decide), getD_set_ne _ (show (15 : Nat) ≠ 17 by decide), getD_set_ne _ (show (15 : Nat) ≠ 18 by decide), getD_set_ne _ (show (15 : Nat) ≠ 19 by decide)]
      exact ⟨_, _, _, _, _, _, _, _, _, _, _, _, _, _, _, _, _, _, _, vt, rfl, X.out.1, X.out.2.1, X.out.2.2.1, X.out.2.2.2.1, X.out.2.2.2.2.1, X.out.2.2.2.2.2.1, X.out.2.2.2.2.2.2.1, X.out.2.2.2.2.2.2.2.1, X.out.2.2.2.2.2.2.2.2.1, X.out.2.2.2.2.2.2.2.2.2.1, X.out.2.2.2.2.2.2.2.2.2.2.1, X.out.2.2.2.2.2.2.2.2.2.2.2.1, X.out.2.2.2.2.2.2.2.2.2.2.2.2.1, fun _ => rfl, X.out.2.2.2.2.2.2.2.2.2.2.2.2.2.2.1, X.out.2.2.2.2.2.2.2.2.2.2.2.2.2.2.2.1, fun _ => rfl, X.out.2.2.2.2.2.2.2.2.2.2.2.2.2.2.2.2.2.1, X.out.2.2.2.2.2.2.2.2.2.2.2.2.2.2.2.2.2.2.1, X.out.2.2.2.2.2.2.2.2.2.2.2.2.2.2.2.2.2.2.2.1, X.out.2.2.2.2.2.2.2.2.2.2.2.2.2.2.2.2.2.2.2.2.1, X.out.2.2.2.2.2.2.2.2.2.2.2.2.2.2.2.2.2.2.2.2.2.1, X.out.2.2.2.2.2.2.2.2.2.2.2.2.2.2.2.2.2.2.2.2.2.2.1, X.out.2.2.2.2.2.2.2.2.2.2.2.2.2.2.2.2.2.2.2.2.2.2.2⟩
     ·-- operation 16
      have X := Aside0.mk (And.intro c32 (And.intro c33 (And.intro c34 (And.intro c35 (And.intro c36 (And.intro c37 (And.intro c38 (And.intro c39 (And.intro c40 (And.intro c41 (And.intro c42 (And.intro cvt (And.intro c43 (And.intro c31 (And.intro c44 (And.intro c45 (And.intro c46 (And.intro c10 (And.intro c11 (And.intro c12 (And.intro i12 (And.intro i13 (And.intro i17 (G))))))))))))))))))))))))
      have Y := Aside0.mk (And.intro hpre (And.intro hn0 hni))
      clear c32 c33 c34 c35 c36 c37 c38 c39 c40 c41 c42 cvt c43 c31 c44 c45 c46 c10 c11 c12 i12 i13 i17 G hpre hn0 hni
      go_wp2_with fail
      show Inv _ _ _
      rw [HInv.out]
      simp only [up_self _ (show 16 < L.size by omega), getD_set_ne _ (show (16 : Nat) ≠ 0 by decide), getD_set_ne _ (show (16 : Nat) ≠ 1 by decide), getD_set_ne _ (show (16 : Nat) ≠ 2 by decide), getD_set_ne _ (show (16 : Nat) ≠ 3 by decide), getD_set_ne _ (show (16 : Nat) ≠ 4 by decide), getD_set_ne _ (show (16 : Nat) ≠ 5 by decide), getD_set_ne _ (show (16 : Nat) ≠ 6 by decide), getD_set_ne _ (show (16 : Nat) ≠ 7 by decide), getD_set_ne _ (show (16 : Nat) ≠ 8 by decide), getD_set_ne _ (show (16 : Nat) ≠ 9 by decide), getD_set_ne _ (show (16 : Nat) ≠ 10 by decide), getD_set_ne _ (show (16 : Nat) ≠ 11 by decide), getD_set_ne _ (show (16 : Nat) ≠ 12 by decide), getD_set_ne _ (show (16 : Nat) ≠ 13 by decide), getD_set_ne _ (show (16 : Nat) ≠ 14 by decide), getD_set_ne _ (show (16 : Nat) ≠ 15 by decide), getD_set_ne _ (show (16 : Nat) ≠ 17 by decide), getD_set_ne _ (show (16 : Nat) ≠ 18 by decide), getD_set_ne _ (show (16 : Nat) ≠ 19 by decide)]
      exact ⟨_, _, _, _, _, _, _, _, _, _, _, _, _, _, _, _, _, _, _, vt, rfl, X.out.1, X.out.2.1, X.out.2.2.1, X.out.2.2.2.1, X.out.2.2.2.2.1, X.out.2.2.2.2.2.1, X.out.2.2.2.2.2.2.1, X.out.2.2.2.2.2.2.2.1, X.out.2.2.2.2.2.2.2.2.1, X.out.2.2.2.2.2.2.2.2.2.1, X.out.2.2.2.2.2.2.2.2.2.2.1, X.out.2.2.2.2.2.2.2.2.2.2.2.1, X.out.2.2.2.2.2.2.2.2.2.2.2.2.1, X.out.2.2.2.2.2.2.2.2.2.2.2.2.2.1, X.out.2.2.2.2.2.2.2.2.2.2.2.2.2.2.1, X.out.2.2.2.2.2.2.2.2.2.2.2.2.2.2.2.1, X.out.2.2.2.2.2.2.2.2.2.2.2.2.2.2.2.2.1, fun _ => ⟨W.heap.size, rfl, by rw [if_neg (fun h9 => absurd (X.out.2.2.2.2.2.2.2.2.2.2.2.2.2.2.2.2.2.2.2.2.2.2.1 h9).2 (by rw [Y.out.2.1]; decide))]; exact blk_new W _, below_size X.out.2.2.2.2.2.2.2.2.2.2.2.2.2.2.2.2.2.2.2.2.2.2.2⟩, X.out.2.2.2.2.2.2.2.2.2.2.2.2.2.2.2.2.2.2.1, X.out.2.2.2.2.2.2.2.2.2.2.2.2.2.2.2.2.2.2.2.1, X.out.2.2.2.2.2.2.2.2.2.2.2.2.2.2.2.2.2.2.2.2.1, X.out.2.2.2.2.2.2.2.2.2.2.2.2.2.2.2.2.2.2.2.2.2.1, fun h => ⟨(X.out.2.2.2.2.2.2.2.2.2.2.2.2.2.2.2.2.2.2.2.2.2.2.1 h).1, trivial⟩, below_alloc X.out.2.2.2.2.2.2.2.2.2.2.2.2.2.2.2.2.2.2.2.2.2.2.2 _⟩
     ·-- operation 17
      have p13 := hpre ⟨13, .data⟩ (by simp) rfl
      have p16 := hpre ⟨16, .data⟩ (by simp) rfl
      obtain rfl := c44 p13
      obtain ⟨g, rfl, hg, hge⟩ := c10 p16
      rw [hn0, if_neg (by decide)] at hg
      obtain ⟨A9, c9, rfl, h9, hC9⟩ := cvt (i13 p13)
      unfold treeV at *
      have Z := Aside0.mk (And.intro hg (And.intro hge (And.intro (i13 p13) (And.intro p16 (And.intro h9 hC9)))))
      have y0 : W.cell? ⟨g, 0, none⟩ = some (.string ⟨#[]⟩) := (blk_cell hg 0).trans rfl
      have y1 : W.cell? ⟨g, 1, none⟩ = some (.bool false) := (blk_cell hg 1).trans rfl
      have y2 : W.cell? ⟨g, 2, none⟩ = some (.string ⟨#[]⟩) := (blk_cell hg 2).trans rfl
      have y3 : W.cell? ⟨g, 3, none⟩ = some (.int .i64 0) := (blk_cell hg 3).trans rfl
      have y4 : W.cell? ⟨g, 4, none⟩ = some (.int .i64 0) := (blk_cell hg 4).trans rfl
      have y5 : W.cell? ⟨g, 5, none⟩ = some (.int .i64 0) := (blk_cell hg 5).trans rfl
      have y6 : W.cell? ⟨g, 6, none⟩ = some (.int .i64 0) := (blk_cell hg 6).trans rfl
      have y7 : W.cell? ⟨g, 7, none⟩ = some (.slice none 0 0) := (blk_cell hg 7).trans rfl
      have y8 : W.cell? ⟨g, 8, none⟩ = some (.int .i64 0) := (blk_cell hg 8).trans rfl
      have f0 := blk_frozen hg 0
      have f1 := blk_frozen hg 1
      have f2 := blk_frozen hg 2
      have f3 := blk_frozen hg 3
      have f4 := blk_frozen hg 4
      have f5 := blk_frozen hg 5
      have f6 := blk_frozen hg 6
      have f7 := blk_frozen hg 7
      have f8 := blk_frozen hg 8
      clear hg hge h9 hC9
      have X := Aside0.mk (And.intro c32 (And.intro c33 (And.intro c34 (And.intro c35 (And.intro c36 (And.intro c37 (And.intro c38 (And.intro c39 (And.intro c40 (And.intro c41 (And.intro c42 (And.intro cvt (And.intro c43 (And.intro c31 (And.intro c44 (And.intro c45 (And.intro c46 (And.intro c10 (And.intro c11 (And.intro c12 (And.intro i12 (And.intro i13 (And.intro i17 (G))))))))))))))))))))))))
      have Y := Aside0.mk (And.intro hpre (And.intro hn0 hni))
      clear c32 c33 c34 c35 c36 c37 c38 c39 c40 c41 c42 cvt c43 c31 c44 c45 c46 c10 c11 c12 i12 i13 i17 G hpre hn0 hni p13 p16
      go_wp2_with fail
      refine setN_letter [.string (oneT (findT a (rd_T142 l i).f1 (rd_T142 l i).f2)).f0.f0, .bool (oneT (findT a (rd_T142 l i).f1 (rd_T142 l i).f2)).f0.f1, .string (oneT (findT a (rd_T142 l i).f1 (rd_T142 l i).f2)).f0.f2, .int .i64 (oneT (findT a (rd_T142 l i).f1 (rd_T142 l i).f2)).f0.f3, .int .i64 (oneT (findT a (rd_T142 l i).f1 (rd_T142 l i).f2)).f0.f4, .int .i64 (oneT (findT a (rd_T142 l i).f1 (rd_T142 l i).f2)).f0.f5, .int .i64 (oneT (findT a (rd_T142 l i).f1 (rd_T142 l i).f2)).f0.f6, .slice A9 (oneT (findT a (rd_T142 l i).f1 (rd_T142 l i).f2)).f1.length c9, .int .i64 (oneT (findT a (rd_T142 l i).f1 (rd_T142 l i).f2)).f2] Z.out.1 rfl fun W9 hb9 hg9 => ?_
      have hG9 := X.out.2.2.2.2.2.2.2.2.2.2.2.2.2.2.2.2.2.2.2.2.2.2.2.grown hg9 (below_size X.out.2.2.2.2.2.2.2.2.2.2.2.2.2.2.2.2.2.2.2.2.2.2.2) (fun k hk => by injection hk with hk; have := Z.out.2.1; omega)
      show Inv _ _ _
      rw [HInv.out]
      simp only [up_self _ (show 17 < L.size by omega), getD_set_ne _ (show (17 : Nat) ≠ 0 by decide), getD_set_ne _ (show (17 : Nat) ≠ 1 by decide), getD_set_ne _ (show (17 : Nat) ≠ 2 by decide), getD_set_ne _ (show (17 : Nat) ≠ 3 by decide), getD_set_ne _ (show (17 : Nat) ≠ 4 by decide), getD_set_ne _ (show (17 : Nat) ≠ 5 by decide), getD_set_ne _ (show (17 : Nat) ≠ 6 by decide), getD_set_ne _ (show (17 : Nat) ≠ 7 by decide), getD_set_ne _ (show (17 : Nat) ≠ 8 by decide), getD_set_ne _ (show (17 : Nat) ≠ 9 by decide), getD_set_ne _ (show (17 : Nat) ≠ 10 by decide), getD_set_ne _ (show (17 : Nat) ≠ 11 by decide), getD_set_ne _ (show (17 : Nat) ≠ 12 by decide), getD_set_ne _ (show (17 : Nat) ≠ 13 by decide), getD_set_ne _ (show (17 : Nat) ≠ 14 by decide), getD_set_ne _ (show (17 : Nat) ≠ 15 by decide), getD_set_ne _ (show (17 : Nat) ≠ 16 by decide), getD_set_ne _ (show (17 : Nat) ≠ 18 by decide), getD_set_ne _ (show (17 : Nat) ≠ 19 by decide)]
      exact ⟨_, _, _, _, _, _, _, _, _, _, _, _, _, _, _, _, _, _, _, _, rfl, X.out.1, X.out.2.1, X.out.2.2.1, X.out.2.2.2.1, X.out.2.2.2.2.1, X.out.2.2.2.2.2.1, X.out.2.2.2.2.2.2.1, X.out.2.2.2.2.2.2.2.1, X.out.2.2.2.2.2.2.2.2.1, X.out.2.2.2.2.2.2.2.2.2.1, X.out.2.2.2.2.2.2.2.2.2.2.1, fun _ => ⟨A9, c9, rfl, Z.out.2.2.2.2.1, Z.out.2.2.2.2.2⟩, X.out.2.2.2.2.2.2.2.2.2.2.2.2.1, X.out.2.2.2.2.2.2.2.2.2.2.2.2.2.1, fun _ => rfl, X.out.2.2.2.2.2.2.2.2.2.2.2.2.2.2.2.1, X.out.2.2.2.2.2.2.2.2.2.2.2.2.2.2.2.2.1, fun _ => ⟨g, rfl, by rw [if_pos trivial]; exact hb9, Z.out.2.1⟩, X.out.2.2.2.2.2.2.2.2.2.2.2.2.2.2.2.2.2.2.1, X.out.2.2.2.2.2.2.2.2.2.2.2.2.2.2.2.2.2.2.2.1, X.out.2.2.2.2.2.2.2.2.2.2.2.2.2.2.2.2.2.2.2.2.1, X.out.2.2.2.2.2.2.2.2.2.2.2.2.2.2.2.2.2.2.2.2.2.1, fun _ => ⟨Z.out.2.2.1, Z.out.2.2.2.1⟩, hG9⟩
     ·-- operation 18
      have p14 := hpre ⟨14, .data⟩ (by simp) rfl
      obtain rfl := c45 p14
      have X := Aside0.mk (And.intro c32 (And.intro c33 (And.intro c34 (And.intro c35 (And.intro c36 (And.intro c37 (And.intro c38 (And.intro c39 (And.intro c40 (And.intro c41 (And.intro c42 (And.intro cvt (And.intro c43 (And.intro c31 (And.intro c44 (And.intro c45 (And.intro c46 (And.intro c10 (And.intro c11 (And.intro c12 (And.intro i12 (And.intro i13 (And.intro i17 (G))))))))))))))))))))))))
      have Y := Aside0.mk (And.intro hpre (And.intro hn0 hni))
      clear c32 c33 c34 c35 c36 c37 c38 c39 c40 c41 c42 cvt c43 c31 c44 c45 c46 c10 c11 c12 i12 i13 i17 G hpre hn0 hni p14
      go_wp2_with fail
      show Inv _ _ _
      rw [HInv.out]
      simp only [up_self _ (show 18 < L.size by omega), getD_set_ne _ (show (18 : Nat) ≠ 0 by decide), getD_set_ne _ (show (18 : Nat) ≠ 1 by decide), getD_set_ne _ (show (18 : Nat) ≠ 2 by decide), getD_set_ne _ (show (18 : Nat) ≠ 3 by decide), getD_set_ne _ (show (18 : Nat) ≠ 4 by decide), getD_set_ne _ (show (18 : Nat) ≠ 5 by decide), getD_set_ne _ (show (18 : Nat) ≠ 6 by decide), getD_set_ne _ (show (18 : Nat) ≠ 7 by decide), getD_set_ne _ (show (18 : Nat) ≠ 8 by decide), getD_set_ne _ (show (18 : Nat) ≠ 9 by decide), getD_set_ne _ (show (18 : Nat) ≠ 10 by decide), getD_set_ne _ (show (18 : Nat) ≠ 11 by decide), getD_set_ne _ (show (18 : Nat) ≠ 12 by decide), getD_set_ne _ (show (18 : Nat) ≠ 13 by decide), getD_set_ne _ (show (18 : Nat) ≠ 14 by decide), getD_set_ne _ (show (18 : Nat) ≠ 15 by decide), getD_set_ne _ (show (18 : Nat) ≠ 16 by decide), getD_set_ne _ (show (18 : Nat) ≠ 17 by decide), getD_set_ne _ (show (18 : Nat) ≠ 19 by decide)]
      exact ⟨_, _, _, _, _, _, _, _, _, _, _, _, _, _, _, _, _, _, _, vt, rfl, X.out.1, X.out.2.1, X.out.2.2.1, X.out.2.2.2.1, X.out.2.2.2.2.1, X.out.2.2.2.2.2.1, X.out.2.2.2.2.2.2.1, X.out.2.2.2.2.2.2.2.1, X.out.2.2.2.2.2.2.2.2.1, X.out.2.2.2.2.2.2.2.2.2.1, X.out.2.2.2.2.2.2.2.2.2.2.1, X.out.2.2.2.2.2.2.2.2.2.2.2.1, X.out.2.2.2.2.2.2.2.2.2.2.2.2.1, X.out.2.2.2.2.2.2.2.2.2.2.2.2.2.1, X.out.2.2.2.2.2.2.2.2.2.2.2.2.2.2.1, fun _ => rfl, X.out.2.2.2.2.2.2.2.2.2.2.2.2.2.2.2.2.1, X.out.2.2.2.2.2.2.2.2.2.2.2.2.2.2.2.2.2.1, fun _ => rfl, X.out.2.2.2.2.2.2.2.2.2.2.2.2.2.2.2.2.2.2.2.1, X.out.2.2.2.2.2.2.2.2.2.2.2.2.2.2.2.2.2.2.2.2.1, X.out.2.2.2.2.2.2.2.2.2.2.2.2.2.2.2.2.2.2.2.2.2.1, X.out.2.2.2.2.2.2.2.2.2.2.2.2.2.2.2.2.2.2.2.2.2.2.1, X.out.2.2.2.2.2.2.2.2.2.2.2.2.2.2.2.2.2.2.2.2.2.2.2⟩
     ·-- operation 19
      have p15 := hpre ⟨15, .data⟩ (by simp) rfl
      obtain rfl := c46 p15
      have X := Aside0.mk (And.intro c32 (And.intro c33 (And.intro c34 (And.intro c35 (And.intro c36 (And.intro c37 (And.intro c38 (And.intro c39 (And.intro c40 (And.intro c41 (And.intro c42 (And.intro cvt (And.intro c43 (And.intro c31 (And.intro c44 (And.intro c45 (And.intro c46 (And.intro c10 (And.intro c11 (And.intro c12 (And.intro i12 (And.intro i13 (And.intro i17 (G))))))))))))))))))))))))
      have Y := Aside0.mk (And.intro hpre (And.intro hn0 hni))
      clear c32 c33 c34 c35 c36 c37 c38 c39 c40 c41 c42 cvt c43 c31 c44 c45 c46 c10 c11 c12 i12 i13 i17 G hpre hn0 hni p15
      go_wp2_with fail
      show Inv _ _ _
      rw [HInv.out]
      simp only [up_self _ (show 19 < L.size by omega), getD_set_ne _ (show (19 : Nat) ≠ 0 by decide), getD_set_ne _ (show (19 : Nat) ≠ 1 by decide), getD_set_ne _ (show (19 : Nat) ≠ 2 by decide), getD_set_ne _ (show (19 : Nat) ≠ 3 by decide), getD_set_ne _ (show (19 : Nat) ≠ 4 by decide), getD_set_ne _ (show (19 : Nat) ≠ 5 by decide), getD_set_ne _ (show (19 : Nat) ≠ 6 by decide), getD_set_ne _ (show (19 : Nat) ≠ 7 by decide), getD_set_ne _ (show (19 : Nat) ≠ 8 by decide), getD_set_ne _ (show (19 : Nat) ≠ 9 by decide), getD_set_ne _ (show (19 : Nat) ≠ 10 by decide), getD_set_ne _ (show (19 : Nat) ≠ 11 by decide), getD_set_ne _ (show (19 : Nat) ≠ 12 by decide), getD_set_ne _ (show (19 : Nat) ≠ 13 by decide), getD_set_ne _ (show (19 : Nat) ≠ 14 by decide), getD_set_ne _ (show (19 : Nat) ≠ 15 by decide), getD_set_ne _ (show (19 : Nat) ≠ 16 by decide), getD_set_ne _ (show (19 : Nat) ≠ 17 by decide), getD_set_ne _ (show (19 : Nat) ≠ 18 by decide)]
      exact ⟨_, _, _, _, _, _, _, _, _, _, _, _, _, _, _, _, _, _, _, vt, rfl, X.out.1, X.out.2.1, X.out.2.2.1, X.out.2.2.2.1, X.out.2.2.2.2.1, X.out.2.2.2.2.2.1, X.out.2.2.2.2.2.2.1, X.out.2.2.2.2.2.2.2.1, X.out.2.2.2.2.2.2.2.2.1, X.out.2.2.2.2.2.2.2.2.2.1, X.out.2.2.2.2.2.2.2.2.2.2.1, X.out.2.2.2.2.2.2.2.2.2.2.2.1, X.out.2.2.2.2.2.2.2.2.2.2.2.2.1, X.out.2.2.2.2.2.2.2.2.2.2.2.2.2.1, X.out.2.2.2.2.2.2.2.2.2.2.2.2.2.2.1, X.out.2.2.2.2.2.2.2.2.2.2.2.2.2.2.2.1, fun _ => rfl, X.out.2.2.2.2.2.2.2.2.2.2.2.2.2.2.2.2.2.1, X.out.2.2.2.2.2.2.2.2.2.2.2.2.2.2.2.2.2.2.1, fun _ => rfl, X.out.2.2.2.2.2.2.2.2.2.2.2.2.2.2.2.2.2.2.2.2.1, X.out.2.2.2.2.2.2.2.2.2.2.2.2.2.2.2.2.2.2.2.2.2.1, X.out.2.2.2.2.2.2.2.2.2.2.2.2.2.2.2.2.2.2.2.2.2.2.1, X.out.2.2.2.2.2.2.2.2.2.2.2.2.2.2.2.2.2.2.2.2.2.2.2⟩
    case hend =>
     intro L ac W hL hr hI
     have hup := up_all hL hr (by kernel_rfl)
     rw [HInv.out] at hI
     obtain ⟨z32, z33, z34, z35, z36, z37, z38, z39, z40, z41, z42, z43, z31, z44, z45, z46, z10, z11, z12, vt, rfl, c32, c33, c34, c35, c36, c37, c38, c39, c40, c41, c42, cvt, c43, c31, c44, c45, c46, c10, c11, c12, i12, i13, i17, G⟩ := hI
     obtain rfl := c11 (hup 18 (by decide))
     obtain rfl := c12 (hup 19 (by decide))
     obtain ⟨g, rfl, hg, hge⟩ := c10 (hup 16 (by decide))
     rw [if_pos (hup 17 (by decide))] at hg
     obtain ⟨A9, c9, rfl, h9, hC9⟩ := cvt (hup 11 (by decide))
     have hgW : W.heap[g]? = some (.cells #[.string (oneT (findT a (rd_T142 l i).f1 (rd_T142 l i).f2)).f0.f0, .bool (oneT (findT a (rd_T142 l i).f1 (rd_T142 l i).f2)).f0.f1, .string (oneT (findT a (rd_T142 l i).f1 (rd_T142 l i).f2)).f0.f2, .int .i64 (oneT (findT a (rd_T142 l i).f1 (rd_T142 l i).f2)).f0.f3, .int .i64 (oneT (findT a (rd_T142 l i).f1 (rd_T142 l i).f2)).f0.f4, .int .i64 (oneT (findT a (rd_T142 l i).f1 (rd_T142 l i).f2)).f0.f5, .int .i64 (oneT (findT a (rd_T142 l i).f1 (rd_T142 l i).f2)).f0.f6, .slice A9 (oneT (findT a (rd_T142 l i).f1 (rd_T142 l i).f2)).f1.length c9, .int .i64 (oneT (findT a (rd_T142 l i).f1 (rd_T142 l i).f2)).f2] 142 (0, 0)) := hg
     have hz9 := blk_below HG.out.2 G
     have HH := Aside0.mk (And.intro hz9 (And.intro hge (And.intro h9 (And.intro hC9 (below_step HG.out.1 G)))))
     have y0 : W.cell? ⟨w.heap.size, 0, none⟩ = some (.string ⟨#[]⟩) := (blk_cell hz9 0).trans rfl
     have y1 : W.cell? ⟨w.heap.size, 1, none⟩ = some (.bool false) := (blk_cell hz9 1).trans rfl
     have y2 : W.cell? ⟨w.heap.size, 2, none⟩ = some (.string ⟨#[]⟩) := (blk_cell hz9 2).trans rfl
     have y3 : W.cell? ⟨w.heap.size, 3, none⟩ = some (.int .i64 0) := (blk_cell hz9 3).trans rfl
     have y4 : W.cell? ⟨w.heap.size, 4, none⟩ = some (.int .i64 0) := (blk_cell hz9 4).trans rfl
     have y5 : W.cell? ⟨w.heap.size, 5, none⟩ = some (.int .i64 0) := (blk_cell hz9 5).trans rfl
     have y6 : W.cell? ⟨w.heap.size, 6, none⟩ = some (.int .i64 0) := (blk_cell hz9 6).trans rfl
     have y7 : W.cell? ⟨w.heap.size, 7, none⟩ = some (.slice none 0 0) := (blk_cell hz9 7).trans rfl
     have y8 : W.cell? ⟨w.heap.size, 8, none⟩ = some (.int .i64 0) := (blk_cell hz9 8).trans rfl
     have f0 := blk_frozen hz9 0
     have f1 := blk_frozen hz9 1
     have f2 := blk_frozen hz9 2
     have f3 := blk_frozen hz9 3
     have f4 := blk_frozen hz9 4
     have f5 := blk_frozen hz9 5
     have f6 := blk_frozen hz9 6
     have f7 := blk_frozen hz9 7
     have f8 := blk_frozen hz9 8
     have t0 : W.cell? ⟨g, 0, none⟩ = some (.string (oneT (findT a (rd_T142 l i).f1 (rd_T142 l i).f2)).f0.f0) := (blk_cell hgW 0).trans rfl
     have t1 : W.cell? ⟨g, 1, none⟩ = some (.bool (oneT (findT a (rd_T142 l i).f1 (rd_T142 l i).f2)).f0.f1) := (blk_cell hgW 1).trans rfl
     have t2 : W.cell? ⟨g, 2, none⟩ = some (.string (oneT (findT a (rd_T142 l i).f1 (rd_T142 l i).f2)).f0.f2) := (blk_cell hgW 2).trans rfl
     have t3 : W.cell? ⟨g, 3, none⟩ = some (.int .i64 (oneT (findT a (rd_T142 l i).f1 (rd_T142 l i).f2)).f0.f3) := (blk_cell hgW 3).trans rfl
     have t4 : W.cell? ⟨g, 4, none⟩ = some (.int .i64 (oneT (findT a (rd_T142 l i).f1 (rd_T142 l i).f2)).f0.f4) := (blk_cell hgW 4).trans rfl
     have t5 : W.cell? ⟨g, 5, none⟩ = some (.int .i64 (oneT (findT a (rd_T142 l i).f1 (rd_T142 l i).f2)).f0.f5) := (blk_cell hgW 5).trans rfl
     have t6 : W.cell? ⟨g, 6, none⟩ = some (.int .i64 (oneT (findT a (rd_T142 l i).f1 (rd_T142 l i).f2)).f0.f6) := (blk_cell hgW 6).trans rfl
     have t7 : W.cell? ⟨g, 7, none⟩ = some (.slice A9 (oneT (findT a (rd_T142 l i).f1 (rd_T142 l i).f2)).f1.length c9) := (blk_cell hgW 7).trans rfl
     have t8 : W.cell? ⟨g, 8, none⟩ = some (.int .i64 (oneT (findT a (rd_T142 l i).f1 (rd_T142 l i).f2)).f2) := (blk_cell hgW 8).trans rfl
     clear hg hge h9 hC9 G c32 c33 c34 c35 c36 c37 c38 c39 c40 c41 c42 cvt c43 c31 c44 c45 c46 c10 c11 c12 i12 i13 i17 hup hr hL HInv hgW hz9 q0 q1 q2 q3 q4 q5 q6 q7 q8
     have hfin := HF.out
     rw [HD.out.1, findT, if_neg HX.out] at hfin
     have HF2 := Aside0.mk hfin
     clear hfin
     cases hr : (findT a (rd_T142 l i).f1 (rd_T142 l i).f2) with
     | some z =>
      have HZ := Aside0.mk hr
      have hz2 : Option.isSome (findT a (rd_T142 l i).f1 (rd_T142 l i).f2) = true := by rw [hr]; rfl
      clear hr
      go_wp2_with fail
      refine setN_letter [.string (oneT (findT a (rd_T142 l i).f1 (rd_T142 l i).f2)).f0.f0, .bool (oneT (findT a (rd_T142 l i).f1 (rd_T142 l i).f2)).f0.f1, .string (oneT (findT a (rd_T142 l i).f1 (rd_T142 l i).f2)).f0.f2, .int .i64 (oneT (findT a (rd_T142 l i).f1 (rd_T142 l i).f2)).f0.f3, .int .i64 (oneT (findT a (rd_T142 l i).f1 (rd_T142 l i).f2)).f0.f4, .int .i64 (oneT (findT a (rd_T142 l i).f1 (rd_T142 l i).f2)).f0.f5, .int .i64 (oneT (findT a (rd_T142 l i).f1 (rd_T142 l i).f2)).f0.f6, .slice A9 (oneT (findT a (rd_T142 l i).f1 (rd_T142 l i).f2)).f1.length c9, .int .i64 (oneT (findT a (rd_T142 l i).f1 (rd_T142 l i).f2)).f2] HH.out.1 rfl fun W9 hb9 hg9 => ?_
      have hB9 : Below w.heap.size w W9 := HH.out.2.2.2.2.grown hg9 (below_size HH.out.2.2.2.2) (fun k hk => by injection hk with hk; omega)
      refine bodyPost_ret (results_row2 rfl _ _ w.heap.size 142 _ (0, 0) _ rfl hb9 Try.underlying142 rfl (by kernel_rfl)) rfl ?_
      have hF := HF2.out
      rw [HZ.out] at hF
      have hall : findT a l par = (findT a (rd_T142 l i).f1 (rd_T142 l i).f2) := by rw [← hF, HZ.out]
      rw [hall]
      exact ⟨A9, c9, by rw [HZ.out]; rfl, HH.out.2.2.1, HH.out.2.2.2.1, hB9⟩
     | none =>
      have HZ := Aside0.mk hr
      have hz2 : Option.isSome (findT a (rd_T142 l i).f1 (rd_T142 l i).f2) = false := by rw [hr]; rfl
      clear hr
      go_wp2_with fail
      go_roundg (l.length - (i + 1))
      case measure => omega
      case rel =>
       have hF := HF2.out
       rw [HZ.out] at hF
       exact ⟨i + 1, rfl, by omega, by go_num, ⟨hF⟩, ⟨HH.out.2.2.2.2, HH.out.1⟩⟩
  ·obtain rfl : i = l.length := by omega
   have hg := HG.out.2
   have z0 : wr.cell? ⟨w.heap.size, 0, none⟩ = some (.string ⟨#[]⟩) := (blk_cell hg 0).trans rfl
   have fz0 := blk_frozen hg 0
   have z1 : wr.cell? ⟨w.heap.size, 1, none⟩ = some (.bool false) := (blk_cell hg 1).trans rfl
   have fz1 := blk_frozen hg 1
   have z2 : wr.cell? ⟨w.heap.size, 2, none⟩ = some (.string ⟨#[]⟩) := (blk_cell hg 2).trans rfl
   have fz2 := blk_frozen hg 2
   have z3 : wr.cell? ⟨w.heap.size, 3, none⟩ = some (.int .i64 0) := (blk_cell hg 3).trans rfl
   have fz3 := blk_frozen hg 3
   have z4 : wr.cell? ⟨w.heap.size, 4, none⟩ = some (.int .i64 0) := (blk_cell hg 4).trans rfl
   have fz4 := blk_frozen hg 4
   have z5 : wr.cell? ⟨w.heap.size, 5, none⟩ = some (.int .i64 0) := (blk_cell hg 5).trans rfl
   have fz5 := blk_frozen hg 5
   have z6 : wr.cell? ⟨w.heap.size, 6, none⟩ = some (.int .i64 0) := (blk_cell hg 6).trans rfl
   have fz6 := blk_frozen hg 6
   have z7 : wr.cell? ⟨w.heap.size, 7, none⟩ = some (.slice none 0 0) := (blk_cell hg 7).trans rfl
   have fz7 := blk_frozen hg 7
   have z8 : wr.cell? ⟨w.heap.size, 8, none⟩ = some (.int .i64 0) := (blk_cell hg 8).trans rfl
   have fz8 := blk_frozen hg 8
   clear hg
   go_wp2_with fail
   have hfin := HF.out
   rw [List.drop_of_length_le (by omega), findT] at hfin
   refine setN_letter [.string ⟨#[]⟩, .bool false, .string ⟨#[]⟩, .int .i64 0, .int .i64 0, .int .i64 0, .int .i64 0, .slice none 0 0, .int .i64 0] HG.out.2 rfl fun W9 hb9 hg9 => ?_
   have hB9 : Below w.heap.size w W9 := HG.out.1.grown hg9 (below_size HG.out.1) (fun k hk => by injection hk with hk; omega)
   refine bodyPost_ret (results_row2 rfl _ _ w.heap.size 142 _ (0, 0) _ rfl hb9 Try.underlying142 rfl (by kernel_rfl)) rfl ?_
   rw [← hfin]
   exact ⟨none, 0, rfl, Nat.zero_le _, Kd.C_nil _ _, hB9⟩
end Go.Proofs.Ytmhmmffhmdbclaa.PO
