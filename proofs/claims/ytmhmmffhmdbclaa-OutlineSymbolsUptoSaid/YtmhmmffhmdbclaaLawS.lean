/- trellislaw22.OutlineSymbols: the law's own walk, by hand. -/
import Derived.Test.YtmhmmffhmdbclaaPOx4
import Derived.Test.YtmhmmffhmdbclaaPOx5
import Derived.Test.YtmhmmffhmdbclaaPOx6
import Derived.Test.YtmhmmffhmdbclaaPOx9
import Derived.Test.YtmhmmffhmdbclaaSpared
import Derived.Test.YtmhmmffhmdbclaaOwn50
import Derived.Test.YtmhmmffhmdbclaaH
namespace Go.Proofs.Ytmhmmffhmdbclaa.PO
open Go.RowKit Go.Proofs.YtmhmmffhmdbclaaW.PrintWords Go.Proofs.YtmhmmffhmdbclaaW.PrintLast Go.Proofs.YtmhmmffhmdbclaaW.PrintMore H
set_option linter.unusedVariables false
set_option linter.unusedSimpArgs false
/-- What the law needs of the functions. -/
structure SymsOk (k : Nat) (lf : List ByteArray) (lm : List S128) (l l' : List S50) (text : ByteArray) (r1 r2 : List S83) : Prop where
  beyond : trellisref15_Beyond.f k l = some false
  roomy : trellislaw22_roomy.f l = some (l ++ [zm, zm])
  lang : trellislaw22_lang.f lf lm = some (⟨#[]⟩, (), (), (), (), (), (), (), (), lf, lm, ())
  mine1 : outline_Symbols.f k ⟨#[]⟩ () () () () () () () () lf lm () l text = some r1
  want1 : trellisref22_Symbols.f k ⟨#[]⟩ () () () () () () () () lf lm () l text = some r1
  same1 : trellislaw22_sameSymbols.f k r1 r1 = some true
  spared : trellislaw22_sameNodes.f k l l = some true
  mine2 : outline_Symbols.f k ⟨#[]⟩ () () () () () () () () lf lm () l' text = some r2
  want2 : trellisref22_Symbols.f k ⟨#[]⟩ () () () () () () () () lf lm () l' text = some r2
  same2 : trellislaw22_sameSymbols.f k r2 r2 = some true
/-- The list with other names in it, up to a place. -/
def renTo (l : List S50) (i : Nat) : List S50 := l.mapIdx fun j x => if j < i then { x with f0 := (rd_T50 l ((l.length : Int) - 1 - j)).f0, f1 := true } else x
theorem renTo_zero (l : List S50) : renTo l 0 = l := by
  apply List.ext_getElem?
  intro j
  simp [renTo]
theorem renTo_succ (l : List S50) (i : Nat) (hi : i < l.length) : renTo l (i + 1) = (renTo l i).set i { l[i] with f0 := (rd_T50 l ((l.length : Int) - 1 - i)).f0, f1 := true } := by
  apply List.ext_getElem?
  intro j
  rcases Nat.lt_trichotomy j i with h | rfl | h
  · rw [List.getElem?_set_ne (by omega)]
    simp only [renTo, List.getElem?_mapIdx]
    cases l[j]? with
    | none => rfl
    | some x => simp [h, Nat.lt_succ_of_lt h]
  · rw [List.getElem?_set_self (by simpa [renTo] using hi)]
    simp [renTo, List.getElem?_mapIdx, List.getElem?_eq_getElem hi]
  · rw [List.getElem?_set_ne (by omega)]
    simp only [renTo, List.getElem?_mapIdx]
    cases l[j]? with
    | none => rfl
    | some x => simp [show ¬ j < i + 1 by omega, show ¬ j < i by omega]
theorem own50_letter {p : World → Prop} {W : World} {base g n cap q : Nat} {ok : Nat → Prop} {xs : List S50} (h : k50.R 50 W base ok (.slice (some ⟨g, 0, none⟩) n cap) xs) (i j : Nat) (hi : i < xs.length) (hj : j < 7) (u : Value) (x' : S50)
    (hx : cells50 x' = (cells50 xs[i]).set j u) (hq : q = i * 7 + j) (k : ∀ W', k50.R 50 W' base ok (.slice (some ⟨g, 0, none⟩) n cap) (xs.set i x') → W.grownBy W' (some g) → p W') : p (W.setCell ⟨g, q, none⟩ u) := by
  subst hq
  exact k _ (own50_set h i j hi hj u x' hx).1 (own50_set h i j hi hj u x' hx).2
set_option maxHeartbeats 2000000 in
set_option maxRecDepth 100000 in
theorem OutlineSymbols_calls (k : Nat) (lf : List ByteArray) (lm : List S128) (l : List S50) (text : ByteArray) (r1 r2 : List S83) (Af Am A : Option Addr) (cf cm c : Nat) (w : World)
    (hf : Kd.C Kd.string w Af lf.length lf) (hcf : lf.length ≤ cf) (hm : Kd.C k128 w Am lm.length lm) (hcm : lm.length ≤ cm) (hr : Kd.C k50 w A l.length l) (hc : l.length ≤ c)
    (h : SymsOk k lf lm l (renTo l l.length) text r1 r2) :
    Calls Try.prog 3 #[.agg #[.slice Af lf.length cf, .slice Am lm.length cm], .slice A l.length c, .string text] w fun e w' => e = .returned (.bool true) ∧ Below w.heap.size w w' := by
  have hu25 := Try.underlying25
  have hu50 := Try.underlying50
  have HF := Aside0.mk (And.intro hf hcf)
  have HM := Aside0.mk (And.intro hm hcm)
  have HR := Aside0.mk (And.intro hr hc)
  have H := Aside0.mk h
  clear hf hcf hm hcm hr hc h
  go_enter Try.func3, Try.ntmps3
  go_upto_region 1 with (fail)
  refine alloc_letter ?_
  intro w0 hb0 hblk0 _
  have H0 := Aside0.mk (And.intro hb0 hblk0)
  clear hb0 hblk0
  go_wp2_with fail
  refine (trellisref15_Beyond.calls k A c l false w0 (Kd.C_below HR.out.1 H0.out.1) HR.out.2 H.out.beyond).mono ?_
  rintro e w1 ⟨rfl, hb1⟩
  have H1 := Aside0.mk (And.intro (below_step H0.out.1 hb1) (blk_below H0.out.2 hb1))
  clear hb1
  go_wp2_with fail
  -- cut here
  refine (trellislaw22_roomy.calls A c l (l ++ [zm, zm]) w1 (Kd.C_below HR.out.1 H1.out.1) HR.out.2 H.out.roomy).mono ?_
  rintro e w2 ⟨v, rfl, hv, hb2⟩
  obtain ⟨B, d, rfl, hd, hB⟩ := Kd.R_reads hv
  have H2 := Aside0.mk (And.intro (below_step H1.out.1 hb2) (And.intro (blk_below H1.out.2 hb2) (And.intro (Kd.R_lower hv (below_size H1.out.1)) hd)))
  have hk0 : w2.cell? ⟨w.heap.size, 0, none⟩ = some (.slice Af lf.length cf) := (blk_cell H2.out.2.1 0).trans rfl
  have hk1 : w2.cell? ⟨w.heap.size, 1, none⟩ = some (.slice Am lm.length cm) := (blk_cell H2.out.2.1 1).trans rfl
  obtain ⟨i0, hi0, _, _, _⟩ := info_parts info50
  have hcut := cut_to (P := Try.prog) 26 50 .i64 Try.underlying26 hi0 B (l ++ [zm, zm]).length d (l.length : Int) (by omega) (by simp; omega) hd
  simp only [Int.toNat_natCast] at hcut
  have hq0 : ((l.length : Int) ≤ ((l ++ [zm, zm]).length : Int)) = True := eq_true (by simp; omega)
  clear hb2 hv hB hd hi0
  have hT : (l ++ [zm, zm]).take l.length = l := by simp
  have HV := Aside0.mk (And.intro (by have := Kd.R_take (m := l.length) H2.out.2.2.1 (by simp); rwa [hT] at this : k50.R 50 w2 w.heap.size (fun _ => True) (.slice B l.length d) l) (show l.length ≤ d by have := H2.out.2.2.2; simp at this; omega))
  have HA := Aside0.mk (Kd.R_reads H2.out.2.2.1)
  clear hT
  generalize hall : l ++ [zm, zm] = all at *
  have HALL := Aside0.mk hall
  clear hall
  go_wp2_with fail
  refine (trellislaw22_lang.calls Af cf lf Am cm lm _ () () () () () () () () _ _ () w2 (Kd.C_below HF.out.1 H2.out.1) HF.out.2 (Kd.C_below HM.out.1 H2.out.1) HM.out.2 H.out.lang).mono ?_
  rintro e w3 ⟨v9, v10, rfl, hv9, hv10, hbw3⟩
  obtain ⟨A9, d9, rfl, hd9, hr9⟩ := Kd.R_reads hv9
  obtain ⟨A10, d10, rfl, hd10, hr10⟩ := Kd.R_reads hv10
  have H3 := Aside0.mk (And.intro (below_step H2.out.1 hbw3) (And.intro (blk_below H2.out.2.1 hbw3) (And.intro (And.intro hr9 hd9) (And.intro hr10 hd10))))
  have HV3 := Aside0.mk (And.intro (Kd.R_below HV.out.1 hbw3) HV.out.2)
  have HA3 := Aside0.mk (Kd.R_below H2.out.2.2.1 hbw3)
  clear hv9 hv10 hbw3 hd9 hr9 hd10 hr10
  clear hk0 hk1 HA hcut hq0
  go_wp2_with fail
  obtain ⟨B', d', eB, hB', hBC⟩ := Kd.R_reads HV3.out.1
  injection eB with eB _ ed
  subst eB ed
  refine (outline_Symbols.calls k _ () () () () () () () () A9 d9 lf A10 d10 lm () B d l text r1 w3 H3.out.2.2.1.1 H3.out.2.2.1.2 H3.out.2.2.2.1 H3.out.2.2.2.2 hBC hB' H.out.mine1).mono ?_
  rintro e w4 ⟨v4, rfl, hv4, hb4⟩
  obtain ⟨S1, s1, rfl, hs1, _⟩ := Kd.R_reads hv4
  have H4 := Aside0.mk (And.intro (below_step H3.out.1 hb4) (And.intro (blk_below H3.out.2.1 hb4) (And.intro hv4 hs1)))
  have HV4 := Aside0.mk (And.intro (Kd.R_below HV3.out.1 hb4) HV3.out.2)
  have HA4 := Aside0.mk (Kd.R_below HA3.out hb4)
  have hk0 : w4.cell? ⟨w.heap.size, 0, none⟩ = some (.slice Af lf.length cf) := (blk_cell H4.out.2.1 0).trans rfl
  have hk1 : w4.cell? ⟨w.heap.size, 1, none⟩ = some (.slice Am lm.length cm) := (blk_cell H4.out.2.1 1).trans rfl
  clear hv4 hs1 hb4 hB' hBC
  go_wp2_with fail
  refine (trellislaw22_lang.calls Af cf lf Am cm lm _ () () () () () () () () _ _ () w4 (Kd.C_below HF.out.1 H4.out.1) HF.out.2 (Kd.C_below HM.out.1 H4.out.1) HM.out.2 H.out.lang).mono ?_
  rintro e w5 ⟨v9, v10, rfl, hv9, hv10, hbw5⟩
  obtain ⟨A9, d9, rfl, hd9, hr9⟩ := Kd.R_reads hv9
  obtain ⟨A10, d10, rfl, hd10, hr10⟩ := Kd.R_reads hv10
  have H5 := Aside0.mk (And.intro (below_step H4.out.1 hbw5) (And.intro (blk_below H4.out.2.1 hbw5) (And.intro (And.intro hr9 hd9) (And.intro hr10 hd10))))
  have HS5 := Aside0.mk (And.intro (Kd.R_below H4.out.2.2.1 hbw5) H4.out.2.2.2)
  have HV5 := Aside0.mk (And.intro (Kd.R_below HV4.out.1 hbw5) HV4.out.2)
  have HA5 := Aside0.mk (Kd.R_below HA4.out hbw5)
  clear hv9 hv10 hbw5 hd9 hr9 hd10 hr10
  clear hk0 hk1 HV3 HA3 HV4 HA4
  go_wp2_with fail
  refine (trellisref22_Symbols.calls k _ () () () () () () () () A9 d9 lf A10 d10 lm () A c l text r1 w5 H5.out.2.2.1.1 H5.out.2.2.1.2 H5.out.2.2.2.1 H5.out.2.2.2.2 (Kd.C_below HR.out.1 H5.out.1) HR.out.2 H.out.want1).mono ?_
  rintro e w6 ⟨v6, rfl, hv6, hb6⟩
  obtain ⟨S2, s2, rfl, hs2, hS2⟩ := Kd.R_reads hv6
  obtain ⟨S1', s1', eS, hs1, hS1⟩ := Kd.R_reads (Kd.R_below HS5.out.1 hb6)
  injection eS with eS _ es
  subst eS es
  have H6 := Aside0.mk (And.intro (below_step H5.out.1 hb6) (And.intro (blk_below H5.out.2.1 hb6) (And.intro (And.intro hS1 hs1) (And.intro hS2 hs2))))
  have HV6 := Aside0.mk (And.intro (Kd.R_below HV5.out.1 hb6) HV5.out.2)
  have HA6 := Aside0.mk (Kd.R_below HA5.out hb6)
  clear hv6 hs2 hS2 hs1 hS1 hb6 HV5 HA5 HS5
  go_wp2_with fail
  refine (trellislaw22_sameSymbols.calls k S1 s1 r1 S2 s2 r1 true w6 H6.out.2.2.1.1 H6.out.2.2.1.2 H6.out.2.2.2.1 H6.out.2.2.2.2 H.out.same1).mono ?_
  rintro e w7 ⟨rfl, n7, rfl⟩
  go_wp2_with fail
  refine (spared_calls k B d all l A c _ HALL.out.symm (Kd.C_drewN (by obtain ⟨Ba, da, e, _, hx⟩ := Kd.R_reads HA6.out; injection e with e; subst e; exact hx) _) (by obtain ⟨Ba, da, e, hx, _⟩ := Kd.R_reads HA6.out; injection e with _ _ e; omega) (Kd.C_drewN (Kd.C_below HR.out.1 H6.out.1) _) HR.out.2 H.out.spared).mono ?_
  rintro e w8 ⟨rfl, n8, rfl⟩
  have H8 := Aside0.mk (And.intro (pw_below_drewN (pw_below_drewN H6.out.1 n7) n8) (And.intro (blk_drewN (blk_drewN H6.out.2.1 n7) n8) (Kd.R_drewN (Kd.R_drewN HV6.out.1 n7) n8)))
  generalize hw8 : ((w6.drewN n7).drewN n8) = w8 at *
  clear hw8 HA6 H6 H5 H4 H3
  go_wp2_with fail
  have hl9 : l.length ≤ 9223372036854775807 := Kd.C_max HR.out.1
  go_loopg [10] l.length (fun k v10 w' => ∃ i : Nat, k = l.length - i ∧ i ≤ l.length ∧ v10 = .int .i64 i ∧ Aside0 (Below w.heap.size w w' ∧ w'.heap[w.heap.size]? = some (.cells #[.slice Af lf.length cf, .slice Am lm.length cm] 25 (0, 0)) ∧ k50.R 50 w' w.heap.size (fun _ => True) (.slice B l.length d) (renTo l i)))
  case atStart => exact ⟨0, rfl, by omega, by simp, ⟨H8.out.1, H8.out.2.1, by rw [renTo_zero]; exact H8.out.2.2⟩⟩
  case round =>
    clear H8 HV6
    obtain ⟨i, hk, hi, rfl, HL⟩ := hrel
    by_cases hlt : i < l.length
    · have hrl : (renTo l i).length = l.length := by simp [renTo]
      obtain ⟨g, cap, eB, hbg, _, cells, hcells⟩ := Kd.R_form HL.out.2.2 (by omega)
      injection eB with eB en ed
      subst eB ed
      clear en
      obtain ⟨_, _, eC, hC1, hC2⟩ := Kd.R_reads HL.out.2.2
      injection eC with eC en ed
      subst eC ed
      clear en
      obtain ⟨ag, hag, y0, y1, y2, y3, y4, y5, y6⟩ := at_T50 hC2 (i : Int) (by omega) (by omega)
      injection hag with hag
      subst hag
      obtain ⟨mi, hmi⟩ : ∃ m : Int, (l.length : Int) - 1 - i = m := ⟨_, rfl⟩
      have HMI := Aside0.mk hmi
      obtain ⟨aa, haa, x0, x1, x2, x3, x4, x5, x6⟩ := at_T50 (Kd.C_below HR.out.1 HL.out.1) mi (by omega) (by omega)
      subst haa
      simp only [Go.IntWalk.toNatUp] at y0 y1 y2 y3 y4 y5 y6
      have fz : wr.frozen? ⟨g, i * 7, none⟩ = false := blk_frozen hcells _
      rw [add_plain] at y0
      have HC8 := Aside0.mk hcells
      have hw1 : IntKind.i64.wrap ((l.length : Int) - 1) = (l.length : Int) - 1 := Go.IntWalk.i64_in _ (by omega)
      have hw2 : IntKind.i64.wrap ((l.length : Int) - 1 - i) = mi := by rw [Go.IntWalk.i64_in _ (by omega)]; exact hmi
      have g0 : (0 ≤ mi) = True := eq_true (by omega)
      have g1 : (mi < (l.length : Int)) = True := eq_true (by omega)
      have g2 : ((i : Int) < (l.length : Int)) = True := eq_true (by omega)
      have g3 : (0 ≤ (i : Int)) = True := eq_true (by omega)
      have g4 : (i < l.length) = True := eq_true hlt
      have HLT := Aside0.mk (And.intro hlt hrl)
      have HGB := Aside0.mk hbg
      have HK := Aside0.mk hk
      clear hcells hC1 hC2 hmi hbg hk hi hlt hrl y1 y2 y3 y4 y5 y6 x1 x2 x3 x4 x5 x6
      go_upto_region 12 with (fail)
      have hri : (renTo l i)[i]'(by rw [HLT.out.2]; exact HLT.out.1) = l[i]'HLT.out.1 := by simp [renTo]
      refine own50_letter HL.out.2.2 i 0 (by rw [HLT.out.2]; exact HLT.out.1) (by omega) _ { l[i]'HLT.out.1 with f0 := (rd_T50 l mi).f0 } (by rw [hri]; rfl) (by omega) fun W1 hr1 hg1 => ?_
      have hne1 : w.heap.size < g := by
        rcases Nat.lt_or_eq_of_le HGB.out with h | h
        · exact h
        · exfalso
          have := HL.out.2.1
          rw [h, HC8.out] at this
          cases this
      have HL1 := Aside0.mk (And.intro (HL.out.1.grown hg1 (below_size HL.out.1) (fun k hk => by injection hk with hk; omega)) (And.intro ((hg1.block _ (blk_lt HL.out.2.1) (fun e => by injection e with e; omega)).trans HL.out.2.1) hr1))
      obtain ⟨cells', hcells'⟩ := own_typed (Kd.R_own hr1).choose_spec g rfl
      obtain ⟨_, _, eC, _, hC3⟩ := Kd.R_reads hr1
      injection eC with eC en ed
      subst eC ed
      clear en
      obtain ⟨ag2, hag2, z0, z1, z2, z3, z4, z5, z6⟩ := at_T50 hC3 (i : Int) (by omega) (by rw [List.length_set, HLT.out.2]; have := HLT.out.1; omega)
      injection hag2 with hag2
      subst hag2
      simp only [Go.IntWalk.toNatUp, add_plain] at z1
      have fz1 : W1.frozen? ⟨g, i * 7 + 1, none⟩ = false := blk_frozen hcells' _
      have HRI := Aside0.mk (And.intro hri hne1)
      clear hr1 hg1 hcells' hC3 z0 z2 z3 z4 z5 z6 y0 x0 fz hri hne1
      go_upto_region 10 with (fail)
      refine own50_letter HL1.out.2.2 i 1 (by rw [List.length_set, HLT.out.2]; exact HLT.out.1) (by omega) _ { l[i]'HLT.out.1 with f0 := (rd_T50 l mi).f0, f1 := true } (by rw [List.getElem_set_self]; rfl) (by omega) fun W2 hr2 hg2 => ?_
      rw [List.set_set] at hr2
      have HL2 := Aside0.mk (And.intro (HL1.out.1.grown hg2 (below_size HL1.out.1) (fun k hk => by injection hk with hk; have := HRI.out.2; omega)) (And.intro ((hg2.block _ (blk_lt HL1.out.2.1) (fun e => by injection e with e; have := HRI.out.2; omega)).trans HL1.out.2.1) hr2))
      clear hr2 hg2 fz1 z1 g0 g1 g2 g3 g4 hw1 hw2
      have hw3 : IntKind.i64.wrap ((i : Int) + 1) = (i : Int) + 1 := Go.IntWalk.i64_in _ (by have := HLT.out.1; omega)
      have hi1 := HLT.out.1
      go_wp2_with fail
      go_roundg (l.length - (i + 1))
      case measure => have := HLT.out.1; have := HK.out; omega
      case rel => exact ⟨i + 1, rfl, HLT.out.1, by simp, ⟨HL2.out.1, HL2.out.2.1, by rw [renTo_succ l i HLT.out.1, HMI.out]; exact HL2.out.2.2⟩⟩
    · obtain rfl : i = l.length := by omega
      have hlen : (renTo l l.length).length = l.length := by simp [renTo]
      generalize renTo l l.length = l' at *
      have HLEN := Aside0.mk hlen
      clear hlen
      have hk0 : wr.cell? ⟨w.heap.size, 0, none⟩ = some (.slice Af lf.length cf) := (blk_cell HL.out.2.1 0).trans rfl
      have hk1 : wr.cell? ⟨w.heap.size, 1, none⟩ = some (.slice Am lm.length cm) := (blk_cell HL.out.2.1 1).trans rfl
      clear hk hi hlt
      go_wp2_with fail
      refine (trellislaw22_lang.calls Af cf lf Am cm lm _ () () () () () () () () _ _ () wr (Kd.C_below HF.out.1 HL.out.1) HF.out.2 (Kd.C_below HM.out.1 HL.out.1) HM.out.2 H.out.lang).mono ?_
      rintro e w5 ⟨v9, v10, rfl, hv9, hv10, hbw5⟩
      obtain ⟨A9, d9, rfl, hd9, hr9⟩ := Kd.R_reads hv9
      obtain ⟨A10, d10, rfl, hd10, hr10⟩ := Kd.R_reads hv10
      have H5 := Aside0.mk (And.intro (below_step HL.out.1 hbw5) (And.intro (blk_below HL.out.2.1 hbw5) (And.intro (And.intro hr9 hd9) (And.intro hr10 hd10))))
      have HV5 := Aside0.mk (Kd.R_below HL.out.2.2 hbw5)
      clear hv9 hv10 hbw5 hd9 hr9 hd10 hr10 hk0 hk1
      obtain ⟨B', d', eB, hB', hBC⟩ := Kd.R_reads HV5.out
      injection eB with eB en ed
      subst eB ed
      clear en
      have hc := trellisref22_Symbols.calls k _ () () () () () () () () A9 d9 lf A10 d10 lm () B d l' text r2 w5 H5.out.2.2.1.1 H5.out.2.2.1.2 H5.out.2.2.2.1 H5.out.2.2.2.2 hBC hB' H.out.want2
      rw [HLEN.out] at hc
      have HCALL := Aside0.mk hc
      clear hc hB' hBC
      go_wp2_with fail
      refine HCALL.out.mono ?_
      rintro e w6 ⟨v6, rfl, hv6, hb6⟩
      obtain ⟨S3, s3, rfl, hs3, _⟩ := Kd.R_reads hv6
      have H6 := Aside0.mk (And.intro (below_step H5.out.1 hb6) (And.intro (blk_below H5.out.2.1 hb6) (And.intro hv6 hs3)))
      have HV6 := Aside0.mk (Kd.R_below HV5.out hb6)
      have hk0 : w6.cell? ⟨w.heap.size, 0, none⟩ = some (.slice Af lf.length cf) := (blk_cell H6.out.2.1 0).trans rfl
      have hk1 : w6.cell? ⟨w.heap.size, 1, none⟩ = some (.slice Am lm.length cm) := (blk_cell H6.out.2.1 1).trans rfl
      clear hv6 hs3 hb6 HCALL HV5
      go_wp2_with fail
      refine (trellislaw22_lang.calls Af cf lf Am cm lm _ () () () () () () () () _ _ () w6 (Kd.C_below HF.out.1 H6.out.1) HF.out.2 (Kd.C_below HM.out.1 H6.out.1) HM.out.2 H.out.lang).mono ?_
      rintro e w7 ⟨v9, v10, rfl, hv9, hv10, hbw7⟩
      obtain ⟨A9, d9, rfl, hd9, hr9⟩ := Kd.R_reads hv9
      obtain ⟨A10, d10, rfl, hd10, hr10⟩ := Kd.R_reads hv10
      have H7 := Aside0.mk (And.intro (below_step H6.out.1 hbw7) (And.intro (Kd.R_below H6.out.2.2.1 hbw7) H6.out.2.2.2))
      obtain ⟨B', d', eB, hB', hBC⟩ := Kd.R_reads (Kd.R_below HV6.out hbw7)
      injection eB with eB en ed
      subst eB ed
      clear en
      have hc := outline_Symbols.calls k _ () () () () () () () () A9 d9 lf A10 d10 lm () B d l' text r2 w7 hr9 hd9 hr10 hd10 hBC hB' H.out.mine2
      rw [HLEN.out] at hc
      have HCALL := Aside0.mk hc
      clear hc hB' hBC hv9 hv10 hbw7 hd9 hr9 hd10 hr10 hk0 hk1
      go_wp2_with fail
      refine HCALL.out.mono ?_
      rintro e w8 ⟨v8, rfl, hv8, hb8⟩
      obtain ⟨S4, s4, rfl, hs4, hS4⟩ := Kd.R_reads hv8
      obtain ⟨S3', s3', eS, _, hS3⟩ := Kd.R_reads (Kd.R_below H7.out.2.1 hb8)
      injection eS with eS en es
      subst eS es
      clear en
      have H8 := Aside0.mk (And.intro (below_step H7.out.1 hb8) (And.intro (And.intro hS4 hs4) hS3))
      clear hv8 hs4 hS4 hS3 hb8
      go_wp2_with fail
      refine (trellislaw22_sameSymbols.calls k S4 s4 r2 S3 s3 r2 true w8 H8.out.2.1.1 H8.out.2.1.2 H8.out.2.2 H7.out.2.2 H.out.same2).mono ?_
      rintro e w9 ⟨rfl, n9, rfl⟩
      go_wp2_with fail
      go_ret
      exact ⟨rfl, pw_below_drewN H8.out.1 n9⟩
end Go.Proofs.Ytmhmmffhmdbclaa.PO
