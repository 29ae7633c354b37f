import Derived.Test.YtaclkachohkenaaDoorRetU
import Derived.Test.YtaclkachohkenaaDoorRetV
set_option linter.unusedVariables false
set_option linter.unusedSimpArgs false
namespace Go.Proofs.YtaclkachohkenaaDoor
open Go.RowKit Go.Maps

/-- All that is turned is new. -/
theorem sx_new {X M base B : Nat} {w w' : World} (h : But (SX X M base) w w') (hB : B ≤ w.heap.size) (hX : B ≤ X) (hM : B ≤ M) (hb : B ≤ base) : Below B w w' :=
  h.below hB (fun i q => by rcases q with q | q | q <;> omega)

theorem xact_idle (D T : Int) (ws : List Int) (i p : Nat) : xact D T ws false i p = (A5.nil, false) := rfl

set_option maxRecDepth 100000 in
set_option maxHeartbeats 4000000 in
theorem awake_any (w : World) (hB : Bd w) : Calls Tryd.prog 4 #[] w (Ret (.bool true) w) := by
  have h0 : 0 < w.heap.size := World.block_lt_of_cell? w _ hB.1
  have HBD : Hid (Bd w) := Lib.hid hB
  clear hB
  go_enter Tryd.func4, Tryd.ntmps4
  go_upto_region 2 with fail
  refine wp_world (fun W => Below w.heap.size w W ∧ Cs W w.heap.size 0 [.int .u64 1, .int .i64 0, .int .i64 1, .int .i64 2, .int .u64 0]) ⟨by (repeat' (first | (with_reducible exact Below.refl _ _) | (with_reducible assumption) | (with_reducible refine Below.alloc ?_ ?_ _) | (with_reducible refine Below.drew ?_) | (with_reducible refine bel_drewN ?_ _) | (with_reducible refine Below.setCell ?_ ?_ _) | (with_reducible refine bel_after ?_ (by assumption)) | (exact Below.size (by assumption)) | omega | (simp only [World.size_alloc, World.size_setCell, World.size_drew, size_drewN] at *; omega))), Cs.at rfl rfl⟩ ?_
  rintro W1 ⟨b1, k1⟩
  have HB1 : Hid (Below w.heap.size w W1) := Lib.hid b1
  have HK1 : Hid (Cs W1 w.heap.size 0 [.int .u64 1, .int .i64 0, .int .i64 1, .int .i64 2, .int .u64 0]) := Lib.hid k1
  have hs1 : w.heap.size < W1.heap.size := k1.lt
  simp only [Cs, Nat.zero_add, Nat.reduceAdd] at k1
  obtain ⟨c0, f0, c1, f1, c2, f2, c3, f3, c4, f4, _⟩ := k1
  have hN : Calls Tryd.prog 5 #[siteV 1 0 1 2 0, .slice none 0 0, .slice (some ⟨W1.heap.size, 0, none⟩) 1 1] (W1.alloc (.cells #[.int .u64 7] 22)) (NewPost 1 0 1 2 0 [7] false (W1.alloc (.cells #[.int .u64 7] 22))) :=
    newYes 1 0 1 2 0 7 (by omega) (.slice none 0 0) [] W1.heap.size _ (HBD.out.but (S := fun b => w.heap.size ≤ b) (But.of_below (b1.alloc (by omega) _)) (by omega)) rfl (Rd.nil _ _ _ _) (by simp) (by simp) (by simp [go_sem]) (by omega)
  clear b1
  unfold siteV at hN
  go_wp2_with fail
  (with_reducible refine hN.mono ?_)
  rintro e W2 ⟨X, M, wv, rv, rfl, hb2, hx2, hX, hM, _⟩
  clear hN
  simp only [Bool.false_eq_true, if_false] at hx2
  have hR := result_any hx2 (by omega)
  simp only [xact_idle, Bool.not_false, if_false, Bool.false_eq_true] at hR
  have hb2' : Below w.heap.size w W2 := (HB1.out.alloc (by omega) _).trans (hb2.mono (by simp only [World.size_alloc]; omega))
  have HB2 : Hid (Below w.heap.size w W2) := Lib.hid hb2'
  have HK2 : Hid (Cs W2 w.heap.size 0 [.int .u64 1, .int .i64 0, .int .i64 1, .int .i64 2, .int .u64 0]) := Lib.hid ((HK1.out.below (Below.alloc (Below.refl _ _) (Nat.le_refl _) (.cells #[.int .u64 7] 22)) hs1).below hb2 (by simp only [World.size_alloc]; omega))
  have hs2 := hb2.size
  simp only [World.size_alloc] at hs2
  clear hb2 hb2' hx2 c0 f0 c1 f1 c2 f2 c3 f3 c4 f4 HK1
  go_wp2_with fail
  (with_reducible refine hR.mono ?_)
  rintro e W3 ⟨lv, rfl, hb3, hown3⟩
  clear hR
  have HL3 : Hid (Own W2.heap.size W3 lv [7]) := Lib.hid hown3
  have HB3 : Hid (Below w.heap.size w W3) := Lib.hid (HB2.out.trans (hb3.mono (by omega)))
  have hk3 := HK2.out.below hb3 (by omega)
  have HK3 : Hid (Cs W3 w.heap.size 0 [.int .u64 1, .int .i64 0, .int .i64 1, .int .i64 2, .int .u64 0]) := Lib.hid hk3
  have hs3 := hb3.size
  simp only [Cs, Nat.zero_add, Nat.reduceAdd] at hk3
  obtain ⟨c0, f0, c1, f1, c2, f2, c3, f3, c4, f4, _⟩ := hk3
  have hN : Calls Tryd.prog 5 #[siteV 1 0 1 2 0, lv, .slice (some ⟨W3.heap.size, 0, none⟩) 1 1] (W3.alloc (.cells #[.int .u64 8] 22)) (NewPost 1 0 1 2 0 [7, 8] true (W3.alloc (.cells #[.int .u64 8] 22))) :=
    newYes 1 0 1 2 0 8 (by omega) lv [7] W3.heap.size _ (HBD.out.but (S := fun b => w.heap.size ≤ b) (But.of_below (HB3.out.alloc (by omega) _)) (by omega)) rfl ((hown3.rd (by simp)).below (Below.alloc (Below.refl _ _) (Nat.le_refl _) _)) (by simp) (by simp) (by simp [go_sem]) (by omega)
  clear hb3 hown3
  unfold siteV at hN
  go_wp2_with fail
  (with_reducible refine hN.mono ?_)
  rintro e W4 ⟨Y, N, wv2, rv2, rfl, hb4, hx4, hY, hN2, hrv⟩
  have hrv := hrv rfl
  subst hrv
  simp only [if_true, World.size_alloc] at hx4 hY hN2
  have hs4 := hb4.size
  simp only [World.size_alloc] at hs4
  clear hN c0 f0 c1 f1 c2 f2 c3 f3 c4 f4
  have hA4 : Calls Tryd.prog 8 #[.pointer (some ⟨Y, 0, none⟩)] W4 (Ret (.tuple #[.agg #[.int .i64 1, .int .u64 1, .int .i64 3, .int .u64 0, .int .u64 0], .bool true]) W4) := act_any hx4 (by omega)
  have HB4 : Hid (Below w.heap.size w W4) := Lib.hid ((HB3.out.alloc (by omega) _).trans (hb4.mono (by simp only [World.size_alloc]; omega)))
  have HL4 : Hid (Rd W4 .u64 lv [7]) := Lib.hid (((HL3.out.rd (by simp)).below (Below.alloc (Below.refl _ _) (Nat.le_refl _) _)).below hb4)
  have HX4 : Hid (XS W4 Y N W4.heap.size 1 0 1 2 0 wv2 (.slice none 0 0) [7, 8] [] [] true 0 0) := Lib.hid hx4
  have hlvb : Hid (∀ g, lv.ownBlock = some g → g < W3.heap.size) := Lib.hid fun g hg => (HL3.out.base g hg).2
  clear hb4 hx4
  go_wp2_with fail
  (with_reducible refine hA4.mono ?_)
  rintro e W5 ⟨rfl, hb5⟩
  clear hA4
  go_upto_region 5 with fail
  have hs5 := hb5.size
  refine wp_world (fun W => Below W4.heap.size W4 W ∧ Cs W W5.heap.size 0 [.int .i64 1, .int .u64 1, .int .i64 3, .int .u64 0, .int .u64 0]) ⟨hb5.alloc (by omega) _, Cs.at rfl rfl⟩ ?_
  clear hb5
  rintro W6 ⟨hb6, k6⟩
  have hs6 := hb6.size
  have hs65 := k6.lt
  have HK6 : Hid (Cs W6 W5.heap.size 0 [.int .i64 1, .int .u64 1, .int .i64 3, .int .u64 0, .int .u64 0]) := Lib.hid k6
  have HB6 : Hid (Below w.heap.size w W6) := Lib.hid (HB4.out.trans (hb6.mono (by omega)))
  have HL6 : Hid (Rd W6 .u64 lv [7]) := Lib.hid (HL4.out.below hb6)
  have hx6 := (HX4.out.below hb6).rebase (base' := W6.heap.size) (by omega) (Nat.le_refl _) (fun _ => rfl)
  have hT6 : Calls Tryd.prog 11 #[.pointer (some ⟨Y, 0, none⟩), .int .u64 7] W6 (StPost Y N W6.heap.size 1 0 1 2 0 wv2 [7, 0] [7, 8] true 1 W6) :=
    takeSt (gs := [7, 0]) (n := 0) (T := 1) hx6 ⟨fun q => (by cases q), fun _ _ => ⟨rfl, rfl, rfl, rfl⟩, fun _ q => by omega⟩ (by omega) (by simp) (by simp)
  clear hb6 k6 hx6
  go_wp2_with fail
  (with_reducible refine hT6.mono ?_)
  rintro e W7 ⟨rfl, hb7, rv7, td7, rs7, i7, p7, hx7, hst7⟩
  clear hT6
  obtain ⟨rfl, rfl, hst, rfl⟩ := hst7.done rfl (by omega)
  have hp7 : p7 = 1 := hst.one (.inl ⟨by simp, by simp [inB], by simp [untold, inB]⟩)
  subst hp7
  have HST7 : Hid (St [7, 0] [7, 8] 1 true 1 [7] (kepts [7] [7, 8] 1) 1 1) := Lib.hid hst7
  have HK7 : Hid (Cs W7 W5.heap.size 0 [.int .i64 1, .int .u64 1, .int .i64 3, .int .u64 0, .int .u64 0]) := Lib.hid (HK6.out.but hb7 (fun q => by have := HX4.out.xb; have := HX4.out.mb; rcases q with q | q | q <;> omega))
  have HL7 : Hid (Rd W7 .u64 lv [7]) := Lib.hid (HL6.out.but hb7 (fun g hg q => by have := hlvb.out g hg; rcases q with q | q | q <;> omega))
  have HB7 : Hid (Below w.heap.size w W7) := Lib.hid (HB6.out.trans (sx_new hb7 (by omega) (by omega) (by omega) (by omega)))
  have HX7 : Hid (XS W7 Y N W6.heap.size 1 0 1 2 0 wv2 rv7 [7, 8] (kepts [7] [7, 8] 1) [7] true 1 1) := Lib.hid hx7
  have hA7 : Calls Tryd.prog 8 #[.pointer (some ⟨Y, 0, none⟩)] W7 (Ret (.tuple #[.agg #[.int .i64 6, .int .u64 8, .int .i64 0, .int .u64 0, .int .u64 0], .bool true]) W7) := act_any hx7 (by omega)
  have hs7 := hb7.size
  clear hb7 hx7 hst7 hst
  go_wp2_with fail
  (with_reducible refine hA7.mono ?_)
  rintro e W8 ⟨rfl, hb8⟩
  clear hA7
  go_upto_region 7 with fail
  have hs8 := hb8.size
  refine wp_world (fun W => Below W7.heap.size W7 W ∧ Cs W W8.heap.size 0 [.int .i64 6, .int .u64 8, .int .i64 0, .int .u64 0, .int .u64 0]) ⟨hb8.alloc (by omega) _, Cs.at rfl rfl⟩ ?_
  clear hb8
  rintro W9 ⟨hb9, k9⟩
  have hs9 := hb9.size
  have hs98 := k9.lt
  have HK9 : Hid (Cs W9 W8.heap.size 0 [.int .i64 6, .int .u64 8, .int .i64 0, .int .u64 0, .int .u64 0]) := Lib.hid k9
  have HK9' : Hid (Cs W9 W5.heap.size 0 [.int .i64 1, .int .u64 1, .int .i64 3, .int .u64 0, .int .u64 0]) := Lib.hid (HK7.out.below hb9 (by omega))
  have HB9 : Hid (Below w.heap.size w W9) := Lib.hid (HB7.out.trans (hb9.mono (by omega)))
  have HL9 : Hid (Rd W9 .u64 lv [7]) := Lib.hid (HL7.out.below hb9)
  have hx9 := HX7.out.below hb9
  have HX9 : Hid (XS W9 Y N W6.heap.size 1 0 1 2 0 wv2 rv7 [7, 8] (kepts [7] [7, 8] 1) [7] true 1 1) := Lib.hid hx9
  have hT9 : Calls Tryd.prog 11 #[.pointer (some ⟨Y, 0, none⟩), .int .u64 0] W9 (TePost Y N W6.heap.size 1 0 1 2 0 wv2 rv7 [7, 8] (kepts [7] [7, 8] 1) [7] 1 2 W9) :=
    take_end hx9 (by omega) (by omega) rfl 0
  clear hb9 k9 hx9
  go_wp2_with fail
  (with_reducible refine hT9.mono ?_)
  rintro e W10 ⟨rfl, hb10, hx10⟩
  clear hT9
  have hR10 := result_any hx10 (by omega)
  have hxa : xact 1 1 [7, 8] true 1 2 = (A5.nil, false) := by unfold xact; rw [if_neg (by simp), if_neg (by omega), if_neg (by simp)]
  have hkp : kepts [7] [7, 8] 1 = [7] := by decide
  rw [hxa, hkp] at hR10
  simp only [Bool.not_false, if_false, Bool.false_eq_true] at hR10
  clear hxa hkp
  have hYb := HX4.out.xb
  have HK10 : Hid (Cs W10 W8.heap.size 0 [.int .i64 6, .int .u64 8, .int .i64 0, .int .u64 0, .int .u64 0]) := Lib.hid (HK9.out.but hb10 (by omega))
  have HK10' : Hid (Cs W10 W5.heap.size 0 [.int .i64 1, .int .u64 1, .int .i64 3, .int .u64 0, .int .u64 0]) := Lib.hid (HK9'.out.but hb10 (by omega))
  have HL10 : Hid (Rd W10 .u64 lv [7]) := Lib.hid (HL9.out.but hb10 (fun g hg q => by have := hlvb.out g hg; omega))
  have HB10 : Hid (Below w.heap.size w W10) := Lib.hid (HB9.out.trans (hb10.below (by omega) (fun b q => by omega)))
  have hs10 := hb10.size
  clear hb10 hx10
  go_wp2_with fail
  (with_reducible refine hR10.mono ?_)
  rintro e W11 ⟨mv, rfl, hb11, hown11⟩
  have hs11 := hb11.size
  have HB11 : Hid (Below w.heap.size w W11) := Lib.hid (HB10.out.trans (hb11.mono (by omega)))
  have HK11 : Hid (Cs W11 W8.heap.size 0 [.int .i64 6, .int .u64 8, .int .i64 0, .int .u64 0, .int .u64 0]) := Lib.hid (HK10.out.below hb11 (by omega))
  have HK11' : Hid (Cs W11 W5.heap.size 0 [.int .i64 1, .int .u64 1, .int .i64 3, .int .u64 0, .int .u64 0]) := Lib.hid (HK10'.out.below hb11 (by omega))
  have HL11 : Hid (Rd W11 .u64 lv [7]) := Lib.hid (HL10.out.below hb11)
  have HM11 : Hid (Rd W11 .u64 mv [7]) := Lib.hid (hown11.rd (by simp))
  clear hb11 hown11 hR10
  have hT11 := take_nil 1 W11
  go_wp2_with fail
  (with_reducible refine hT11.mono ?_)
  rintro e W12 ⟨rfl, hb12⟩
  have hR12 := result_nil W12
  have hs12 := hb12.size
  clear hT11
  go_wp2_with fail
  (with_reducible refine hR12.mono ?_)
  rintro e W13 ⟨nv, rfl, hb13, hown13⟩
  have hs13 := hb13.size
  have hb113 : Below W11.heap.size W11 W13 := hb12.trans (hb13.mono hs12)
  have HB13 : Hid (Below w.heap.size w W13) := Lib.hid (HB11.out.trans (hb113.mono (by omega)))
  have hk13 := HK11.out.below hb113 (by omega)
  have hk13' := HK11'.out.below hb113 (by omega)
  have HL13 : Hid (Rd W13 .u64 lv [7]) := Lib.hid (HL11.out.below hb113)
  have HM13 : Hid (Rd W13 .u64 mv [7]) := Lib.hid (HM11.out.below hb113)
  simp only [Cs, Nat.zero_add, Nat.reduceAdd] at hk13 hk13'
  obtain ⟨d0, _, d1, _, d2, _, d3, _, d4, _, _⟩ := hk13
  obtain ⟨e0, _, e1, _, e2, _, e3, _, e4, _, _⟩ := hk13'
  have W1d : Hid (∀ W, Below W13.heap.size W13 W → Calls Tryd.prog 12 #[lv, .slice (some ⟨W.heap.size, 0, none⟩) 1 1] (W.alloc (.cells #[.int .u64 7] 22)) (Ret (.bool true) (W.alloc (.cells #[.int .u64 7] 22)))) := Lib.hid fun W hb => words_any lv _ [7] [7] _ ((HL13.out.below hb).below (Below.alloc (Below.refl _ _) (Nat.le_refl _) _)) (Rd.new W .u64 [7] 22 (by simp))
  have W2d : Hid (∀ W, Below W13.heap.size W13 W → Calls Tryd.prog 12 #[mv, .slice (some ⟨W.heap.size, 0, none⟩) 1 1] (W.alloc (.cells #[.int .u64 7] 22)) (Ret (.bool true) (W.alloc (.cells #[.int .u64 7] 22)))) := Lib.hid fun W hb => words_any mv _ [7] [7] _ ((HM13.out.below hb).below (Below.alloc (Below.refl _ _) (Nat.le_refl _) _)) (Rd.new W .u64 [7] 22 (by simp))
  clear hb12 hb13 hown13 hR12 hb113
  have hw1 := W1d.out W13 (Below.refl _ _)
  go_wp2_with fail
  (with_reducible refine hw1.mono ?_)
  rintro e W14 ⟨rfl, hb14⟩
  have hs14 := hb14.size
  simp only [World.size_alloc] at hs14
  have hb14' : Below W13.heap.size W13 W14 := ((Below.refl _ W13).alloc (Nat.le_refl _) _).trans (hb14.mono (by simp))
  have hw2 := W2d.out W14 hb14'
  have d0' := bel_cell hb14' d0
  have d1' := bel_cell hb14' d1
  have d2' := bel_cell hb14' d2
  have d3' := bel_cell hb14' d3
  have d4' := bel_cell hb14' d4
  have e0' := bel_cell hb14' e0
  have e1' := bel_cell hb14' e1
  have e2' := bel_cell hb14' e2
  have e3' := bel_cell hb14' e3
  have e4' := bel_cell hb14' e4
  have HB14 : Hid (Below w.heap.size w W14) := Lib.hid (HB13.out.trans (hb14'.mono (by omega)))
  clear hw1 hb14 hb14' d0 d1 d2 d3 d4 e0 e1 e2 e3 e4
  go_wp2_with fail
  (with_reducible refine hw2.mono ?_)
  rintro e W15 ⟨rfl, hb15⟩
  have HB15 : Hid (Below w.heap.size w W15) := Lib.hid ((HB14.out.alloc (by omega) _).trans (hb15.mono (by simp only [World.size_alloc]; omega)))
  clear hb15 hw2
  go_wp2_with fail
  go_returns
  exact ⟨rfl, HB15.out⟩
end Go.Proofs.YtaclkachohkenaaDoor
