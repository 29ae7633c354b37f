import Derived.Test.YtaclkachohkenaaDoorRetW
set_option linter.unusedVariables false
set_option linter.unusedSimpArgs false
namespace Go.Proofs.YtaclkachohkenaaDoor
open Go.RowKit Go.Maps

abbrev siteC (D th T K sd : Int) : List Value := [.int .u64 D, .int .i64 th, .int .i64 T, .int .i64 K, .int .u64 sd]

theorem mem_wf {gs : List Int} (h : ∀ u ∈ gs, 0 ≤ u ∧ u < 18446744073709551616) {j : Nat} (hj : j < gs.length) : 0 ≤ gs[j]?.getD 0 ∧ gs[j]?.getD 0 < 18446744073709551616 := by
  rw [List.getElem?_eq_getElem hj]
  exact h _ (List.getElem_mem hj)

/-- What both makers leave, ahead of the two goes. -/
def Two (D th : Int) (T : Nat) (K sd : Int) (ks : List Int) (m : Int) (w0 w : World) (b0 X Y : Nat) : Prop :=
  Below w0.heap.size w0 w ∧ Cs w b0 0 (siteC D th T K sd) ∧ w0.heap.size ≤ X ∧ w0.heap.size ≤ Y

set_option maxRecDepth 100000 in
set_option maxHeartbeats 8000000 in
theorem retireActs_any (D th T K sd : Int) (h0 : 0 ≤ D) (kv : Value) (ks gs : List Int) (a : Option Addr) (N cp : Nat) (w : World) (hB : Bd w) (hk : Rd w .u64 kv ks) (hkn : ∀ g, kv.ownBlock = some g → g < w.heap.size)
    (hkw : ∀ u ∈ ks, 0 ≤ u ∧ u < 18446744073709551616) (hg : Rd w .u64 (.slice a N cp) gs) (hcp : N ≤ cp) (hgn : ∀ g, (Value.slice a N cp).ownBlock = some g → g < w.heap.size) (hgw : ∀ u ∈ gs, 0 ≤ u ∧ u < 18446744073709551616) :
    Calls Tryd.prog 3 #[siteV D th T K sd, kv, .slice a N cp] w (Ret (.bool true) w) := by
  have hb0 : 0 < w.heap.size := World.block_lt_of_cell? w _ hB.1
  have hgl : gs.length = N := by
    obtain ⟨_, _, _, he, hl, _⟩ := hg
    injection he with e1 e2 e3
    omega
  have hkl : ∃ a' n' c', kv = .slice a' n' c' ∧ ks.length = n' := by
    obtain ⟨a', n', c', he, hl, _⟩ := hk
    exact ⟨a', n', c', he, hl⟩
  obtain ⟨a', n', c', rfl, hkl⟩ := hkl
  have HBD : Hid (Bd w) := Lib.hid hB
  have HK : Hid (Rd w .u64 (.slice a' n' c') ks) := Lib.hid hk
  have HG : Hid (Rd w .u64 (.slice a N cp) gs) := Lib.hid hg
  have HKN : Hid (∀ g, (Value.slice a' n' c').ownBlock = some g → g < w.heap.size) := Lib.hid hkn
  have HGN : Hid (∀ g, (Value.slice a N cp).ownBlock = some g → g < w.heap.size) := Lib.hid hgn
  have HKW : Hid (∀ u ∈ ks, 0 ≤ u ∧ u < 18446744073709551616) := Lib.hid hkw
  have HGW : Hid (∀ u ∈ gs, 0 ≤ u ∧ u < 18446744073709551616) := Lib.hid hgw
  have HKL : Hid (ks.length = n') := Lib.hid hkl
  have HGL : Hid (gs.length = N) := Lib.hid hgl
  have hA : Hid (∀ W, Below w.heap.size w W → Calls Tryd.prog 4 #[] W (Ret (.bool true) W)) := Lib.hid fun W hb => awake_any W (hB.but (S := fun b => w.heap.size ≤ b) (But.of_below hb) (by omega))
  clear hB hk hg hkn hgn hkw hgw hkl hgl
  unfold siteV
  have bA : Below w.heap.size w (w.alloc (.cells #[.int .u64 D, .int .i64 th, .int .i64 T, .int .i64 K, .int .u64 sd] 24)) := Below.alloc (Below.refl _ _) (Nat.le_refl _) _
  have hA1 := hA.out _ bA
  by_cases h70 : (70 : Int) < (n' : Int)
  · clear bA
    go_enter Tryd.func3, Tryd.ntmps3
    go_wp2_with fail
    (with_reducible refine hA1.mono ?_)
    rintro e w1 ⟨rfl, hb1⟩
    go_wp2
    go_returns
    exact Ret.mk' rfl (bel_after (by (repeat' (first | (with_reducible exact Below.refl _ _) | (with_reducible assumption) | (with_reducible refine Below.alloc ?_ ?_ _) | (with_reducible refine Below.drew ?_) | (with_reducible refine bel_drewN ?_ _) | (with_reducible refine Below.setCell ?_ ?_ _) | (with_reducible refine bel_after ?_ (by assumption)) | (exact Below.size (by assumption)) | omega | (simp only [World.size_alloc, World.size_setCell, World.size_drew, size_drewN] at *; omega)))) hb1)
  by_cases h150 : (150 : Int) < (N : Int)
  · clear bA
    go_enter Tryd.func3, Tryd.ntmps3
    go_wp2_with fail
    (with_reducible refine hA1.mono ?_)
    rintro e w1 ⟨rfl, hb1⟩
    go_wp2
    go_returns
    exact Ret.mk' rfl (bel_after (by (repeat' (first | (with_reducible exact Below.refl _ _) | (with_reducible assumption) | (with_reducible refine Below.alloc ?_ ?_ _) | (with_reducible refine Below.drew ?_) | (with_reducible refine bel_drewN ?_ _) | (with_reducible refine Below.setCell ?_ ?_ _) | (with_reducible refine bel_after ?_ (by assumption)) | (exact Below.size (by assumption)) | omega | (simp only [World.size_alloc, World.size_setCell, World.size_drew, size_drewN] at *; omega)))) hb1)
  have hcells : (0 : Int) < (N : Int) → ∃ b off, a = some ⟨b, off, none⟩ ∧ (w.alloc (.cells #[.int .u64 D, .int .i64 th, .int .i64 T, .int .i64 K, .int .u64 sd] 24)).cell? ⟨b, off, none⟩ = some (.int .u64 (gs[0]?.getD 0)) := by
    intro hp
    have hr := HG.out.below bA
    obtain ⟨x1, x2, x3, he, hl, _, hc⟩ := hr
    injection he with e1 e2 e3
    subst e1 e2 e3
    obtain ⟨b, off, hx, hc⟩ := hc (by omega)
    exact ⟨b, off, hx, hc 0 (by omega)⟩
  clear hA1
  have hm0 : ∃ m : Int, 0 ≤ m ∧ m < 8 ∧ (N = 0 → m = 0) ∧ (0 < N → m = (gs[0]?.getD 0) % 8) := by
    by_cases hN0 : N = 0
    · exact ⟨0, by omega, by omega, fun _ => rfl, fun _ => by omega⟩
    · exact ⟨(gs[0]?.getD 0) % 8, by omega, by omega, fun _ => by omega, fun _ => rfl⟩
  by_cases hN0 : (0 : Int) < (N : Int)
  · obtain ⟨b, off, rfl, d0⟩ := hcells hN0
    have hw0 := mem_wf HGW.out (j := 0) (by have := HGL.out; omega)
    generalize gs[0]?.getD 0 = g0 at d0 hw0
    clear hm0
    obtain ⟨hw1, hw2⟩ := hw0
    have hN1 : 0 < N := by omega
    go_enter Tryd.func3, Tryd.ntmps3
    go_upto_region 6 with fail
    clear d0 hcells
    refine wp_world (fun W => Below w.heap.size w W ∧ Cs W w.heap.size 0 (siteC D th T K sd)) ⟨by (repeat' (first | (with_reducible exact Below.refl _ _) | (with_reducible assumption) | (with_reducible refine Below.alloc ?_ ?_ _) | (with_reducible refine Below.drew ?_) | (with_reducible refine bel_drewN ?_ _) | (with_reducible refine Below.setCell ?_ ?_ _) | (with_reducible refine bel_after ?_ (by assumption)) | (exact Below.size (by assumption)) | omega | (simp only [World.size_alloc, World.size_setCell, World.size_drew, size_drewN] at *; omega))), Cs.at rfl rfl⟩ ?_
    clear bA
    rintro W1 ⟨hb1, k1⟩
    have HB1 : Hid (Below w.heap.size w W1) := Lib.hid hb1
    have hs1 : w.heap.size < W1.heap.size := k1.lt
    have hbd := HBD.out.but (S := fun b => w.heap.size ≤ b) (But.of_below hb1) (by omega)
    have hkr := HK.out.below hb1
    simp only [Cs, Nat.zero_add, Nat.reduceAdd] at k1
    obtain ⟨c0, f0, c1, f1, c2, f2, c3, f3, c4, f4, _⟩ := k1
    have nA : ∀ o : Obj, Below W1.heap.size W1 ((W1.alloc o).drew) := fun o => Below.drew (Below.alloc (Below.refl W1.heap.size W1) (Nat.le_refl _) o)
    have NA : Hid (∀ o : Obj, Below W1.heap.size W1 ((W1.alloc o).drew)) := Lib.hid nA
    have KA : Hid (∀ w3, Below W1.heap.size W1 w3 → w3.cell? ⟨w.heap.size, 0, none⟩ = some (.int .u64 D) ∧ w3.cell? ⟨w.heap.size, 1, none⟩ = some (.int .i64 th) ∧ w3.cell? ⟨w.heap.size, 2, none⟩ = some (.int .i64 T) ∧ w3.cell? ⟨w.heap.size, 3, none⟩ = some (.int .i64 K) ∧ w3.cell? ⟨w.heap.size, 4, none⟩ = some (.int .u64 sd)) := Lib.hid fun w3 hb => ⟨bel_cell hb c0, bel_cell hb c1, bel_cell hb c2, bel_cell hb c3, bel_cell hb c4⟩
    have NB : Hid (∀ o w3, Below ((W1.alloc o).drew).heap.size ((W1.alloc o).drew) w3 → Below W1.heap.size W1 w3) := Lib.hid fun o w3 hb => (nA o).trans (hb.mono (nA o).size)
    cases hs : siteOk D th T K with
    | true =>
      have hN : Calls Tryd.prog 5 #[siteV D th T K sd, .slice a' n' c', .slice (some ⟨W1.heap.size, 0, none⟩) 1 1] ((W1.alloc (.cells #[.int .u64 (g0 % 8)] 22)).drew) (NewPost D th T K sd (alls ks (g0 % 8)) (decide (K ≤ ((alls ks (g0 % 8)).length : Int))) ((W1.alloc (.cells #[.int .u64 (g0 % 8)] 22)).drew)) :=
        newYes D th T K sd (g0 % 8) h0 _ ks W1.heap.size _ (hbd.below (nA _)) hs (hkr.below (nA _)) (by have := HKL.out; omega) HKW.out (by simp [go_sem]) (by omega)
      have HLk : Hid (∀ w3, Below W1.heap.size W1 w3 → Calls Tryd.prog 6 #[siteV D th T K sd, .slice a' n' c'] w3 (LkPost D th T K sd ks w3)) := Lib.hid fun w3 hb => lookYes D th T K sd h0 _ ks w3 (hbd.below hb) hs (hkr.below hb) (by have := HKL.out; omega) HKW.out
      unfold siteV at hN HLk
      clear hbd hkr nA hb1
      have HS : Hid (siteOk D th T K = true) := Lib.hid hs
      generalize hws : alls ks (g0 % 8) = ws at hN
      have HWS : Hid (alls ks (g0 % 8) = ws) := Lib.hid hws
      clear hws hs
      generalize hlk : decide (K ≤ (ws.length : Int)) = lk at hN
      have HLK : Hid (decide (K ≤ (ws.length : Int)) = lk) := Lib.hid hlk
      clear hlk
      go_region_held3 (fun w' => w'.cell? ⟨w.heap.size, 0, none⟩ = some (.int .u64 D) ∧ w'.cell? ⟨w.heap.size, 1, none⟩ = some (.int .i64 th) ∧ w'.cell? ⟨w.heap.size, 2, none⟩ = some (.int .i64 T) ∧ w'.cell? ⟨w.heap.size, 3, none⟩ = some (.int .i64 K) ∧ w'.cell? ⟨w.heap.size, 4, none⟩ = some (.int .u64 sd)) (first | assumption | (exact KA.out _ (NA.out _)) | (exact KA.out _ (NB.out _ _ hb3)) | (exact KA.out _ ((NB.out _ _ hb3).trans (hb4.mono (NB.out _ _ hb3).size))) | go_keep) (first | (go_at_call 5; (with_reducible refine hN.mono ?_); rintro e w3 ⟨X, M, wv, rv, rfl, hb3, hx3, hX3, hM3, hrv3⟩) | (go_at_call 6; (with_reducible refine (HLk.out _ (NB.out _ _ hb3)).mono ?_); rintro e w4 ⟨Y, M2, wv2, n2, G2, rfl, hb4, hx4, hn4⟩))
      have hs3 := (NB.out _ _ hb3).size
      have hs4 := hb4.size
      have hX3' : W1.heap.size ≤ X := Nat.le_trans (NA.out (.cells #[.int .u64 (g0 % 8)] 22)).size hX3
      have hM3' : W1.heap.size ≤ M := Nat.le_trans (NA.out (.cells #[.int .u64 (g0 % 8)] 22)).size hM3
      have hb14 : Below W1.heap.size W1 w4 := (NB.out _ _ hb3).trans (hb4.mono hs3)
      go_upto_region 7 with fail
      refine wp_world (fun W => Below w.heap.size w W ∧ Cs W w.heap.size 0 (siteC D th T K sd) ∧ XS W X M w3.heap.size D th T K sd wv rv ws (if lk then [] else ws) [] lk 0 0 ∧ XB W Y M2 w3.heap.size D th T K sd wv2 ks (decide (0 < (ks.length : Int))) n2 G2 ks ∧ w3.heap.size ≤ W.heap.size) ⟨HB1.out.trans (hb14.mono (by omega)), by have := KA.out w4 hb14; simp only [Cs, Nat.zero_add, Nat.reduceAdd]; exact ⟨this.1, (hb14.frozen (p := ⟨w.heap.size, 0, none⟩) hs1).trans f0, this.2.1, (hb14.frozen (p := ⟨w.heap.size, 1, none⟩) hs1).trans f1, this.2.2.1, (hb14.frozen (p := ⟨w.heap.size, 2, none⟩) hs1).trans f2, this.2.2.2.1, (hb14.frozen (p := ⟨w.heap.size, 3, none⟩) hs1).trans f3, this.2.2.2.2, (hb14.frozen (p := ⟨w.heap.size, 4, none⟩) hs1).trans f4, trivial⟩, hx3.below hb4, hx4, hs4⟩ ?_
      have hMY : w3.heap.size ≤ Y := hx4.xb
      have hMM : w3.heap.size ≤ M2 := hx4.mb
      have hXl := hx3.xb
      have hMl := hx3.mb
      clear hb3 hx3 hb4 hx4 hb14 KA NA NB HLk hN c0 f0 c1 f1 c2 f2 c3 f3 c4 f4
      rintro W5 ⟨hb5, k5, hx5, hy5, hs5⟩
      have HB5 : Hid (Below w.heap.size w W5) := Lib.hid hb5
      have HK5 : Hid (Cs W5 w.heap.size 0 (siteC D th T K sd)) := Lib.hid k5
      have HX5 : Hid (XS W5 X M w3.heap.size D th T K sd wv rv ws (if lk then [] else ws) [] lk 0 0) := Lib.hid hx5
      have HY5 : Hid (XB W5 Y M2 w3.heap.size D th T K sd wv2 ks (decide (0 < (ks.length : Int))) n2 G2 ks) := Lib.hid hy5
      simp only [Cs, Nat.zero_add, Nat.reduceAdd] at k5
      obtain ⟨c0, f0, c1, f1, c2, f2, c3, f3, c4, f4, _⟩ := k5
      have hRt := refRight_any D th T K sd h0 W5
      rw [HS.out] at hRt
      unfold siteV at hRt
      clear hb5 hx5 hy5
      go_wp2_with fail
      (with_reducible refine hRt.mono ?_)
      rintro e W6 ⟨rfl, hb6⟩
      clear hRt c0 f0 c1 f1 c2 f2 c3 f3 c4 f4
      have hs6 := hb6.size
      have HB6 : Hid (Below w.heap.size w W6) := Lib.hid (HB5.out.trans (hb6.mono (by omega)))
      have k6 := HK5.out.below hb6 (by omega)
      have HK6 : Hid (Cs W6 w.heap.size 0 (siteC D th T K sd)) := Lib.hid k6
      have HX6 : Hid (XS W6 X M w3.heap.size D th T K sd wv rv ws (if lk then [] else ws) [] lk 0 0) := Lib.hid (HX5.out.below hb6)
      have HY6 : Hid (XB W6 Y M2 w3.heap.size D th T K sd wv2 ks (decide (0 < (ks.length : Int))) n2 G2 ks) := Lib.hid (HY5.out.below hb6)
      simp only [Cs, Nat.zero_add, Nat.reduceAdd] at k6
      obtain ⟨c0, f0, c1, f1, c2, f2, c3, f3, c4, f4, _⟩ := k6
      have hok := siteOk_of HS.out
      obtain ⟨Tn, hTn⟩ : ∃ Tn : Nat, Hid (T = (Tn : Int)) := ⟨T.toNat, Lib.hid (by omega)⟩
      have hAx : Calls Tryd.prog 10 #[.pointer (some ⟨X, 0, none⟩), siteV D th T K sd, .slice a' n' c', .int .u64 (g0 % 8), .bool false, .slice (some ⟨b, off, none⟩) N cp] W6 fun e w' => e = .returned (.bool true) ∧ But (fun b => b = X ∨ b = M) W6 w' := by
        have hx := HX6.out
        have eT := hTn.out
        rw [eT] at hx ⊢
        refine acts_any X M w3.heap.size D th K sd (g0 % 8) Tn wv rv _ ks gs ws _ lk false _ N cp W6 hx ?_ ?_ (by omega) (by omega) ?_ (HK.out.below HB6.out) (by have := HKL.out; omega) (fun g hg => by have := HKN.out g hg; omega) (HG.out.below HB6.out) hcp (by omega) (fun g hg => by have := HGN.out g hg; omega) HGW.out (fun q => by cases q) (fun _ => ⟨HWS.out.symm, HLK.out.symm⟩)
        · exact hrv3
        · refine ⟨fun q => ⟨rfl, rfl, ?_⟩, fun q _ => ⟨rfl, rfl, ?_, rfl⟩, fun q h => by omega⟩
          · rw [q]; rfl
          · rw [q]; rfl
        · intro q e
          have := HLK.out
          rw [q, e] at this
          have := of_decide_eq_true this
          simp at this
          omega
      unfold siteV at hAx
      clear hok
      go_wp2_with fail
      (with_reducible refine hAx.mono ?_)
      rintro e W7 ⟨rfl, hb7⟩
      clear hAx c0 f0 c1 f1 c2 f2 c3 f3 c4 f4
      have hs7 := hb7.size
      have HB7 : Hid (Below w.heap.size w W7) := Lib.hid (HB6.out.trans (hb7.below (by omega) (fun i q => by omega)))
      have k7 := HK6.out.but hb7 (by omega)
      have HK7 : Hid (Cs W7 w.heap.size 0 (siteC D th T K sd)) := Lib.hid k7
      have hy7 : XS W7 Y M2 W7.heap.size D th T K sd wv2 (.slice none 0 0) ks [] [] (decide (0 < (ks.length : Int))) 0 0 := by
        have hy := HY6.out
        have hy2 : XB W7 Y M2 w3.heap.size D th T K sd wv2 ks (decide (0 < (ks.length : Int))) n2 G2 ks :=
          ⟨hy.cs.but hb7 (by omega), hy.own.but hb7 (fun g hg q => by have := (hy.own.base g hg).1; omega), hb7.map hy.mp (by omega), hy.at1, hy.ne, hy.wx, hy.xb, hy.mb⟩
        have hl := HKL.out
        refine hy2.done (But.refl _ _) hy2.cs ?_ (by omega) HKW.out
        cases hd : decide (0 < (ks.length : Int)) with
        | true => exact .inl ⟨rfl, rfl, rfl⟩
        | false => exact .inr (.inr ⟨rfl, rfl, rfl⟩)
      simp only [Cs, Nat.zero_add, Nat.reduceAdd] at k7
      obtain ⟨c0, f0, c1, f1, c2, f2, c3, f3, c4, f4, _⟩ := k7
      have hAy : Calls Tryd.prog 10 #[.pointer (some ⟨Y, 0, none⟩), siteV D th T K sd, .slice a' n' c', .int .u64 0, .bool true, .slice (some ⟨b, off, none⟩) N cp] W7 fun e w' => e = .returned (.bool true) ∧ But (fun b => b = Y ∨ b = M2) W7 w' := by
        have hok := siteOk_of HS.out
        have eT := hTn.out
        rw [eT] at hy7 ⊢
        have hl := HKL.out
        refine acts_any Y M2 W7.heap.size D th K sd 0 Tn wv2 (.slice none 0 0) _ ks gs ks [] (decide (0 < (ks.length : Int))) true _ N cp W7 hy7 (fun _ => rfl) ?_ (by omega) (by omega) ?_ (HK.out.below HB7.out) (by omega) (fun g hg => by have := HKN.out g hg; omega) (HG.out.below HB7.out) hcp (by omega) (fun g hg => by have := HGN.out g hg; omega) HGW.out (fun _ => ⟨rfl, rfl⟩) (fun q => by cases q)
        · refine ⟨fun q => ⟨rfl, rfl, ?_⟩, fun q _ => ⟨rfl, rfl, rfl, rfl⟩, fun q h => by omega⟩
          have := of_decide_eq_false q
          have : ks.length = 0 := by omega
          exact (List.length_eq_zero_iff.1 this).symm
        · intro q e
          have := of_decide_eq_true q
          rw [e] at this
          simp at this
      unfold siteV at hAy
      clear hb7 hy7
      go_wp2_with fail
      (with_reducible refine hAy.mono ?_)
      rintro e W8 ⟨rfl, hb8⟩
      clear hAy c0 f0 c1 f1 c2 f2 c3 f3 c4 f4
      have hb8' : Below w.heap.size w W8 := HB7.out.trans (hb8.below (by omega) (fun i q => by omega))
      have hA8 := hA.out W8 hb8'
      clear hb8
      go_wp2_with fail
      (with_reducible refine hA8.mono ?_)
      rintro e W9 ⟨rfl, hb9⟩
      go_wp2
      go_returns
      exact Ret.mk' rfl (bel_after hb8' hb9)
    | false =>
      have hN : Calls Tryd.prog 5 #[siteV D th T K sd, .slice a' n' c', .slice (some ⟨W1.heap.size, 0, none⟩) 1 1] ((W1.alloc (.cells #[.int .u64 (g0 % 8)] 22)).drew) (NoPost ((W1.alloc (.cells #[.int .u64 (g0 % 8)] 22)).drew)) :=
        newNo D th T K sd (g0 % 8) h0 _ W1.heap.size _ (hbd.below (nA _)) hs (by simp [go_sem])
      have HLk : Hid (∀ w3, Below W1.heap.size W1 w3 → Calls Tryd.prog 6 #[siteV D th T K sd, .slice a' n' c'] w3 (NoPost w3)) := Lib.hid fun w3 hb => lookNo D th T K sd h0 _ w3 (hbd.below hb) hs
      unfold siteV at hN HLk
      clear hbd hkr nA hb1
      have HS : Hid (siteOk D th T K = false) := Lib.hid hs
      clear hs
      go_region_held3 (fun w' => w'.cell? ⟨w.heap.size, 0, none⟩ = some (.int .u64 D) ∧ w'.cell? ⟨w.heap.size, 1, none⟩ = some (.int .i64 th) ∧ w'.cell? ⟨w.heap.size, 2, none⟩ = some (.int .i64 T) ∧ w'.cell? ⟨w.heap.size, 3, none⟩ = some (.int .i64 K) ∧ w'.cell? ⟨w.heap.size, 4, none⟩ = some (.int .u64 sd)) (first | assumption | (exact KA.out _ (NA.out _)) | (exact KA.out _ (NB.out _ _ hb3)) | (exact KA.out _ ((NB.out _ _ hb3).trans (hb4.mono (NB.out _ _ hb3).size))) | go_keep) (first | (go_at_call 5; (with_reducible refine hN.mono ?_); rintro e w3 ⟨X, rfl, hb3, hx3, hX3⟩) | (go_at_call 6; (with_reducible refine (HLk.out _ (NB.out _ _ hb3)).mono ?_); rintro e w4 ⟨Y, rfl, hb4, hx4, hX4⟩))
      have hs3 := (NB.out _ _ hb3).size
      have hs4 := hb4.size
      have hb14 : Below W1.heap.size W1 w4 := (NB.out _ _ hb3).trans (hb4.mono hs3)
      go_upto_region 7 with fail
      refine wp_world (fun W => Below w.heap.size w W ∧ (W.cell? ⟨w.heap.size, 0, none⟩ = some (.int .u64 D) ∧ W.cell? ⟨w.heap.size, 1, none⟩ = some (.int .i64 th) ∧ W.cell? ⟨w.heap.size, 2, none⟩ = some (.int .i64 T) ∧ W.cell? ⟨w.heap.size, 3, none⟩ = some (.int .i64 K) ∧ W.cell? ⟨w.heap.size, 4, none⟩ = some (.int .u64 sd)) ∧ Cs W X 0 zeroX ∧ Cs W Y 0 zeroX ∧ w.heap.size ≤ W.heap.size) ⟨HB1.out.trans (hb14.mono (by omega)), KA.out w4 hb14, hx3.below hb4 hx3.lt, hx4, by omega⟩ ?_
      clear hb3 hx3 hb4 hx4 hb14 KA NA NB HLk hN c0 f0 c1 f1 c2 f2 c3 f3 c4 f4
      rintro W5 ⟨hb5, k5, hx5, hy5, hs5⟩
      have HB5 : Hid (Below w.heap.size w W5) := Lib.hid hb5
      have HX5 : Hid (Cs W5 X 0 zeroX) := Lib.hid hx5
      have HY5 : Hid (Cs W5 Y 0 zeroX) := Lib.hid hy5
      obtain ⟨c0, c1, c2, c3, c4⟩ := k5
      have hRt := refRight_any D th T K sd h0 W5
      rw [HS.out] at hRt
      unfold siteV at hRt
      clear hb5 hx5 hy5
      go_wp2_with fail
      (with_reducible refine hRt.mono ?_)
      rintro e W6 ⟨rfl, hb6⟩
      clear hRt c0 c1 c2 c3 c4
      have hs6 := hb6.size
      have HB6 : Hid (Below w.heap.size w W6) := Lib.hid (HB5.out.trans (hb6.mono (by omega)))
      have HX6 : Hid (Cs W6 X 0 zeroX) := Lib.hid (HX5.out.below hb6 HX5.out.lt)
      have HY6 : Hid (Cs W6 Y 0 zeroX) := Lib.hid (HY5.out.below hb6 HY5.out.lt)
      have hA6 := act_none X W6 (by have := HX6.out; simp only [Cs, Nat.zero_add, Nat.reduceAdd] at this; exact this.2.2.2.2.2.2.2.2.2.2.2.2.1)
      simp only [A5.val, A5.nil] at hA6
      go_wp2_with fail
      (with_reducible refine hA6.mono ?_)
      rintro e W7 ⟨rfl, hb7⟩
      clear hA6 hb6
      go_upto_region 9 with fail
      have hs7 := hb7.size
      refine wp_world (fun W => Below w.heap.size w W ∧ Cs W X 0 zeroX ∧ Cs W Y 0 zeroX ∧ w.heap.size ≤ W.heap.size) ⟨(HB6.out.trans (hb7.mono (by omega))).alloc (by omega) _, (HX6.out.below hb7 HX6.out.lt).below (Below.alloc (Below.refl _ _) (Nat.le_refl _) _) (by have := HX6.out.lt; omega), (HY6.out.below hb7 HY6.out.lt).below (Below.alloc (Below.refl _ _) (Nat.le_refl _) _) (by have := HY6.out.lt; omega), by simp only [World.size_alloc]; omega⟩ ?_
      clear hb7
      rintro W8 ⟨hb8, hx8, hy8, hs8⟩
      have HB8 : Hid (Below w.heap.size w W8) := Lib.hid hb8
      have HX8 : Hid (Cs W8 X 0 zeroX) := Lib.hid hx8
      have HY8 : Hid (Cs W8 Y 0 zeroX) := Lib.hid hy8
      have hR8 := result_none X W8 (by simp only [Cs, Nat.zero_add, Nat.reduceAdd] at hx8; exact hx8.2.2.2.2.2.2.2.2.2.2.1)
      clear hb8 hx8 hy8
      go_wp2_with fail
      (with_reducible refine hR8.mono ?_)
      rintro e W9 ⟨v9, rfl, hb9, hown9⟩
      clear hR8 hown9
      have hs9 := hb9.size
      have HB9 : Hid (Below w.heap.size w W9) := Lib.hid (HB8.out.trans (hb9.mono (by omega)))
      have HY9 : Hid (Cs W9 Y 0 zeroX) := Lib.hid (HY8.out.below hb9 HY8.out.lt)
      have hA9 := act_none Y W9 (by have := HY9.out; simp only [Cs, Nat.zero_add, Nat.reduceAdd] at this; exact this.2.2.2.2.2.2.2.2.2.2.2.2.1)
      simp only [A5.val, A5.nil] at hA9
      clear hb9
      go_wp2_with fail
      (with_reducible refine hA9.mono ?_)
      rintro e W10 ⟨rfl, hb10⟩
      clear hA9
      go_upto_region 11 with fail
      have hs10 := hb10.size
      refine wp_world (fun W => Below w.heap.size w W ∧ Cs W Y 0 zeroX ∧ w.heap.size ≤ W.heap.size) ⟨(HB9.out.trans (hb10.mono (by omega))).alloc (by omega) _, (HY9.out.below hb10 HY9.out.lt).below (Below.alloc (Below.refl _ _) (Nat.le_refl _) _) (by have := HY9.out.lt; omega), by simp only [World.size_alloc]; omega⟩ ?_
      clear hb10
      rintro W11 ⟨hb11, hy11, hs11⟩
      have HB11 : Hid (Below w.heap.size w W11) := Lib.hid hb11
      have hR11 := result_none Y W11 (by simp only [Cs, Nat.zero_add, Nat.reduceAdd] at hy11; exact hy11.2.2.2.2.2.2.2.2.2.2.1)
      clear hb11 hy11
      go_wp2_with fail
      (with_reducible refine hR11.mono ?_)
      rintro e W12 ⟨v12, rfl, hb12, hown12⟩
      clear hR11 hown12
      have hb12' : Below w.heap.size w W12 := HB11.out.trans (hb12.mono (by omega))
      have hA12 := hA.out W12 hb12'
      clear hb12
      go_wp2_with fail
      (with_reducible refine hA12.mono ?_)
      rintro e W13 ⟨rfl, hb13⟩
      go_wp2
      go_returns
      exact Ret.mk' rfl (bel_after hb12' hb13)
  · clear hm0 hcells
    have hN1 : N = 0 := by omega
    subst hN1
    go_enter Tryd.func3, Tryd.ntmps3
    go_upto_region 6 with fail
    refine wp_world (fun W => Below w.heap.size w W ∧ Cs W w.heap.size 0 (siteC D th T K sd)) ⟨by (repeat' (first | (with_reducible exact Below.refl _ _) | (with_reducible assumption) | (with_reducible refine Below.alloc ?_ ?_ _) | (with_reducible refine Below.drew ?_) | (with_reducible refine bel_drewN ?_ _) | (with_reducible refine Below.setCell ?_ ?_ _) | (with_reducible refine bel_after ?_ (by assumption)) | (exact Below.size (by assumption)) | omega | (simp only [World.size_alloc, World.size_setCell, World.size_drew, size_drewN] at *; omega))), Cs.at rfl rfl⟩ ?_
    clear bA
    rintro W1 ⟨hb1, k1⟩
    have HB1 : Hid (Below w.heap.size w W1) := Lib.hid hb1
    have hs1 : w.heap.size < W1.heap.size := k1.lt
    have hbd := HBD.out.but (S := fun b => w.heap.size ≤ b) (But.of_below hb1) (by omega)
    have hkr := HK.out.below hb1
    simp only [Cs, Nat.zero_add, Nat.reduceAdd] at k1
    obtain ⟨c0, f0, c1, f1, c2, f2, c3, f3, c4, f4, _⟩ := k1
    have nA : ∀ o : Obj, Below W1.heap.size W1 ((W1.alloc o).drew) := fun o => Below.drew (Below.alloc (Below.refl W1.heap.size W1) (Nat.le_refl _) o)
    have NA : Hid (∀ o : Obj, Below W1.heap.size W1 ((W1.alloc o).drew)) := Lib.hid nA
    have KA : Hid (∀ w3, Below W1.heap.size W1 w3 → w3.cell? ⟨w.heap.size, 0, none⟩ = some (.int .u64 D) ∧ w3.cell? ⟨w.heap.size, 1, none⟩ = some (.int .i64 th) ∧ w3.cell? ⟨w.heap.size, 2, none⟩ = some (.int .i64 T) ∧ w3.cell? ⟨w.heap.size, 3, none⟩ = some (.int .i64 K) ∧ w3.cell? ⟨w.heap.size, 4, none⟩ = some (.int .u64 sd)) := Lib.hid fun w3 hb => ⟨bel_cell hb c0, bel_cell hb c1, bel_cell hb c2, bel_cell hb c3, bel_cell hb c4⟩
    have NB : Hid (∀ o w3, Below ((W1.alloc o).drew).heap.size ((W1.alloc o).drew) w3 → Below W1.heap.size W1 w3) := Lib.hid fun o w3 hb => (nA o).trans (hb.mono (nA o).size)
    cases hs : siteOk D th T K with
    | true =>
      have hN : Calls Tryd.prog 5 #[siteV D th T K sd, .slice a' n' c', .slice (some ⟨W1.heap.size, 0, none⟩) 1 1] ((W1.alloc (.cells #[.int .u64 0] 22)).drew) (NewPost D th T K sd (alls ks 0) (decide (K ≤ ((alls ks 0).length : Int))) ((W1.alloc (.cells #[.int .u64 0] 22)).drew)) :=
        newYes D th T K sd 0 h0 _ ks W1.heap.size _ (hbd.below (nA _)) hs (hkr.below (nA _)) (by have := HKL.out; omega) HKW.out (by simp [go_sem]) (by omega)
      have HLk : Hid (∀ w3, Below W1.heap.size W1 w3 → Calls Tryd.prog 6 #[siteV D th T K sd, .slice a' n' c'] w3 (LkPost D th T K sd ks w3)) := Lib.hid fun w3 hb => lookYes D th T K sd h0 _ ks w3 (hbd.below hb) hs (hkr.below hb) (by have := HKL.out; omega) HKW.out
      unfold siteV at hN HLk
      clear hbd hkr nA hb1
      have HS : Hid (siteOk D th T K = true) := Lib.hid hs
      generalize hws : alls ks 0 = ws at hN
      have HWS : Hid (alls ks 0 = ws) := Lib.hid hws
      clear hws hs
      generalize hlk : decide (K ≤ (ws.length : Int)) = lk at hN
      have HLK : Hid (decide (K ≤ (ws.length : Int)) = lk) := Lib.hid hlk
      clear hlk
      go_region_held3 (fun w' => w'.cell? ⟨w.heap.size, 0, none⟩ = some (.int .u64 D) ∧ w'.cell? ⟨w.heap.size, 1, none⟩ = some (.int .i64 th) ∧ w'.cell? ⟨w.heap.size, 2, none⟩ = some (.int .i64 T) ∧ w'.cell? ⟨w.heap.size, 3, none⟩ = some (.int .i64 K) ∧ w'.cell? ⟨w.heap.size, 4, none⟩ = some (.int .u64 sd)) (first | assumption | (exact KA.out _ (NA.out _)) | (exact KA.out _ (NB.out _ _ hb3)) | (exact KA.out _ ((NB.out _ _ hb3).trans (hb4.mono (NB.out _ _ hb3).size))) | go_keep) (first | (go_at_call 5; (with_reducible refine hN.mono ?_); rintro e w3 ⟨X, M, wv, rv, rfl, hb3, hx3, hX3, hM3, hrv3⟩) | (go_at_call 6; (with_reducible refine (HLk.out _ (NB.out _ _ hb3)).mono ?_); rintro e w4 ⟨Y, M2, wv2, n2, G2, rfl, hb4, hx4, hn4⟩))
      have hs3 := (NB.out _ _ hb3).size
      have hs4 := hb4.size
      have hX3' : W1.heap.size ≤ X := Nat.le_trans (NA.out (.cells #[.int .u64 0] 22)).size hX3
      have hM3' : W1.heap.size ≤ M := Nat.le_trans (NA.out (.cells #[.int .u64 0] 22)).size hM3
      have hb14 : Below W1.heap.size W1 w4 := (NB.out _ _ hb3).trans (hb4.mono hs3)
      go_upto_region 7 with fail
      refine wp_world (fun W => Below w.heap.size w W ∧ Cs W w.heap.size 0 (siteC D th T K sd) ∧ XS W X M w3.heap.size D th T K sd wv rv ws (if lk then [] else ws) [] lk 0 0 ∧ XB W Y M2 w3.heap.size D th T K sd wv2 ks (decide (0 < (ks.length : Int))) n2 G2 ks ∧ w3.heap.size ≤ W.heap.size) ⟨HB1.out.trans (hb14.mono (by omega)), by have := KA.out w4 hb14; simp only [Cs, Nat.zero_add, Nat.reduceAdd]; exact ⟨this.1, (hb14.frozen (p := ⟨w.heap.size, 0, none⟩) hs1).trans f0, this.2.1, (hb14.frozen (p := ⟨w.heap.size, 1, none⟩) hs1).trans f1, this.2.2.1, (hb14.frozen (p := ⟨w.heap.size, 2, none⟩) hs1).trans f2, this.2.2.2.1, (hb14.frozen (p := ⟨w.heap.size, 3, none⟩) hs1).trans f3, this.2.2.2.2, (hb14.frozen (p := ⟨w.heap.size, 4, none⟩) hs1).trans f4, trivial⟩, hx3.below hb4, hx4, hs4⟩ ?_
      have hMY : w3.heap.size ≤ Y := hx4.xb
      have hMM : w3.heap.size ≤ M2 := hx4.mb
      have hXl := hx3.xb
      have hMl := hx3.mb
      clear hb3 hx3 hb4 hx4 hb14 KA NA NB HLk hN c0 f0 c1 f1 c2 f2 c3 f3 c4 f4
      rintro W5 ⟨hb5, k5, hx5, hy5, hs5⟩
      have HB5 : Hid (Below w.heap.size w W5) := Lib.hid hb5
      have HK5 : Hid (Cs W5 w.heap.size 0 (siteC D th T K sd)) := Lib.hid k5
      have HX5 : Hid (XS W5 X M w3.heap.size D th T K sd wv rv ws (if lk then [] else ws) [] lk 0 0) := Lib.hid hx5
      have HY5 : Hid (XB W5 Y M2 w3.heap.size D th T K sd wv2 ks (decide (0 < (ks.length : Int))) n2 G2 ks) := Lib.hid hy5
      simp only [Cs, Nat.zero_add, Nat.reduceAdd] at k5
      obtain ⟨c0, f0, c1, f1, c2, f2, c3, f3, c4, f4, _⟩ := k5
      have hRt := refRight_any D th T K sd h0 W5
      rw [HS.out] at hRt
      unfold siteV at hRt
      clear hb5 hx5 hy5
      go_wp2_with fail
      (with_reducible refine hRt.mono ?_)
      rintro e W6 ⟨rfl, hb6⟩
      clear hRt c0 f0 c1 f1 c2 f2 c3 f3 c4 f4
      have hs6 := hb6.size
      have HB6 : Hid (Below w.heap.size w W6) := Lib.hid (HB5.out.trans (hb6.mono (by omega)))
      have k6 := HK5.out.below hb6 (by omega)
      have HK6 : Hid (Cs W6 w.heap.size 0 (siteC D th T K sd)) := Lib.hid k6
      have HX6 : Hid (XS W6 X M w3.heap.size D th T K sd wv rv ws (if lk then [] else ws) [] lk 0 0) := Lib.hid (HX5.out.below hb6)
      have HY6 : Hid (XB W6 Y M2 w3.heap.size D th T K sd wv2 ks (decide (0 < (ks.length : Int))) n2 G2 ks) := Lib.hid (HY5.out.below hb6)
      simp only [Cs, Nat.zero_add, Nat.reduceAdd] at k6
      obtain ⟨c0, f0, c1, f1, c2, f2, c3, f3, c4, f4, _⟩ := k6
      have hok := siteOk_of HS.out
      obtain ⟨Tn, hTn⟩ : ∃ Tn : Nat, Hid (T = (Tn : Int)) := ⟨T.toNat, Lib.hid (by omega)⟩
      have hAx : Calls Tryd.prog 10 #[.pointer (some ⟨X, 0, none⟩), siteV D th T K sd, .slice a' n' c', .int .u64 0, .bool false, .slice a 0 cp] W6 fun e w' => e = .returned (.bool true) ∧ But (fun b => b = X ∨ b = M) W6 w' := by
        have hx := HX6.out
        have eT := hTn.out
        rw [eT] at hx ⊢
        refine acts_any X M w3.heap.size D th K sd 0 Tn wv rv _ ks gs ws _ lk false _ 0 cp W6 hx ?_ ?_ (by omega) (by omega) ?_ (HK.out.below HB6.out) (by have := HKL.out; omega) (fun g hg => by have := HKN.out g hg; omega) (HG.out.below HB6.out) hcp (by omega) (fun g hg => by have := HGN.out g hg; omega) HGW.out (fun q => by cases q) (fun _ => ⟨HWS.out.symm, HLK.out.symm⟩)
        · exact hrv3
        · refine ⟨fun q => ⟨rfl, rfl, ?_⟩, fun q _ => ⟨rfl, rfl, ?_, rfl⟩, fun q h => by omega⟩
          · rw [q]; rfl
          · rw [q]; rfl
        · intro q e
          have := HLK.out
          rw [q, e] at this
          have := of_decide_eq_true this
          simp at this
          omega
      unfold siteV at hAx
      clear hok
      go_wp2_with fail
      (with_reducible refine hAx.mono ?_)
      rintro e W7 ⟨rfl, hb7⟩
      clear hAx c0 f0 c1 f1 c2 f2 c3 f3 c4 f4
      have hs7 := hb7.size
      have HB7 : Hid (Below w.heap.size w W7) := Lib.hid (HB6.out.trans (hb7.below (by omega) (fun i q => by omega)))
      have k7 := HK6.out.but hb7 (by omega)
      have HK7 : Hid (Cs W7 w.heap.size 0 (siteC D th T K sd)) := Lib.hid k7
      have hy7 : XS W7 Y M2 W7.heap.size D th T K sd wv2 (.slice none 0 0) ks [] [] (decide (0 < (ks.length : Int))) 0 0 := by
        have hy := HY6.out
        have hy2 : XB W7 Y M2 w3.heap.size D th T K sd wv2 ks (decide (0 < (ks.length : Int))) n2 G2 ks :=
          ⟨hy.cs.but hb7 (by omega), hy.own.but hb7 (fun g hg q => by have := (hy.own.base g hg).1; omega), hb7.map hy.mp (by omega), hy.at1, hy.ne, hy.wx, hy.xb, hy.mb⟩
        have hl := HKL.out
        refine hy2.done (But.refl _ _) hy2.cs ?_ (by omega) HKW.out
        cases hd : decide (0 < (ks.length : Int)) with
        | true => exact .inl ⟨rfl, rfl, rfl⟩
        | false => exact .inr (.inr ⟨rfl, rfl, rfl⟩)
      simp only [Cs, Nat.zero_add, Nat.reduceAdd] at k7
      obtain ⟨c0, f0, c1, f1, c2, f2, c3, f3, c4, f4, _⟩ := k7
      have hAy : Calls Tryd.prog 10 #[.pointer (some ⟨Y, 0, none⟩), siteV D th T K sd, .slice a' n' c', .int .u64 0, .bool true, .slice a 0 cp] W7 fun e w' => e = .returned (.bool true) ∧ But (fun b => b = Y ∨ b = M2) W7 w' := by
        have hok := siteOk_of HS.out
        have eT := hTn.out
        rw [eT] at hy7 ⊢
        have hl := HKL.out
        refine acts_any Y M2 W7.heap.size D th K sd 0 Tn wv2 (.slice none 0 0) _ ks gs ks [] (decide (0 < (ks.length : Int))) true _ 0 cp W7 hy7 (fun _ => rfl) ?_ (by omega) (by omega) ?_ (HK.out.below HB7.out) (by omega) (fun g hg => by have := HKN.out g hg; omega) (HG.out.below HB7.out) hcp (by omega) (fun g hg => by have := HGN.out g hg; omega) HGW.out (fun _ => ⟨rfl, rfl⟩) (fun q => by cases q)
        · refine ⟨fun q => ⟨rfl, rfl, ?_⟩, fun q _ => ⟨rfl, rfl, rfl, rfl⟩, fun q h => by omega⟩
          have := of_decide_eq_false q
          have : ks.length = 0 := by omega
          exact (List.length_eq_zero_iff.1 this).symm
        · intro q e
          have := of_decide_eq_true q
          rw [e] at this
          simp at this
      unfold siteV at hAy
      clear hb7 hy7
      go_wp2_with fail
      (with_reducible refine hAy.mono ?_)
      rintro e W8 ⟨rfl, hb8⟩
      clear hAy c0 f0 c1 f1 c2 f2 c3 f3 c4 f4
      have hb8' : Below w.heap.size w W8 := HB7.out.trans (hb8.below (by omega) (fun i q => by omega))
      have hA8 := hA.out W8 hb8'
      clear hb8
      go_wp2_with fail
      (with_reducible refine hA8.mono ?_)
      rintro e W9 ⟨rfl, hb9⟩
      go_wp2
      go_returns
      exact Ret.mk' rfl (bel_after hb8' hb9)
    | false =>
      have hN : Calls Tryd.prog 5 #[siteV D th T K sd, .slice a' n' c', .slice (some ⟨W1.heap.size, 0, none⟩) 1 1] ((W1.alloc (.cells #[.int .u64 0] 22)).drew) (NoPost ((W1.alloc (.cells #[.int .u64 0] 22)).drew)) :=
        newNo D th T K sd 0 h0 _ W1.heap.size _ (hbd.below (nA _)) hs (by simp [go_sem])
      have HLk : Hid (∀ w3, Below W1.heap.size W1 w3 → Calls Tryd.prog 6 #[siteV D th T K sd, .slice a' n' c'] w3 (NoPost w3)) := Lib.hid fun w3 hb => lookNo D th T K sd h0 _ w3 (hbd.below hb) hs
      unfold siteV at hN HLk
      clear hbd hkr nA hb1
      have HS : Hid (siteOk D th T K = false) := Lib.hid hs
      clear hs
      go_region_held3 (fun w' => w'.cell? ⟨w.heap.size, 0, none⟩ = some (.int .u64 D) ∧ w'.cell? ⟨w.heap.size, 1, none⟩ = some (.int .i64 th) ∧ w'.cell? ⟨w.heap.size, 2, none⟩ = some (.int .i64 T) ∧ w'.cell? ⟨w.heap.size, 3, none⟩ = some (.int .i64 K) ∧ w'.cell? ⟨w.heap.size, 4, none⟩ = some (.int .u64 sd)) (first | assumption | (exact KA.out _ (NA.out _)) | (exact KA.out _ (NB.out _ _ hb3)) | (exact KA.out _ ((NB.out _ _ hb3).trans (hb4.mono (NB.out _ _ hb3).size))) | go_keep) (first | (go_at_call 5; (with_reducible refine hN.mono ?_); rintro e w3 ⟨X, rfl, hb3, hx3, hX3⟩) | (go_at_call 6; (with_reducible refine (HLk.out _ (NB.out _ _ hb3)).mono ?_); rintro e w4 ⟨Y, rfl, hb4, hx4, hX4⟩))
      have hs3 := (NB.out _ _ hb3).size
      have hs4 := hb4.size
      have hb14 : Below W1.heap.size W1 w4 := (NB.out _ _ hb3).trans (hb4.mono hs3)
      go_upto_region 7 with fail
      refine wp_world (fun W => Below w.heap.size w W ∧ (W.cell? ⟨w.heap.size, 0, none⟩ = some (.int .u64 D) ∧ W.cell? ⟨w.heap.size, 1, none⟩ = some (.int .i64 th) ∧ W.cell? ⟨w.heap.size, 2, none⟩ = some (.int .i64 T) ∧ W.cell? ⟨w.heap.size, 3, none⟩ = some (.int .i64 K) ∧ W.cell? ⟨w.heap.size, 4, none⟩ = some (.int .u64 sd)) ∧ Cs W X 0 zeroX ∧ Cs W Y 0 zeroX ∧ w.heap.size ≤ W.heap.size) ⟨HB1.out.trans (hb14.mono (by omega)), KA.out w4 hb14, hx3.below hb4 hx3.lt, hx4, by omega⟩ ?_
      clear hb3 hx3 hb4 hx4 hb14 KA NA NB HLk hN c0 f0 c1 f1 c2 f2 c3 f3 c4 f4
      rintro W5 ⟨hb5, k5, hx5, hy5, hs5⟩
      have HB5 : Hid (Below w.heap.size w W5) := Lib.hid hb5
      have HX5 : Hid (Cs W5 X 0 zeroX) := Lib.hid hx5
      have HY5 : Hid (Cs W5 Y 0 zeroX) := Lib.hid hy5
      obtain ⟨c0, c1, c2, c3, c4⟩ := k5
      have hRt := refRight_any D th T K sd h0 W5
      rw [HS.out] at hRt
      unfold siteV at hRt
      clear hb5 hx5 hy5
      go_wp2_with fail
      (with_reducible refine hRt.mono ?_)
      rintro e W6 ⟨rfl, hb6⟩
      clear hRt c0 c1 c2 c3 c4
      have hs6 := hb6.size
      have HB6 : Hid (Below w.heap.size w W6) := Lib.hid (HB5.out.trans (hb6.mono (by omega)))
      have HX6 : Hid (Cs W6 X 0 zeroX) := Lib.hid (HX5.out.below hb6 HX5.out.lt)
      have HY6 : Hid (Cs W6 Y 0 zeroX) := Lib.hid (HY5.out.below hb6 HY5.out.lt)
      have hA6 := act_none X W6 (by have := HX6.out; simp only [Cs, Nat.zero_add, Nat.reduceAdd] at this; exact this.2.2.2.2.2.2.2.2.2.2.2.2.1)
      simp only [A5.val, A5.nil] at hA6
      go_wp2_with fail
      (with_reducible refine hA6.mono ?_)
      rintro e W7 ⟨rfl, hb7⟩
      clear hA6 hb6
      go_upto_region 9 with fail
      have hs7 := hb7.size
      refine wp_world (fun W => Below w.heap.size w W ∧ Cs W X 0 zeroX ∧ Cs W Y 0 zeroX ∧ w.heap.size ≤ W.heap.size) ⟨(HB6.out.trans (hb7.mono (by omega))).alloc (by omega) _, (HX6.out.below hb7 HX6.out.lt).below (Below.alloc (Below.refl _ _) (Nat.le_refl _) _) (by have := HX6.out.lt; omega), (HY6.out.below hb7 HY6.out.lt).below (Below.alloc (Below.refl _ _) (Nat.le_refl _) _) (by have := HY6.out.lt; omega), by simp only [World.size_alloc]; omega⟩ ?_
      clear hb7
      rintro W8 ⟨hb8, hx8, hy8, hs8⟩
      have HB8 : Hid (Below w.heap.size w W8) := Lib.hid hb8
      have HX8 : Hid (Cs W8 X 0 zeroX) := Lib.hid hx8
      have HY8 : Hid (Cs W8 Y 0 zeroX) := Lib.hid hy8
      have hR8 := result_none X W8 (by simp only [Cs, Nat.zero_add, Nat.reduceAdd] at hx8; exact hx8.2.2.2.2.2.2.2.2.2.2.1)
      clear hb8 hx8 hy8
      go_wp2_with fail
      (with_reducible refine hR8.mono ?_)
      rintro e W9 ⟨v9, rfl, hb9, hown9⟩
      clear hR8 hown9
      have hs9 := hb9.size
      have HB9 : Hid (Below w.heap.size w W9) := Lib.hid (HB8.out.trans (hb9.mono (by omega)))
      have HY9 : Hid (Cs W9 Y 0 zeroX) := Lib.hid (HY8.out.below hb9 HY8.out.lt)
      have hA9 := act_none Y W9 (by have := HY9.out; simp only [Cs, Nat.zero_add, Nat.reduceAdd] at this; exact this.2.2.2.2.2.2.2.2.2.2.2.2.1)
      simp only [A5.val, A5.nil] at hA9
      clear hb9
      go_wp2_with fail
      (with_reducible refine hA9.mono ?_)
      rintro e W10 ⟨rfl, hb10⟩
      clear hA9
      go_upto_region 11 with fail
      have hs10 := hb10.size
      refine wp_world (fun W => Below w.heap.size w W ∧ Cs W Y 0 zeroX ∧ w.heap.size ≤ W.heap.size) ⟨(HB9.out.trans (hb10.mono (by omega))).alloc (by omega) _, (HY9.out.below hb10 HY9.out.lt).below (Below.alloc (Below.refl _ _) (Nat.le_refl _) _) (by have := HY9.out.lt; omega), by simp only [World.size_alloc]; omega⟩ ?_
      clear hb10
      rintro W11 ⟨hb11, hy11, hs11⟩
      have HB11 : Hid (Below w.heap.size w W11) := Lib.hid hb11
      have hR11 := result_none Y W11 (by simp only [Cs, Nat.zero_add, Nat.reduceAdd] at hy11; exact hy11.2.2.2.2.2.2.2.2.2.2.1)
      clear hb11 hy11
      go_wp2_with fail
      (with_reducible refine hR11.mono ?_)
      rintro e W12 ⟨v12, rfl, hb12, hown12⟩
      clear hR11 hown12
      have hb12' : Below w.heap.size w W12 := HB11.out.trans (hb12.mono (by omega))
      have hA12 := hA.out W12 hb12'
      clear hb12
      go_wp2_with fail
      (with_reducible refine hA12.mono ?_)
      rintro e W13 ⟨rfl, hb13⟩
      go_wp2
      go_returns
      exact Ret.mk' rfl (bel_after hb12' hb13)
end Go.Proofs.YtaclkachohkenaaDoor
