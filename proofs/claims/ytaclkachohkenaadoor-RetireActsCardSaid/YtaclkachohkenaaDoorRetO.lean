import Derived.Test.YtaclkachohkenaaDoorRetN
set_option linter.unusedVariables false
set_option linter.unusedSimpArgs false
namespace Go.Proofs.YtaclkachohkenaaDoor
open Go.RowKit Go.Maps

set_option maxHeartbeats 4000000 in
theorem newYes (D th T K sd m : Int) (h0 : 0 ≤ D) (kv : Value) (ks : List Int) (mb : Nat) (w : World) (hB : Bd w) (hs : siteOk D th T K = true) (hk : Rd w .u64 kv ks) (hl : ks.length < 90) (hwf : ∀ u ∈ ks, 0 ≤ u ∧ u < 18446744073709551616)
    (hm : w.cell? ⟨mb, 0, none⟩ = some (.int .u64 m)) (hm2 : 0 ≤ m ∧ m < 18446744073709551616) :
    Calls Tryd.prog 5 #[siteV D th T K sd, kv, .slice (some ⟨mb, 0, none⟩) 1 1] w (NewPost D th T K sd (alls ks m) (decide (K ≤ ((alls ks m).length : Int))) w) := by
  have bA : Below w.heap.size w (w.alloc (.cells #[.int .u64 D, .int .i64 th, .int .i64 T, .int .i64 K, .int .u64 sd] 24)) := Below.alloc (Below.refl _ _) (Nat.le_refl _) _
  have hL := lookYes D th T K sd h0 kv ks (w.alloc (.cells #[.int .u64 D, .int .i64 th, .int .i64 T, .int .i64 K, .int .u64 sd] 24)) (hB.below bA) hs (hk.below bA) (by omega) hwf
  have hmb := World.block_lt_of_cell? w _ hm
  simp only at hmb
  unfold siteV at *
  have HWF : Hid (∀ u ∈ ks, 0 ≤ u ∧ u < 18446744073709551616) := Lib.hid hwf
  clear hB bA hk hwf
  generalize hws : alls ks m = ws
  generalize hlk : decide (K ≤ (ws.length : Int)) = lk
  have HWS : Hid (alls ks m = ws) := Lib.hid hws
  have HLK : Hid (decide (K ≤ (ws.length : Int)) = lk) := Lib.hid hlk
  clear hws hlk
  go_enter Tryd.func5, Tryd.ntmps5
  go_upto_region 2 with (first | (go_at_call 6; (with_reducible refine hL.mono ?_); rintro e w1 ⟨X, M, wv, n, G, rfl, hb1, hxb, hn⟩))
  have hsz1 : w.heap.size + 1 ≤ w1.heap.size := by have := hb1.size; simp only [World.size_alloc] at this; omega
  refine wp_world (fun W => Below w.heap.size w W ∧ XB W X M (w.heap.size + 1) D th T K sd wv ks (decide (0 < (ks.length : Int))) n G ks ∧ Cs W w.heap.size 0 [.int .u64 D, .int .i64 th, .int .i64 T, .int .i64 K, .int .u64 sd] ∧ W.cell? ⟨mb, 0, none⟩ = some (.int .u64 m)) ⟨by (repeat' (first | (with_reducible exact Below.refl _ _) | (with_reducible assumption) | (with_reducible refine Below.alloc ?_ ?_ _) | (with_reducible refine Below.drew ?_) | (with_reducible refine bel_drewN ?_ _) | (with_reducible refine Below.setCell ?_ ?_ _) | (with_reducible refine bel_after ?_ (by assumption)) | (exact Below.size (by assumption)) | omega | (simp only [World.size_alloc, World.size_setCell, World.size_drew, size_drewN] at *; omega))), by simpa using hxb, Cs.new hb1 _ rfl, bel_cell hb1 (bel_cell (Below.alloc (Below.refl _ _) (Nat.le_refl _) _) hm)⟩ ?_
  clear hb1 hxb hL hm hsz1
  rintro W ⟨hb, hxb, hbox, hm⟩
  have HB : Hid (Below w.heap.size w W) := Lib.hid hb
  have HX : Hid (XB W X M (w.heap.size + 1) D th T K sd wv ks (decide (0 < (ks.length : Int))) n G ks) := Lib.hid hxb
  have HBOX : Hid (Cs W w.heap.size 0 [.int .u64 D, .int .i64 th, .int .i64 T, .int .i64 K, .int .u64 sd]) := Lib.hid hbox
  have hcs := hxb.cs
  have hxm := hxb.ne
  have hxb1 := hxb.xb
  have hxb2 := hxb.mb
  simp only [Cs, Nat.zero_add, Nat.reduceAdd] at hcs hbox
  obtain ⟨c0, f0, c1, f1, c2, f2, c3, f3, c4, f4, c5, f5, c6, f6, c7, f7, c8, f8, c9, f9, c10, f10, c11, f11, _⟩ := hcs
  obtain ⟨d0, g0, d1, g1, d2, g2, d3, g3, d4, g4, _⟩ := hbox
  obtain ⟨A1, q1, rfl⟩ := own_slice hxb.own
  clear hb hxb
  by_cases hm0 : m = 0
  · subst hm0
    obtain rfl : ks = ws := HWS.out
    cases lk with
    | true =>
      have hge : K ≤ (ks.length : Int) := of_decide_eq_true HLK.out
      go_wp2_with fail
      refine wp_loop_rounds 2 ?_
      rw [rounds_succ]
      go_wp2
      rw [rounds_succ]
      go_wp2
      go_region
      all_goals go_wp2
      go_returns
      have HBX := HB.out
      refine ⟨X, M, _, _, rfl, by (repeat' (first | (with_reducible exact Below.refl _ _) | (with_reducible assumption) | (with_reducible refine Below.alloc ?_ ?_ _) | (with_reducible refine Below.drew ?_) | (with_reducible refine bel_drewN ?_ _) | (with_reducible refine Below.setCell ?_ ?_ _) | (with_reducible refine bel_after ?_ (by assumption)) | (exact Below.size (by assumption)) | omega | (simp only [World.size_alloc, World.size_setCell, World.size_drew, size_drewN] at *; omega))), HX.out.done (((But.refl (fun b => b = X) W).drewN _).setCell (fun _ => rfl) _) (by simp [Cs, go_sem, c0, f0, c1, f1, c2, f2, c3, f3, c4, f4, c5, f5, c6, f6, c7, f7, c8, f8, c9, f9, c10, f10, c11, f11]) (.inl ⟨rfl, rfl, rfl⟩) (by omega) HWF.out, by omega, by omega, fun _ => rfl⟩
    | false =>
      have hge : ¬ K ≤ (ks.length : Int) := of_decide_eq_false HLK.out
      have hdk : decide (K ≤ (ks.length : Int)) = false := HLK.out
      have hlt : (ks.length : Int) < K := by omega
      go_wp2_with fail
      refine wp_loop_rounds 2 ?_
      rw [rounds_succ]
      go_wp2
      rw [rounds_succ]
      go_wp2
      go_region
      all_goals go_wp2
      go_returns
      have HBX := HB.out
      refine ⟨X, M, _, _, rfl, by (repeat' (first | (with_reducible exact Below.refl _ _) | (with_reducible assumption) | (with_reducible refine Below.alloc ?_ ?_ _) | (with_reducible refine Below.drew ?_) | (with_reducible refine bel_drewN ?_ _) | (with_reducible refine Below.setCell ?_ ?_ _) | (with_reducible refine bel_after ?_ (by assumption)) | (exact Below.size (by assumption)) | omega | (simp only [World.size_alloc, World.size_setCell, World.size_drew, size_drewN] at *; omega))), HX.out.done ((((But.refl (fun b => b = X) W).drewN _).setCell (fun _ => rfl) _).setCell (fun _ => rfl) _) (by simp [Cs, go_sem, hlt, c0, f0, c1, f1, c2, f2, c3, f3, c4, f4, c5, f5, c6, f6, c7, f7, c8, f8, c9, f9, c10, f10, c11, f11]) (.inr (.inl ⟨rfl, rfl, rfl⟩)) (by omega) HWF.out, by omega, by omega, fun q => (by cases q)⟩
  · have hws : ks ++ [m] = ws := (if_neg hm0).symm.trans HWS.out
    clear HWS
    go_wp2_with fail
    refine wp_loop_rounds 2 ?_
    rw [rounds_succ]
    have hWX := World.block_lt_of_cell? W _ c0
    simp only at hWX
    have hWs : w.heap.size + 1 ≤ W.heap.size := by omega
    have hown := HX.out.own
    have HO : Hid (Own (w.heap.size + 1) (W.alloc (.cells #[.int .u64 m] 22)) (.slice A1 ks.length q1) ks) := Lib.hid (hown.alloc _)
    have HR : Hid (Rd (W.alloc (.cells #[.int .u64 m] 22)) .u64 (.slice (some ⟨W.heap.size, 0, none⟩) 1 1) [m]) := Lib.hid (Rd.new W .u64 [m] 22 (by simp))
    have HK : Hid (∀ o w4, (W.alloc o).grownBy w4 (Value.slice A1 ks.length q1).ownBlock → Cs w4 X 0 [.int .u64 D, .int .i64 th, .int .i64 T, .int .i64 K, .int .u64 sd, .bool true, .bool (decide (0 < (ks.length : Int))), .int .i64 0, .slice A1 ks.length q1, .int .i64 0, .map (some M), .slice none 0 0]) := Lib.hid fun o w4 hg =>
      (HX.out.cs.below (B := W.heap.size) (Below.alloc (Below.refl _ _) (Nat.le_refl _) _) (by omega)).but (S := fun b => (Value.slice A1 ks.length q1).ownBlock = some b) (But.of_grown hg (fun k hk _ => hk)) (fun q => (HX.out.wx X q).1 rfl)
    clear hown
    go_upto_region 7 with (first | (at_builtin; refine append_rd rfl _ _ rfl HO.out HR.out (by rfl) (by rfl) (by simp; omega) (by simp; omega) ?_; intro v4 w4 hown4 hgr4 hat4; obtain ⟨A4, q4, rfl⟩ := own_slice hown4; have k8 := (HK.out _ _ hgr4).2.2.2.2.2.2.2.2.2.2.2.2.2.2.2.2.1; have l8 := (HK.out _ _ hgr4).2.2.2.2.2.2.2.2.2.2.2.2.2.2.2.2.2.1))
    refine wp_world (fun W2 => Below w.heap.size w W2 ∧ XB W2 X M (w.heap.size + 1) D th T K sd (.slice A4 ws.length q4) ws (decide (0 < (ks.length : Int))) n G ks ∧ Cs W2 w.heap.size 0 [.int .u64 D, .int .i64 th, .int .i64 T, .int .i64 K, .int .u64 sd] ∧ W2.cell? ⟨mb, 0, none⟩ = some (.int .u64 m)) ?_ ?_
    · have hMW := HX.out.mp.lt
      have hne4 : ∀ g, (Value.slice A4 ws.length q4).ownBlock = some g → g ≠ X ∧ g ≠ M := by
        intro g hg
        have hg' : (Value.slice A4 (ks ++ [m]).length q4).ownBlock = some g := by rw [hws]; exact hg
        rcases hat4 with e | e
        · rw [e] at hg'
          exact HX.out.wx g hg'
        · rw [e] at hg'
          simp only [World.size_alloc, Option.some.injEq] at hg'
          omega
      have hb4 : But (fun b => b = X ∨ (Value.slice A1 ks.length q1).ownBlock = some b) W w4 := ((But.refl (fun b => b = X ∨ (Value.slice A1 ks.length q1).ownBlock = some b) W).alloc _).then (But.of_grown (S := fun b => (Value.slice A1 ks.length q1).ownBlock = some b) hgr4 (fun k hk _ => hk)) (fun _ _ q => .inr q)
      have hob : ∀ k, (Value.slice A1 ks.length q1).ownBlock = some k → w.heap.size + 1 ≤ k := fun k hk => (HX.out.own.base k hk).1
      have hbb := hb4.setCell (p := ⟨X, 8, none⟩) (fun _ => .inl rfl) (.slice A4 ws.length q4)
      have hlow : Below (w.heap.size + 1) W (w4.setCell ⟨X, 8, none⟩ (.slice A4 ws.length q4)) := hbb.below hWs (fun i q => by rcases q with q | q; omega; exact hob i q)
      refine ⟨HB.out.trans (hlow.mono (by omega)), HX.out.app hbb ?_ ?_ hne4, HBOX.out.below hlow (by omega), ?_⟩
      · have K4 := HK.out _ _ hgr4
        simp only [Cs, Nat.zero_add, Nat.reduceAdd] at K4
        obtain ⟨k0, l0, k1, l1, k2, l2, k3, l3, k4, l4, k5, l5, k6, l6, k7, l7, k8, l8, k9, l9, k10, l10, k11, l11, _⟩ := K4
        simp [Cs, go_sem, k0, l0, k1, l1, k2, l2, k3, l3, k4, l4, k5, l5, k6, l6, k7, l7, k8, l8, k9, l9, k10, l10, k11, l11]
      · rw [hws] at hown4
        have hlen : ws.length = ks.length + 1 := by rw [← hws]; simp
        exact Own.but (S := fun b => b = X) ((But.refl (fun b => b = X) w4).setCell (fun _ => rfl) _) hown4 (fun g hg q => (hne4 g hg).1 q)
      · exact (hlow.cell (p := ⟨mb, 0, none⟩) (by simp only; omega)).trans hm
    clear hown4 hgr4 hat4
    rintro W2 ⟨hb, hxb, hbox, hm⟩
    have HB2 : Hid (Below w.heap.size w W2) := Lib.hid hb
    have H2 : Hid (XB W2 X M (w.heap.size + 1) D th T K sd (.slice A4 ws.length q4) ws (decide (0 < (ks.length : Int))) n G ks) := Lib.hid hxb
    have HBOX2 : Hid (Cs W2 w.heap.size 0 [.int .u64 D, .int .i64 th, .int .i64 T, .int .i64 K, .int .u64 sd]) := Lib.hid hbox
    have hcs := hxb.cs
    have hG := hxb.mp
    clear c0 f0 c1 f1 c2 f2 c3 f3 c4 f4 c5 f5 c6 f6 c7 f7 c8 f8 c9 f9 c10 f10 c11 f11 d0 g0 d1 g1 d2 g2 d3 g3 d4 g4 HK k8 l8 hb hxb hbox HBOX HX HB HO HR
    simp only [Cs, Nat.zero_add, Nat.reduceAdd] at hcs
    obtain ⟨c0, f0, c1, f1, c2, f2, c3, f3, c4, f4, c5, f5, c6, f6, c7, f7, c8, f8, c9, f9, c10, f10, c11, f11, _⟩ := hcs
    have hkey := keyOf_u64 hm2
    have hnl : n < maxLen := by unfold maxLen; omega
    go_upto_region 8 with (first | (at_mapUpdate; refine wpList_mapUpdate_own _ rfl _ _ _ 41 rfl 22 3 keyU64 Tryd.underlying41 _ M n G rfl hG hnl _ _ _ rfl rfl hkey (.lit (.int .i64 1)) [] (plainElem_int Tryd.underlying3 (by decide)) ?_; intro w7 hown7 hgr7))
    refine wp_world (fun W3 => Below w.heap.size w W3 ∧ XB W3 X M (w.heap.size + 1) D th T K sd (.slice A4 ws.length q4) ws (decide (0 < (ks.length : Int))) (n + 1) (G.put (.int .u64 m) (.lit (.int .i64 1))) ws ∧ Cs W3 w.heap.size 0 [.int .u64 D, .int .i64 th, .int .i64 T, .int .i64 K, .int .u64 sd]) ?_ ?_
    · have h3 := H2.out.put hgr7 hown7
      rw [hws] at h3
      exact ⟨HB2.out.grown hgr7 HB2.out.size (fun k hk => by cases hk; omega), h3, Cs.but (S := fun b => b = M) (But.of_grown hgr7 (fun k hk _ => (Option.some.inj hk).symm)) (by omega) HBOX2.out⟩
    clear hown7 hgr7 H2 HB2 HBOX2 hG hm c0 f0 c1 f1 c2 f2 c3 f3 c4 f4 c5 f5 c6 f6 c7 f7 c8 f8 c9 f9 c10 f10 c11 f11
    rintro W3 ⟨hb, hxb, hbox⟩
    have HB3 : Hid (Below w.heap.size w W3) := Lib.hid hb
    have H3 : Hid (XB W3 X M (w.heap.size + 1) D th T K sd (.slice A4 ws.length q4) ws (decide (0 < (ks.length : Int))) (n + 1) (G.put (.int .u64 m) (.lit (.int .i64 1))) ws) := Lib.hid hxb
    have hcs := hxb.cs
    simp only [Cs, Nat.zero_add, Nat.reduceAdd] at hcs hbox
    obtain ⟨c0, f0, c1, f1, c2, f2, c3, f3, c4, f4, c5, f5, c6, f6, c7, f7, c8, f8, c9, f9, c10, f10, c11, f11, _⟩ := hcs
    obtain ⟨d0, g0, d1, g1, d2, g2, d3, g3, d4, g4, _⟩ := hbox
    have hlen : ws.length ≤ 91 := by rw [← hws]; simp; omega
    have HWS2 : Hid (∀ u ∈ ws, 0 ≤ u ∧ u < 18446744073709551616) := Lib.hid (by
      rw [← hws]
      intro u hu
      rcases List.mem_append.1 hu with q | q
      · exact HWF.out u q
      · rw [List.mem_singleton.1 q]; exact hm2)
    clear hb hxb hws
    cases lk with
    | true =>
        have hge : K ≤ (ws.length : Int) := of_decide_eq_true HLK.out
        go_wp2_with fail
        rw [rounds_succ]
        go_wp2
        go_region
        all_goals go_wp2
        go_returns
        have HBX := HB3.out
        refine ⟨X, M, _, _, rfl, by (repeat' (first | (with_reducible exact Below.refl _ _) | (with_reducible assumption) | (with_reducible refine Below.alloc ?_ ?_ _) | (with_reducible refine Below.drew ?_) | (with_reducible refine bel_drewN ?_ _) | (with_reducible refine Below.setCell ?_ ?_ _) | (with_reducible refine bel_after ?_ (by assumption)) | (exact Below.size (by assumption)) | omega | (simp only [World.size_alloc, World.size_setCell, World.size_drew, size_drewN] at *; omega))), H3.out.done (((But.refl (fun b => b = X) W3).drewN _).setCell (fun _ => rfl) _) (by simp [Cs, go_sem, c0, f0, c1, f1, c2, f2, c3, f3, c4, f4, c5, f5, c6, f6, c7, f7, c8, f8, c9, f9, c10, f10, c11, f11]) (.inl ⟨rfl, rfl, rfl⟩) (by omega) HWS2.out, by omega, by omega, fun _ => rfl⟩
    | false =>
        have hge : ¬ K ≤ (ws.length : Int) := of_decide_eq_false HLK.out
        have hdk : decide (K ≤ (ws.length : Int)) = false := HLK.out
        have hlt : (ws.length : Int) < K := by omega
        go_wp2_with fail
        rw [rounds_succ]
        go_wp2
        go_region
        all_goals go_wp2
        go_returns
        have HBX := HB3.out
        refine ⟨X, M, _, _, rfl, by (repeat' (first | (with_reducible exact Below.refl _ _) | (with_reducible assumption) | (with_reducible refine Below.alloc ?_ ?_ _) | (with_reducible refine Below.drew ?_) | (with_reducible refine bel_drewN ?_ _) | (with_reducible refine Below.setCell ?_ ?_ _) | (with_reducible refine bel_after ?_ (by assumption)) | (exact Below.size (by assumption)) | omega | (simp only [World.size_alloc, World.size_setCell, World.size_drew, size_drewN] at *; omega))), H3.out.done ((((But.refl (fun b => b = X) W3).drewN _).setCell (fun _ => rfl) _).setCell (fun _ => rfl) _) (by simp [Cs, go_sem, hlt, c0, f0, c1, f1, c2, f2, c3, f3, c4, f4, c5, f5, c6, f6, c7, f7, c8, f8, c9, f9, c10, f10, c11, f11]) (.inr (.inl ⟨rfl, rfl, rfl⟩)) (by omega) HWS2.out, by omega, by omega, fun q => (by cases q)⟩
end Go.Proofs.YtaclkachohkenaaDoor
