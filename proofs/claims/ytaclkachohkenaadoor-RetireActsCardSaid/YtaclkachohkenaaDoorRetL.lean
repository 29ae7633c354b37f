import Derived.Test.YtaclkachohkenaaDoorRetK
set_option linter.unusedVariables false
set_option linter.unusedSimpArgs false
namespace Go.Proofs.YtaclkachohkenaaDoor
open Go.RowKit Go.Maps

theorem Cs.at {w : World} {X : Nat} {cs : Array Value} {t : TypeId} {l : List Value} (hX : w.heap.size = X) (hl : cs.toList = l) : Cs (w.alloc (.cells cs t)) X 0 l := by
  subst hX
  exact Cs.new (Below.refl _ _) l hl

/-- One who is being made. -/
structure XB (w : World) (X M B0 : Nat) (D th T K sd : Int) (wv : Value) (ws : List Int) (lk : Bool) (n : Nat) (G : DataW Unit) (ds : List Int) : Prop where
  cs : Cs w X 0 [.int .u64 D, .int .i64 th, .int .i64 T, .int .i64 K, .int .u64 sd, .bool true, .bool lk, .int .i64 0, wv, .int .i64 0, .map (some M), .slice none 0 0]
  own : Own B0 w wv ws
  mp : w.ownsMap Tryd.prog 22 (plainElem (H := Unit) Tryd.prog 3) M n G
  at1 : ∀ u ∈ ds, G.atKey (.int .u64 u) (.lit (.int .i64 0)) = .lit (.int .i64 1)
  ne : X ≠ M
  wx : ∀ g, wv.ownBlock = some g → g ≠ X ∧ g ≠ M
  xb : B0 ≤ X
  mb : B0 ≤ M

theorem XB.put {w w' : World} {X M B0 : Nat} {D th T K sd : Int} {wv : Value} {ws : List Int} {lk : Bool} {n : Nat} {G : DataW Unit} {ds : List Int} {u : Int} (h : XB w X M B0 D th T K sd wv ws lk n G ds) (hb : w.grownBy w' (some M))
    (hG : w'.ownsMap Tryd.prog 22 (plainElem (H := Unit) Tryd.prog 3) M (n + 1) (G.put (.int .u64 u) (.lit (.int .i64 1)))) : XB w' X M B0 D th T K sd wv ws lk (n + 1) (G.put (.int .u64 u) (.lit (.int .i64 1))) (ds ++ [u]) := by
  have b0 : But (fun b => b = M) w w' := But.of_grown hb (fun k hk _ => (Option.some.inj hk).symm)
  refine ⟨h.cs.but b0 h.ne, h.own.but b0 (fun g hg => (h.wx g hg).2), hG, ?_, h.ne, h.wx, h.xb, h.mb⟩
  intro z hz
  by_cases e : z = u
  · subst e
    exact atKey_put_same (k := .int .u64 z) h.mp.isMap trivial _ _
  · rw [atKey_put_other (by simp; exact e)]
    refine h.at1 z ?_
    rcases List.mem_append.1 hz with q | q
    · exact q
    · exact absurd (List.mem_singleton.1 q) e

abbrev zeroX : List Value := [.int .u64 0, .int .i64 0, .int .i64 0, .int .i64 0, .int .u64 0, .bool false, .bool false, .int .i64 0, .slice none 0 0, .int .i64 0, .map none, .slice none 0 0]
def NoPost (w : World) (e : Ending) (w' : World) : Prop := ∃ X, e = .returned (.pointer (some ⟨X, 0, none⟩)) ∧ Below w.heap.size w w' ∧ Cs w' X 0 zeroX ∧ w.heap.size ≤ X

theorem lookNo (D th T K sd : Int) (h0 : 0 ≤ D) (kv : Value) (w : World) (hB : Bd w) (hs : siteOk D th T K = false) :
    Calls Tryd.prog 6 #[siteV D th T K sd, kv] w (NoPost w) := by
  have hD := fun w h => deskRight_any D th T K sd h0 w h
  rw [hs] at hD
  unfold siteV at *
  have hB1 : Bd (w.alloc (.cells #[.int .u64 D, .int .i64 th, .int .i64 T, .int .i64 K, .int .u64 sd] 24)) := hB.below (Below.alloc (Below.refl _ _) (Nat.le_refl _) _)
  have HD := hD _ hB1
  clear hD hB hB1
  go_enter Tryd.func6, Tryd.ntmps6
  go_wp2_with fail
  (with_reducible refine HD.mono ?_)
  rintro e w1 ⟨rfl, hb1⟩
  go_wp2
  go_returns
  have hsz1 : w.heap.size ≤ w1.heap.size := by have := hb1.size; simp only [World.size_alloc] at this; omega
  exact ⟨w1.heap.size, rfl, by (repeat' (first | (with_reducible exact Below.refl _ _) | (with_reducible assumption) | (with_reducible refine Below.alloc ?_ ?_ _) | (with_reducible refine Below.drew ?_) | (with_reducible refine bel_drewN ?_ _) | (with_reducible refine Below.setCell ?_ ?_ _) | (with_reducible refine bel_after ?_ (by assumption)) | (exact Below.size (by assumption)) | omega | (simp only [World.size_alloc, World.size_setCell, World.size_drew, size_drewN] at *; omega))), Cs.at rfl rfl, hsz1⟩

def LkPost (D th T K sd : Int) (ks : List Int) (w : World) (e : Ending) (w' : World) : Prop :=
  ∃ X M wv n G, e = .returned (.pointer (some ⟨X, 0, none⟩)) ∧ Below w.heap.size w w' ∧ XB w' X M w.heap.size D th T K sd wv ks (decide (0 < (ks.length : Int))) n G ks ∧ n ≤ ks.length

set_option maxHeartbeats 4000000 in
theorem lookYes (D th T K sd : Int) (h0 : 0 ≤ D) (kv : Value) (ks : List Int) (w : World) (hB : Bd w) (hs : siteOk D th T K = true) (hk : Rd w .u64 kv ks) (hl : ks.length < 100) (hwf : ∀ u ∈ ks, 0 ≤ u ∧ u < 18446744073709551616) :
    Calls Tryd.prog 6 #[siteV D th T K sd, kv] w (LkPost D th T K sd ks w) := by
  have hD := fun w h => deskRight_any D th T K sd h0 w h
  rw [hs] at hD
  have hmm := @run_makeMap Tryd.prog
  unfold siteV at *
  have hB1 : Bd (w.alloc (.cells #[.int .u64 D, .int .i64 th, .int .i64 T, .int .i64 K, .int .u64 sd] 24)) := hB.below (Below.alloc (Below.refl _ _) (Nat.le_refl _) _)
  have HD := hD _ hB1
  have HK : Hid (Rd w .u64 kv ks) := Lib.hid hk
  obtain ⟨a, m, cp, rfl, hm, hm2, hc⟩ := hk
  clear hD hB hB1 hc
  have HM : Hid (ks.length = m) := Lib.hid hm
  go_enter Tryd.func6, Tryd.ntmps6
  go_upto_region 3 with (first | (go_at_call 13; (with_reducible refine HD.mono ?_); rintro e w1 ⟨rfl, hb1⟩))
  refine wp_world (fun W => Below w.heap.size w W ∧ Cs W w.heap.size 0 [.int .u64 D, .int .i64 th, .int .i64 T, .int .i64 K, .int .u64 sd]) ⟨by (repeat' (first | (with_reducible exact Below.refl _ _) | (with_reducible assumption) | (with_reducible refine Below.alloc ?_ ?_ _) | (with_reducible refine Below.drew ?_) | (with_reducible refine bel_drewN ?_ _) | (with_reducible refine Below.setCell ?_ ?_ _) | (with_reducible refine bel_after ?_ (by assumption)) | (exact Below.size (by assumption)) | omega | (simp only [World.size_alloc, World.size_setCell, World.size_drew, size_drewN] at *; omega))), Cs.new hb1 _ rfl⟩ ?_
  clear hb1 HD
  rintro W ⟨hb, hcs⟩
  simp only [Cs, Nat.zero_add, Nat.reduceAdd] at hcs
  obtain ⟨c0, f0, c1, f1, c2, f2, c3, f3, c4, f4, _⟩ := hcs
  have hne : W.heap.size ≠ w.heap.size := by have := World.block_lt_of_cell? W _ c0; simp only at this; omega
  have HC : Hid (∀ W2, Below W.heap.size W W2 → Calls Tryd.prog 14 #[.slice a m cp] W2 (Made ks W2)) := Lib.hid fun W2 h2 => clone_any _ ks W2 ((HK.out.below hb).below h2) (by omega)
  go_region_held3 (fun w' => w'.cell? ⟨w.heap.size, 0, none⟩ = some (.int .u64 D) ∧ w'.cell? ⟨w.heap.size, 1, none⟩ = some (.int .i64 th) ∧ w'.cell? ⟨w.heap.size, 2, none⟩ = some (.int .i64 T) ∧ w'.cell? ⟨w.heap.size, 3, none⟩ = some (.int .i64 K) ∧ w'.cell? ⟨w.heap.size, 4, none⟩ = some (.int .u64 sd)) (first | assumption | (exact ⟨bel_cell hb2 (bel_cell (w := W) (by (repeat' (first | (with_reducible exact Below.refl _ _) | (with_reducible assumption) | (with_reducible refine Below.alloc ?_ ?_ _) | (with_reducible refine Below.drew ?_) | (with_reducible refine bel_drewN ?_ _) | (with_reducible refine Below.setCell ?_ ?_ _) | (with_reducible refine bel_after ?_ (by assumption)) | (exact Below.size (by assumption)) | omega | (simp only [World.size_alloc, World.size_setCell, World.size_drew, size_drewN] at *; omega)))) c0), bel_cell hb2 (bel_cell (w := W) (by (repeat' (first | (with_reducible exact Below.refl _ _) | (with_reducible assumption) | (with_reducible refine Below.alloc ?_ ?_ _) | (with_reducible refine Below.drew ?_) | (with_reducible refine bel_drewN ?_ _) | (with_reducible refine Below.setCell ?_ ?_ _) | (with_reducible refine bel_after ?_ (by assumption)) | (exact Below.size (by assumption)) | omega | (simp only [World.size_alloc, World.size_setCell, World.size_drew, size_drewN] at *; omega)))) c1), bel_cell hb2 (bel_cell (w := W) (by (repeat' (first | (with_reducible exact Below.refl _ _) | (with_reducible assumption) | (with_reducible refine Below.alloc ?_ ?_ _) | (with_reducible refine Below.drew ?_) | (with_reducible refine bel_drewN ?_ _) | (with_reducible refine Below.setCell ?_ ?_ _) | (with_reducible refine bel_after ?_ (by assumption)) | (exact Below.size (by assumption)) | omega | (simp only [World.size_alloc, World.size_setCell, World.size_drew, size_drewN] at *; omega)))) c2), bel_cell hb2 (bel_cell (w := W) (by (repeat' (first | (with_reducible exact Below.refl _ _) | (with_reducible assumption) | (with_reducible refine Below.alloc ?_ ?_ _) | (with_reducible refine Below.drew ?_) | (with_reducible refine bel_drewN ?_ _) | (with_reducible refine Below.setCell ?_ ?_ _) | (with_reducible refine bel_after ?_ (by assumption)) | (exact Below.size (by assumption)) | omega | (simp only [World.size_alloc, World.size_setCell, World.size_drew, size_drewN] at *; omega)))) c3), bel_cell hb2 (bel_cell (w := W) (by (repeat' (first | (with_reducible exact Below.refl _ _) | (with_reducible assumption) | (with_reducible refine Below.alloc ?_ ?_ _) | (with_reducible refine Below.drew ?_) | (with_reducible refine bel_drewN ?_ _) | (with_reducible refine Below.setCell ?_ ?_ _) | (with_reducible refine bel_after ?_ (by assumption)) | (exact Below.size (by assumption)) | omega | (simp only [World.size_alloc, World.size_setCell, World.size_drew, size_drewN] at *; omega)))) c4)⟩) | go_keep) (first | (go_at_call 14; (with_reducible refine (HC.out _ (by (repeat' (first | (with_reducible exact Below.refl _ _) | (with_reducible assumption) | (with_reducible refine Below.alloc ?_ ?_ _) | (with_reducible refine Below.drew ?_) | (with_reducible refine bel_drewN ?_ _) | (with_reducible refine Below.setCell ?_ ?_ _) | (with_reducible refine bel_after ?_ (by assumption)) | (exact Below.size (by assumption)) | omega | (simp only [World.size_alloc, World.size_setCell, World.size_drew, size_drewN] at *; omega))))).mono ?_); rintro e w2 ⟨v2, rfl, hown2, hb2⟩; obtain ⟨A2, q2, rfl⟩ := own_slice hown2))
  · go_upto_region 4 with fail
    refine wp_world (fun W5 => Below w.heap.size w W5 ∧ XB W5 (w2.heap.size + 1) w2.heap.size w.heap.size D th T K sd (.slice A2 ks.length q2) ks (decide (0 < (ks.length : Int))) 0 (.map []) (ks.take 0)) ?_ ?_
    · have hs0 := hb.size
      have hs2 := hb2.size
      try simp only [size_drewN, World.size_drew, World.size_alloc] at hs2
      refine ⟨by (repeat' (first | (with_reducible exact Below.refl _ _) | (with_reducible assumption) | (with_reducible refine Below.alloc ?_ ?_ _) | (with_reducible refine Below.drew ?_) | (with_reducible refine bel_drewN ?_ _) | (with_reducible refine Below.setCell ?_ ?_ _) | (with_reducible refine bel_after ?_ (by assumption)) | (exact Below.size (by assumption)) | omega | (simp only [World.size_alloc, World.size_setCell, World.size_drew, size_drewN] at *; omega))), ?_, ?_, ?_, ?_, by simp, ?_, by omega, by omega⟩
      · exact Cs.at (by simp) (by simp [hm])
      · exact ((Own.lower hown2 (by (try simp only [size_drewN, World.size_drew, World.size_alloc]); omega)).alloc _).alloc _
      · exact (World.ownsMap_made w2 _ _ _).alloc _
      · intro u hu; simp at hu
      · intro g hg
        have := (hown2.base g hg).2
        omega
    clear c0 f0 c1 f1 c2 f2 c3 f3 c4 f4 hmm hown2 hb2
    rintro W5 ⟨hb5, hxb5⟩
    generalize w2.heap.size + 1 = X at *
    have HX5 : Hid (XB W5 X w2.heap.size w.heap.size D th T K sd (.slice A2 ks.length q2) ks (decide (0 < (ks.length : Int))) 0 (.map []) (ks.take 0)) := Lib.hid hxb5
    have HB5 : Hid (Below w.heap.size w W5) := Lib.hid hb5
    clear hxb5 hb5
    have hm2 : ks.length = m := HM.out
    go_wp2_with fail
    go_loopw [24] (fun iv wx => ∃ k : Nat, k ≤ m ∧ iv = .int .i64 k ∧ Below w.heap.size w wx ∧ ∃ n G, n ≤ k ∧ XB wx X w2.heap.size w.heap.size D th T K sd (.slice A2 ks.length q2) ks (decide (0 < (ks.length : Int))) n G (ks.take k)) (fun iv _ => m - (intOf iv).toNat)
    case atStart => exact ⟨0, by omega, rfl, HB5.out, 0, _, Nat.le_refl _, HX5.out⟩
    case round =>
      obtain ⟨k, hk, rfl, hb6, n, G, hn, h6⟩ := hrel
      have hcs := h6.cs
      simp only [Cs, Nat.zero_add, Nat.reduceAdd] at hcs
      obtain ⟨c0, f0, c1, f1, c2, f2, c3, f3, c4, f4, c5, f5, c6, f6, c7, f7, c8, f8, c9, f9, c10, f10, c11, f11, _⟩ := hcs
      have hG := h6.mp
      have H6 : Hid (XB wr X w2.heap.size w.heap.size D th T K sd (.slice A2 ks.length q2) ks (decide (0 < (ks.length : Int))) n G (ks.take k)) := Lib.hid h6
      have HB6 : Hid (Below w.heap.size w wr) := Lib.hid hb6
      clear h6 hb6
      by_cases hlt : k < m
      · obtain ⟨a1, m1, cp1, he, hm1, _, hc⟩ := HK.out
        injection he with he1 he2 he3
        subst he1; subst he2; subst he3
        obtain ⟨b, off, rfl, hcell⟩ := hc (by omega)
        have d := bel_cell HB6.out (hcell k hlt)
        have hmem : ks[k]?.getD 0 ∈ ks := by rw [List.getElem?_eq_getElem (by omega)]; exact List.getElem_mem (by omega)
        have hkey := keyOf_u64 (hwf _ hmem)
        have HTK : Hid (ks.take (k + 1) = ks.take k ++ [ks[k]?.getD 0]) := Lib.hid (by rw [take_step (by omega), List.getD_eq_getElem?_getD])
        clear hcell hc hmem hwf
        generalize ks[k]?.getD 0 = u at *
        have hnl : n < maxLen := by unfold maxLen; omega
        go_wp2_with (first | (at_mapUpdate; refine wpList_mapUpdate_own _ rfl _ _ _ 41 rfl 22 3 keyU64 Tryd.underlying41 _ w2.heap.size n G rfl hG hnl _ _ _ rfl rfl hkey (.lit (.int .i64 1)) [] (plainElem_int Tryd.underlying3 (by decide)) ?_; intro w7 hown7 hgr7))
        go_roundw
        case rel => exact ⟨k + 1, by omega, by simp, HB6.out.grown hgr7 (HB6.out.size) (fun z hz => by have := H6.out.mb; cases hz; exact this), n + 1, _, by omega, by rw [HTK.out]; exact H6.out.put hgr7 hown7⟩
        case measure => simp [intOf]; omega
      · have hkm : k = m := by omega
        have HKM : Hid (k = m) := Lib.hid hkm
        clear hkm
        have hlt2 : ¬ (k : Int) < (m : Int) := by omega
        go_wp2
        go_returns
        have h7 := H6.out
        rw [List.take_of_length_le (by have := HKM.out; have := HM.out; omega)] at h7
        exact ⟨X, w2.heap.size, _, n, G, rfl, HB6.out, h7, by have := HKM.out; have := HM.out; omega⟩
  · go_upto_region 4 with fail
    refine wp_world (fun W5 => Below w.heap.size w W5 ∧ XB W5 w2.heap.size W.heap.size w.heap.size D th T K sd (.slice A2 ks.length q2) ks (decide (0 < (ks.length : Int))) 0 (.map []) (ks.take 0)) ?_ ?_
    · have hs0 := hb.size
      have hs2 := hb2.size
      try simp only [size_drewN, World.size_drew, World.size_alloc] at hs2
      refine ⟨by (repeat' (first | (with_reducible exact Below.refl _ _) | (with_reducible assumption) | (with_reducible refine Below.alloc ?_ ?_ _) | (with_reducible refine Below.drew ?_) | (with_reducible refine bel_drewN ?_ _) | (with_reducible refine Below.setCell ?_ ?_ _) | (with_reducible refine bel_after ?_ (by assumption)) | (exact Below.size (by assumption)) | omega | (simp only [World.size_alloc, World.size_setCell, World.size_drew, size_drewN] at *; omega))), ?_, ?_, ?_, ?_, by omega, ?_, by omega, by omega⟩
      · exact Cs.at rfl (by simp [hm])
      · exact (Own.lower hown2 (by (try simp only [size_drewN, World.size_drew, World.size_alloc]); omega)).alloc _
      · exact (But.map (S := fun _ => False) (But.of_below hb2) (World.ownsMap_made _ _ _ _) id).alloc _
      · intro u hu; simp at hu
      · intro g hg
        have h1 := (hown2.base g hg).1
        have h2 := (hown2.base g hg).2
        try simp only [size_drewN, World.size_drew, World.size_alloc] at h1
        omega
    clear c0 f0 c1 f1 c2 f2 c3 f3 c4 f4 hmm hown2 hb2
    rintro W5 ⟨hb5, hxb5⟩
    generalize w2.heap.size = X at *
    have HX5 : Hid (XB W5 X W.heap.size w.heap.size D th T K sd (.slice A2 ks.length q2) ks (decide (0 < (ks.length : Int))) 0 (.map []) (ks.take 0)) := Lib.hid hxb5
    have HB5 : Hid (Below w.heap.size w W5) := Lib.hid hb5
    clear hxb5 hb5
    have hm2 : ks.length = m := HM.out
    go_wp2_with fail
    go_loopw [24] (fun iv wx => ∃ k : Nat, k ≤ m ∧ iv = .int .i64 k ∧ Below w.heap.size w wx ∧ ∃ n G, n ≤ k ∧ XB wx X W.heap.size w.heap.size D th T K sd (.slice A2 ks.length q2) ks (decide (0 < (ks.length : Int))) n G (ks.take k)) (fun iv _ => m - (intOf iv).toNat)
    case atStart => exact ⟨0, by omega, rfl, HB5.out, 0, _, Nat.le_refl _, HX5.out⟩
    case round =>
      obtain ⟨k, hk, rfl, hb6, n, G, hn, h6⟩ := hrel
      have hcs := h6.cs
      simp only [Cs, Nat.zero_add, Nat.reduceAdd] at hcs
      obtain ⟨c0, f0, c1, f1, c2, f2, c3, f3, c4, f4, c5, f5, c6, f6, c7, f7, c8, f8, c9, f9, c10, f10, c11, f11, _⟩ := hcs
      have hG := h6.mp
      have H6 : Hid (XB wr X W.heap.size w.heap.size D th T K sd (.slice A2 ks.length q2) ks (decide (0 < (ks.length : Int))) n G (ks.take k)) := Lib.hid h6
      have HB6 : Hid (Below w.heap.size w wr) := Lib.hid hb6
      clear h6 hb6
      by_cases hlt : k < m
      · obtain ⟨a1, m1, cp1, he, hm1, _, hc⟩ := HK.out
        injection he with he1 he2 he3
        subst he1; subst he2; subst he3
        obtain ⟨b, off, rfl, hcell⟩ := hc (by omega)
        have d := bel_cell HB6.out (hcell k hlt)
        have hmem : ks[k]?.getD 0 ∈ ks := by rw [List.getElem?_eq_getElem (by omega)]; exact List.getElem_mem (by omega)
        have hkey := keyOf_u64 (hwf _ hmem)
        have HTK : Hid (ks.take (k + 1) = ks.take k ++ [ks[k]?.getD 0]) := Lib.hid (by rw [take_step (by omega), List.getD_eq_getElem?_getD])
        clear hcell hc hmem hwf
        generalize ks[k]?.getD 0 = u at *
        have hnl : n < maxLen := by unfold maxLen; omega
        go_wp2_with (first | (at_mapUpdate; refine wpList_mapUpdate_own _ rfl _ _ _ 41 rfl 22 3 keyU64 Tryd.underlying41 _ W.heap.size n G rfl hG hnl _ _ _ rfl rfl hkey (.lit (.int .i64 1)) [] (plainElem_int Tryd.underlying3 (by decide)) ?_; intro w7 hown7 hgr7))
        go_roundw
        case rel => exact ⟨k + 1, by omega, by simp, HB6.out.grown hgr7 (HB6.out.size) (fun z hz => by have := H6.out.mb; cases hz; exact this), n + 1, _, by omega, by rw [HTK.out]; exact H6.out.put hgr7 hown7⟩
        case measure => simp [intOf]; omega
      · have hkm : k = m := by omega
        have HKM : Hid (k = m) := Lib.hid hkm
        clear hkm
        have hlt2 : ¬ (k : Int) < (m : Int) := by omega
        go_wp2
        go_returns
        have h7 := H6.out
        rw [List.take_of_length_le (by have := HKM.out; have := HM.out; omega)] at h7
        exact ⟨X, W.heap.size, _, n, G, rfl, HB6.out, h7, by have := HKM.out; have := HM.out; omega⟩
end Go.Proofs.YtaclkachohkenaaDoor
