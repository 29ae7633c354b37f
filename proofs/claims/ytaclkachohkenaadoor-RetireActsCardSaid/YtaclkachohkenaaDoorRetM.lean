import Derived.Test.YtaclkachohkenaaDoorRetL
import Derived.BigRegion
set_option linter.unusedVariables false
set_option linter.unusedSimpArgs false
namespace Go.Proofs.YtaclkachohkenaaDoor
open Go.RowKit Go.Maps

set_option maxHeartbeats 4000000 in
theorem newNo (D th T K sd m : Int) (h0 : 0 ≤ D) (kv : Value) (mb : Nat) (w : World) (hB : Bd w) (hs : siteOk D th T K = false) (hm : w.cell? ⟨mb, 0, none⟩ = some (.int .u64 m)) :
    Calls Tryd.prog 5 #[siteV D th T K sd, kv, .slice (some ⟨mb, 0, none⟩) 1 1] w (NoPost w) := by
  have hL := lookNo D th T K sd h0 kv (w.alloc (.cells #[.int .u64 D, .int .i64 th, .int .i64 T, .int .i64 K, .int .u64 sd] 24)) (hB.below (Below.alloc (Below.refl _ _) (Nat.le_refl _) _)) hs
  have hmb := World.block_lt_of_cell? w _ hm
  simp only at hmb
  unfold siteV at *
  clear hB
  go_enter Tryd.func5, Tryd.ntmps5
  go_upto_region 2 with (first | (go_at_call 6; (with_reducible refine hL.mono ?_); rintro e w1 ⟨X, rfl, hb1, hcs, hX⟩))
  have hsz1 : w.heap.size + 1 ≤ w1.heap.size := by have := hb1.size; simp only [World.size_alloc] at this; omega
  simp only [World.size_alloc] at hX
  refine wp_world (fun W => Below w.heap.size w W ∧ Cs W X 0 zeroX ∧ W.cell? ⟨mb, 0, none⟩ = some (.int .u64 m)) ⟨by (repeat' (first | (with_reducible exact Below.refl _ _) | (with_reducible assumption) | (with_reducible refine Below.alloc ?_ ?_ _) | (with_reducible refine Below.drew ?_) | (with_reducible refine bel_drewN ?_ _) | (with_reducible refine Below.setCell ?_ ?_ _) | (with_reducible refine bel_after ?_ (by assumption)) | (exact Below.size (by assumption)) | omega | (simp only [World.size_alloc, World.size_setCell, World.size_drew, size_drewN] at *; omega))), hcs, bel_cell hb1 (bel_cell (Below.alloc (Below.refl _ _) (Nat.le_refl _) _) hm)⟩ ?_
  clear hb1 hcs hL hm
  rintro W ⟨hb, hcs, hm⟩
  have HB : Hid (Below w.heap.size w W) := Lib.hid hb
  simp only [Cs, Nat.zero_add, Nat.reduceAdd] at hcs
  obtain ⟨c0, f0, c1, f1, c2, f2, c3, f3, c4, f4, c5, f5, c6, f6, c7, f7, c8, f8, c9, f9, c10, f10, c11, f11, _⟩ := hcs
  clear hb
  by_cases hm0 : m = 0
  · subst hm0
    go_wp2_with fail
    refine wp_loop_rounds 2 ?_
    rw [rounds_succ]
    go_wp2
    rw [rounds_succ]
    go_wp2
    go_region
    all_goals go_wp2
    go_returns
    have HBX := HB.out
    exact ⟨X, rfl, by (repeat' (first | (with_reducible exact Below.refl _ _) | (with_reducible assumption) | (with_reducible refine Below.alloc ?_ ?_ _) | (with_reducible refine Below.drew ?_) | (with_reducible refine bel_drewN ?_ _) | (with_reducible refine Below.setCell ?_ ?_ _) | (with_reducible refine bel_after ?_ (by assumption)) | (exact Below.size (by assumption)) | omega | (simp only [World.size_alloc, World.size_setCell, World.size_drew, size_drewN] at *; omega))), by simp [Cs, go_sem, c0, f0, c1, f1, c2, f2, c3, f3, c4, f4, c5, f5, c6, f6, c7, f7, c8, f8, c9, f9, c10, f10, c11, f11], by omega⟩
  · skip
    go_wp2_with fail
    refine wp_loop_rounds 2 ?_
    rw [rounds_succ]
    go_wp2
    rw [rounds_succ]
    go_wp2
    go_region
    all_goals go_wp2
    go_returns
    have HBX := HB.out
    exact ⟨X, rfl, by (repeat' (first | (with_reducible exact Below.refl _ _) | (with_reducible assumption) | (with_reducible refine Below.alloc ?_ ?_ _) | (with_reducible refine Below.drew ?_) | (with_reducible refine bel_drewN ?_ _) | (with_reducible refine Below.setCell ?_ ?_ _) | (with_reducible refine bel_after ?_ (by assumption)) | (exact Below.size (by assumption)) | omega | (simp only [World.size_alloc, World.size_setCell, World.size_drew, size_drewN] at *; omega))), by simp [Cs, go_sem, c0, f0, c1, f1, c2, f2, c3, f3, c4, f4, c5, f5, c6, f6, c7, f7, c8, f8, c9, f9, c10, f10, c11, f11], by omega⟩
end Go.Proofs.YtaclkachohkenaaDoor
