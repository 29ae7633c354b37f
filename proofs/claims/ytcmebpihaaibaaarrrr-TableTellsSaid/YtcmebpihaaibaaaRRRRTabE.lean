import Derived.Test.YtcmebpihaaibaaaRRRRTabD
set_option linter.unusedVariables false
set_option linter.unusedSimpArgs false
namespace Go.Proofs.YtcmebpihaaibaaaRRRR
open Go.RowKit

set_option maxRecDepth 100000 in
set_option maxHeartbeats 4000000 in
theorem awake15 (w : World) : Calls Try.prog 23 #[] w (Ret (.bool true) w) := by
  have c1 : ∀ w, Calls Try.prog 13 #[.int .i64 0] w fun e w' => e = .returned (.int .i64 16) ∧ w = w' := fun w => by have h := size_any 0 w; rwa [show tsize 0 = 16 from by decide] at h
  have c2 : ∀ w, Calls Try.prog 19 #[.int .i64 0, .int .i64 0] w fun e w' => e = .returned (.int .i64 7) ∧ w = w' := fun w => by have h := groupCell_any 0 0 w; rwa [show tgroup 0 0 = 7 from by decide] at h
  have c3 : ∀ w, Calls Try.prog 21 #[.int .i64 0, .int .i64 0, .int .i64 7] w fun e w' => e = .returned (.int .i64 15) ∧ w = w' := fun w => by have h := slotCell_any 0 0 7 w; rwa [show tslot 0 0 7 = 15 from by decide] at h
  have c4 : ∀ w, Calls Try.prog 9 #[.int .i64 0, .int .i64 15] w (Ret (.agg #[.int .i64 3, .int .i64 0, .int .i64 7]) w) := fun w => by have h := where_any 0 15 w; rwa [show twhere 0 15 = (3, 0, 7) from by decide] at h
  have c5 : ∀ w, Calls Try.prog 17 #[.int .i64 (-1)] w fun e w' => e = .returned (.int .i64 6) ∧ w = w' := fun w => by have h := stripe_any (-1) (by decide) (by decide) w; rwa [show tstripe (-1) = 6 from by decide] at h
  have c6 : ∀ w, Calls Try.prog 15 #[.int .i64 1] w fun e w' => e = .returned (.int .i64 14) ∧ w = w' := fun w => by have h := limit_any 1 w; rwa [show 7 * grp 1 = 14 from by decide] at h
  have c7 : ∀ w, Calls Try.prog 11 #[.agg #[.int .u64 1, .int .i64 0]] w (Ret (.bool true) w) := fun w => by have h := right_any 1 0 (by decide) w; rwa [show tright 1 0 = true from by decide] at h
  have c8 : ∀ w, Calls Try.prog 11 #[.agg #[.int .u64 1, .int .i64 10]] w (Ret (.bool false) w) := fun w => by have h := right_any 1 10 (by decide) w; rwa [show tright 1 10 = false from by decide] at h
  have c9 : ∀ w, Calls Try.prog 13 #[.int .i64 (-1)] w fun e w' => e = .returned (.int .i64 0) ∧ w = w' := fun w => by have h := size_any (-1) w; rwa [show tsize (-1) = 0 from by decide] at h
  go_enter Try.func23, Try.ntmps23
  go_wp2_with (first | (go_at_call 13; (with_reducible refine (c1 _).mono ?_); rintro e w' ⟨rfl, rfl⟩) | (go_at_call 19; (with_reducible refine (c2 _).mono ?_); rintro e w' ⟨rfl, rfl⟩) | (go_at_call 21; (with_reducible refine (c3 _).mono ?_); rintro e w' ⟨rfl, rfl⟩) | (go_at_call 9; (with_reducible refine (c4 _).mono ?_); rintro e w4 ⟨rfl, hb4⟩) | (go_at_call 17; (with_reducible refine (c5 _).mono ?_); rintro e w' ⟨rfl, rfl⟩) | (go_at_call 15; (with_reducible refine (c6 _).mono ?_); rintro e w' ⟨rfl, rfl⟩) | (go_at_call 11; (with_reducible refine (c7 _).mono ?_); rintro e w7 ⟨rfl, hb7⟩) | (go_at_call 11; (with_reducible refine (c8 _).mono ?_); rintro e w8 ⟨rfl, hb8⟩) | (go_at_call 13; (with_reducible refine (c9 _).mono ?_); rintro e w' ⟨rfl, rfl⟩))
  go_returns
  exact Ret.mk' rfl (by (repeat' (first | (with_reducible exact Below.refl _ _) | (with_reducible assumption) | (with_reducible refine Below.alloc ?_ ?_ _) | (with_reducible refine Below.drew ?_) | (with_reducible refine bel_drewN ?_ _) | (with_reducible refine Below.setCell ?_ ?_ _) | (with_reducible refine bel_after ?_ (by assumption)) | (exact Below.size (by assumption)) | omega | (simp only [World.size_alloc, World.size_setCell, World.size_drew, size_drewN] at *; omega))))
end Go.Proofs.YtcmebpihaaibaaaRRRR
