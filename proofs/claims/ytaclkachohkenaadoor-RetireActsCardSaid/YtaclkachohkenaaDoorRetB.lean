import Derived.Test.YtaclkachohkenaaDoorRetA
set_option linter.unusedVariables false
set_option linter.unusedSimpArgs false
namespace Go.Proofs.YtaclkachohkenaaDoor
open Go.RowKit

abbrev siteV (D th T K sd : Int) : Value := .agg #[.int .u64 D, .int .i64 th, .int .i64 T, .int .i64 K, .int .u64 sd]

theorem siteOk_no {D th T K : Int} (h : ¬ (D ≠ 0 ∧ 1 ≤ T ∧ T ≤ 64 ∧ 1 ≤ K ∧ K ≤ 64 ∧ 0 ≤ th ∧ th < T)) : siteOk D th T K = false := decide_eq_false h
theorem siteOk_of {D th T K : Int} (h : siteOk D th T K = true) : D ≠ 0 ∧ 1 ≤ T ∧ T ≤ 64 ∧ 1 ≤ K ∧ K ≤ 64 ∧ 0 ≤ th ∧ th < T := of_decide_eq_true h

set_option maxHeartbeats 1000000 in
theorem deskRight_any (D th T K sd : Int) (h0 : 0 ≤ D) (w : World) (hB : Bd w) :
    Calls Tryd.prog 13 #[siteV D th T K sd] w (Ret (.bool (siteOk D th T K)) w) := by
  have hA := fun n w h => within0 n w h
  have hA' := fun n w h => within1 n w h
  unfold siteV
  have h1 : Bd (w.alloc (.cells #[.int .u64 D, .int .i64 th, .int .i64 T, .int .i64 K, .int .u64 sd] 24)) := hB.below (Below.alloc (Below.refl _ _) (Nat.le_refl _) _)
  by_cases hD : D = 0
  · go_enter Tryd.func13, Tryd.ntmps13
    go_wp2
    go_returns
    exact Ret.mk' (by simp [siteOk, hD]) (by (repeat' (first | (with_reducible exact Below.refl _ _) | (with_reducible assumption) | (with_reducible refine Below.alloc ?_ ?_ _) | (with_reducible refine Below.drew ?_) | (with_reducible refine bel_drewN ?_ _) | (with_reducible refine Below.setCell ?_ ?_ _) | (with_reducible refine bel_after ?_ (by assumption)) | (exact Below.size (by assumption)) | omega | (simp only [World.size_alloc, World.size_setCell, World.size_drew, size_drewN] at *; omega))))
  · by_cases hT : 1 ≤ T ∧ T ≤ 64
    · by_cases hK : 1 ≤ K ∧ K ≤ 64
      · by_cases hth : 0 ≤ th
        · by_cases hl : th < T
          · go_enter Tryd.func13, Tryd.ntmps13
            go_wp2_with (first | (go_at_call 18; (with_reducible refine (hA _ _ h1).mono ?_); rintro e w' ⟨rfl, rfl⟩) | (go_at_call 18; (with_reducible refine (hA' _ _ h1).mono ?_); rintro e w' ⟨rfl, rfl⟩))
            go_returns
            exact Ret.mk' (by simp [siteOk, hD, hT, hK, hth, hl]) (by (repeat' (first | (with_reducible exact Below.refl _ _) | (with_reducible assumption) | (with_reducible refine Below.alloc ?_ ?_ _) | (with_reducible refine Below.drew ?_) | (with_reducible refine bel_drewN ?_ _) | (with_reducible refine Below.setCell ?_ ?_ _) | (with_reducible refine bel_after ?_ (by assumption)) | (exact Below.size (by assumption)) | omega | (simp only [World.size_alloc, World.size_setCell, World.size_drew, size_drewN] at *; omega))))
          · go_enter Tryd.func13, Tryd.ntmps13
            go_wp2_with (first | (go_at_call 18; (with_reducible refine (hA _ _ h1).mono ?_); rintro e w' ⟨rfl, rfl⟩) | (go_at_call 18; (with_reducible refine (hA' _ _ h1).mono ?_); rintro e w' ⟨rfl, rfl⟩))
            go_returns
            exact Ret.mk' (by rw [siteOk_no (by omega)]; simp; omega) (by (repeat' (first | (with_reducible exact Below.refl _ _) | (with_reducible assumption) | (with_reducible refine Below.alloc ?_ ?_ _) | (with_reducible refine Below.drew ?_) | (with_reducible refine bel_drewN ?_ _) | (with_reducible refine Below.setCell ?_ ?_ _) | (with_reducible refine bel_after ?_ (by assumption)) | (exact Below.size (by assumption)) | omega | (simp only [World.size_alloc, World.size_setCell, World.size_drew, size_drewN] at *; omega))))
        · go_enter Tryd.func13, Tryd.ntmps13
          go_wp2_with (first | (go_at_call 18; (with_reducible refine (hA _ _ h1).mono ?_); rintro e w' ⟨rfl, rfl⟩) | (go_at_call 18; (with_reducible refine (hA' _ _ h1).mono ?_); rintro e w' ⟨rfl, rfl⟩))
          go_returns
          exact Ret.mk' (by rw [siteOk_no (by omega)]; rfl) (by (repeat' (first | (with_reducible exact Below.refl _ _) | (with_reducible assumption) | (with_reducible refine Below.alloc ?_ ?_ _) | (with_reducible refine Below.drew ?_) | (with_reducible refine bel_drewN ?_ _) | (with_reducible refine Below.setCell ?_ ?_ _) | (with_reducible refine bel_after ?_ (by assumption)) | (exact Below.size (by assumption)) | omega | (simp only [World.size_alloc, World.size_setCell, World.size_drew, size_drewN] at *; omega))))
      · have hK' : decide (1 ≤ K ∧ K ≤ 64) = false := by simp; omega
        go_enter Tryd.func13, Tryd.ntmps13
        go_wp2_with (first | (go_at_call 18; (with_reducible refine (hA _ _ h1).mono ?_); rintro e w' ⟨rfl, rfl⟩) | (go_at_call 18; (with_reducible refine (hA' _ _ h1).mono ?_); rintro e w' ⟨rfl, rfl⟩))
        go_returns
        exact Ret.mk' (by simp [siteOk]; omega) (by (repeat' (first | (with_reducible exact Below.refl _ _) | (with_reducible assumption) | (with_reducible refine Below.alloc ?_ ?_ _) | (with_reducible refine Below.drew ?_) | (with_reducible refine bel_drewN ?_ _) | (with_reducible refine Below.setCell ?_ ?_ _) | (with_reducible refine bel_after ?_ (by assumption)) | (exact Below.size (by assumption)) | omega | (simp only [World.size_alloc, World.size_setCell, World.size_drew, size_drewN] at *; omega))))
    · have hT' : decide (1 ≤ T ∧ T ≤ 64) = false := by simp; omega
      go_enter Tryd.func13, Tryd.ntmps13
      go_wp2_with (first | (go_at_call 18; (with_reducible refine (hA _ _ h1).mono ?_); rintro e w' ⟨rfl, rfl⟩) | (go_at_call 18; (with_reducible refine (hA' _ _ h1).mono ?_); rintro e w' ⟨rfl, rfl⟩))
      go_returns
      exact Ret.mk' (by simp [siteOk]; omega) (by (repeat' (first | (with_reducible exact Below.refl _ _) | (with_reducible assumption) | (with_reducible refine Below.alloc ?_ ?_ _) | (with_reducible refine Below.drew ?_) | (with_reducible refine bel_drewN ?_ _) | (with_reducible refine Below.setCell ?_ ?_ _) | (with_reducible refine bel_after ?_ (by assumption)) | (exact Below.size (by assumption)) | omega | (simp only [World.size_alloc, World.size_setCell, World.size_drew, size_drewN] at *; omega))))

set_option maxHeartbeats 1000000 in
theorem refRight_any (D th T K sd : Int) (h0 : 0 ≤ D) (w : World) :
    Calls Tryd.prog 7 #[siteV D th T K sd] w (Ret (.bool (siteOk D th T K)) w) := by
  unfold siteV
  by_cases hD : D > 0
  · by_cases hT : 1 ≤ T
    · by_cases hT2 : T ≤ 64
      · by_cases hth : 0 ≤ th
        · by_cases hl : th < T
          · by_cases hK : 1 ≤ K
            · by_cases hK2 : K ≤ 64
              · go_enter Tryd.func7, Tryd.ntmps7
                go_wp2
                go_returns
                exact Ret.mk' (by simp [siteOk]; omega) (by (repeat' (first | (with_reducible exact Below.refl _ _) | (with_reducible assumption) | (with_reducible refine Below.alloc ?_ ?_ _) | (with_reducible refine Below.drew ?_) | (with_reducible refine bel_drewN ?_ _) | (with_reducible refine Below.setCell ?_ ?_ _) | (with_reducible refine bel_after ?_ (by assumption)) | (exact Below.size (by assumption)) | omega | (simp only [World.size_alloc, World.size_setCell, World.size_drew, size_drewN] at *; omega))))
              · go_enter Tryd.func7, Tryd.ntmps7
                go_wp2
                go_returns
                exact Ret.mk' (by simp [siteOk]; omega) (by (repeat' (first | (with_reducible exact Below.refl _ _) | (with_reducible assumption) | (with_reducible refine Below.alloc ?_ ?_ _) | (with_reducible refine Below.drew ?_) | (with_reducible refine bel_drewN ?_ _) | (with_reducible refine Below.setCell ?_ ?_ _) | (with_reducible refine bel_after ?_ (by assumption)) | (exact Below.size (by assumption)) | omega | (simp only [World.size_alloc, World.size_setCell, World.size_drew, size_drewN] at *; omega))))
            · go_enter Tryd.func7, Tryd.ntmps7
              go_wp2
              go_returns
              exact Ret.mk' (by simp [siteOk]; omega) (by (repeat' (first | (with_reducible exact Below.refl _ _) | (with_reducible assumption) | (with_reducible refine Below.alloc ?_ ?_ _) | (with_reducible refine Below.drew ?_) | (with_reducible refine bel_drewN ?_ _) | (with_reducible refine Below.setCell ?_ ?_ _) | (with_reducible refine bel_after ?_ (by assumption)) | (exact Below.size (by assumption)) | omega | (simp only [World.size_alloc, World.size_setCell, World.size_drew, size_drewN] at *; omega))))
          · go_enter Tryd.func7, Tryd.ntmps7
            go_wp2
            go_returns
            exact Ret.mk' (by simp [siteOk]; omega) (by (repeat' (first | (with_reducible exact Below.refl _ _) | (with_reducible assumption) | (with_reducible refine Below.alloc ?_ ?_ _) | (with_reducible refine Below.drew ?_) | (with_reducible refine bel_drewN ?_ _) | (with_reducible refine Below.setCell ?_ ?_ _) | (with_reducible refine bel_after ?_ (by assumption)) | (exact Below.size (by assumption)) | omega | (simp only [World.size_alloc, World.size_setCell, World.size_drew, size_drewN] at *; omega))))
        · go_enter Tryd.func7, Tryd.ntmps7
          go_wp2
          go_returns
          exact Ret.mk' (by simp [siteOk]; omega) (by (repeat' (first | (with_reducible exact Below.refl _ _) | (with_reducible assumption) | (with_reducible refine Below.alloc ?_ ?_ _) | (with_reducible refine Below.drew ?_) | (with_reducible refine bel_drewN ?_ _) | (with_reducible refine Below.setCell ?_ ?_ _) | (with_reducible refine bel_after ?_ (by assumption)) | (exact Below.size (by assumption)) | omega | (simp only [World.size_alloc, World.size_setCell, World.size_drew, size_drewN] at *; omega))))
      · go_enter Tryd.func7, Tryd.ntmps7
        go_wp2
        go_returns
        exact Ret.mk' (by simp [siteOk]; omega) (by (repeat' (first | (with_reducible exact Below.refl _ _) | (with_reducible assumption) | (with_reducible refine Below.alloc ?_ ?_ _) | (with_reducible refine Below.drew ?_) | (with_reducible refine bel_drewN ?_ _) | (with_reducible refine Below.setCell ?_ ?_ _) | (with_reducible refine bel_after ?_ (by assumption)) | (exact Below.size (by assumption)) | omega | (simp only [World.size_alloc, World.size_setCell, World.size_drew, size_drewN] at *; omega))))
    · go_enter Tryd.func7, Tryd.ntmps7
      go_wp2
      go_returns
      exact Ret.mk' (by simp [siteOk]; omega) (by (repeat' (first | (with_reducible exact Below.refl _ _) | (with_reducible assumption) | (with_reducible refine Below.alloc ?_ ?_ _) | (with_reducible refine Below.drew ?_) | (with_reducible refine bel_drewN ?_ _) | (with_reducible refine Below.setCell ?_ ?_ _) | (with_reducible refine bel_after ?_ (by assumption)) | (exact Below.size (by assumption)) | omega | (simp only [World.size_alloc, World.size_setCell, World.size_drew, size_drewN] at *; omega))))
  · go_enter Tryd.func7, Tryd.ntmps7
    go_wp2
    go_returns
    exact Ret.mk' (by simp [siteOk]; omega) (by (repeat' (first | (with_reducible exact Below.refl _ _) | (with_reducible assumption) | (with_reducible refine Below.alloc ?_ ?_ _) | (with_reducible refine Below.drew ?_) | (with_reducible refine bel_drewN ?_ _) | (with_reducible refine Below.setCell ?_ ?_ _) | (with_reducible refine bel_after ?_ (by assumption)) | (exact Below.size (by assumption)) | omega | (simp only [World.size_alloc, World.size_setCell, World.size_drew, size_drewN] at *; omega))))

theorem deskCell1 (t : Nat) (ht : t < 64) (w : World) : Calls Tryd.prog 19 #[.int .i64 t, .int .i64 1] w fun e w' => e = .returned (.int .i64 (3 + 2 * t : Nat)) ∧ w = w' := by
  have a1 : IntKind.i64.wrap (2 * (t : Int)) = 2 * t := by simp [IntKind.wrap, IntKind.signed, IntKind.bits]; omega
  have a2 : IntKind.i64.wrap (2 + 2 * (t : Int)) = 2 + 2 * t := by simp [IntKind.wrap, IntKind.signed, IntKind.bits]; omega
  have a3 : IntKind.i64.wrap (2 + 2 * (t : Int) + 1) = 2 + 2 * t + 1 := by simp [IntKind.wrap, IntKind.signed, IntKind.bits]; omega
  go_enter Tryd.func19, Tryd.ntmps19
  go_wp2
  go_ret
  refine ⟨ret_val ?_, rfl⟩
  simp [go_sem]
  omega
theorem deskBox_any (t : Nat) (ht : t < 64) (w : World) : Calls Tryd.prog 15 #[.int .i64 t] w fun e w' => e = .returned (.int .i64 (3 + 2 * t : Nat)) ∧ w = w' := by
  have hC := fun w => deskCell1 t ht w
  go_enter Tryd.func15, Tryd.ntmps15
  go_wp2_with (first | (go_at_call 19; (with_reducible refine (hC _).mono ?_); rintro e w' ⟨rfl, rfl⟩))
  go_ret
  exact ⟨rfl, rfl⟩
theorem refBox_any (t : Nat) (ht : t < 64) (w : World) : Calls Tryd.prog 21 #[.int .i64 t] w fun e w' => e = .returned (.int .i64 (3 + 2 * t : Nat)) ∧ w = w' := by
  have a2 : IntKind.i64.wrap (3 + (t : Int)) = 3 + t := by simp [IntKind.wrap, IntKind.signed, IntKind.bits]; omega
  have a3 : IntKind.i64.wrap (3 + (t : Int) + t) = 3 + t + t := by simp [IntKind.wrap, IntKind.signed, IntKind.bits]; omega
  go_enter Tryd.func21, Tryd.ntmps21
  go_wp2
  go_ret
  refine ⟨ret_val ?_, rfl⟩
  simp [go_sem]
  omega

/-- An act's numbers. -/
structure A5 where
  k : Int
  b : Int
  c : Int
  o : Int
  n : Int
def A5.vals (x : A5) : List Value := [.int .i64 x.k, .int .u64 x.b, .int .i64 x.c, .int .u64 x.o, .int .u64 x.n]
abbrev A5.val (x : A5) : Value := .agg #[.int .i64 x.k, .int .u64 x.b, .int .i64 x.c, .int .u64 x.o, .int .u64 x.n]
def A5.nil : A5 := ⟨0, 0, 0, 0, 0⟩

/-- A tape's state: how many are read, whether it is over, the act. -/
structure TS where
  i : Nat
  over : Bool
  act : A5
def TS.step (gs : List Int) (s : TS) (x : A5) : Int × TS :=
  if s.over then (0, s) else if s.i < gs.length then (gs[s.i]?.getD 0, { s with i := s.i + 1 }) else (0, ⟨s.i, true, x⟩)
theorem step_over {gs : List Int} {i : Nat} {a x : A5} : TS.step gs ⟨i, true, a⟩ x = (0, ⟨i, true, a⟩) := rfl
theorem step_more {gs : List Int} {i : Nat} {a x : A5} (h : i < gs.length) : TS.step gs ⟨i, false, a⟩ x = (gs[i]?.getD 0, ⟨i + 1, false, a⟩) := by simp [TS.step, h]
theorem step_end {gs : List Int} {i : Nat} {a x : A5} (h : ¬ i < gs.length) : TS.step gs ⟨i, false, a⟩ x = (0, ⟨i, true, x⟩) := by simp [TS.step, h]

/-- The tape in block t. -/
structure Tape (w : World) (t : Nat) (v : Value) (gs : List Int) (s : TS) : Prop where
  cs : Cs w t 0 ([v, .int .i64 s.i, .bool s.over] ++ s.act.vals)
  rd : Rd w .u64 v gs
  le : s.i ≤ gs.length
  ne : ∀ g, v.ownBlock = some g → g ≠ t
theorem Tape.but {S : Nat → Prop} {w w' : World} {t : Nat} {v : Value} {gs : List Int} {s : TS} (hb : But S w w') (h : Tape w t v gs s) (hn : ¬ S t) (hv : ∀ g, v.ownBlock = some g → ¬ S g) : Tape w' t v gs s :=
  ⟨h.cs.but hb hn, h.rd.but hb hv, h.le, h.ne⟩
theorem Tape.below {w w' : World} {t : Nat} {v : Value} {gs : List Int} {s : TS} (hb : Below w.heap.size w w') (h : Tape w t v gs s) : Tape w' t v gs s := Tape.but (S := fun _ => False) (But.of_below hb) h id (fun _ _ q => q)
theorem Tape.lt {w : World} {t : Nat} {v : Value} {gs : List Int} {s : TS} (h : Tape w t v gs s) : t < w.heap.size := h.cs.lt
end Go.Proofs.YtaclkachohkenaaDoor
