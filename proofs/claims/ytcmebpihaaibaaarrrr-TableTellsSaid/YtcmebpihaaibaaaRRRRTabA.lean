import Derived.Test.YtcmebpihaaibaaaRRRRLib
set_option linter.unusedVariables false
set_option linter.unusedSimpArgs false
namespace Go.Proofs.YtcmebpihaaibaaaRRRR
open Go.RowKit

/-- How many groups. -/
def grp (k : Int) : Int := if k < 0 ∨ 9 < k then 0 else 2 ^ k.toNat
theorem grp_out {k : Int} (h : k < 0 ∨ 9 < k) : grp k = 0 := if_pos h
theorem grp_in {k : Int} (h : 0 ≤ k ∧ k ≤ 9) : grp k = 2 ^ k.toNat := if_neg (by omega)
theorem pow_small : ∀ k : Nat, k ≤ 9 → (1 : Int) ≤ 2 ^ k ∧ (2 : Int) ^ k ≤ 512 := by decide
theorem grp_range (k : Int) : 0 ≤ grp k ∧ grp k ≤ 512 := by
  by_cases h : k < 0 ∨ 9 < k
  · rw [grp_out h]; omega
  · have := pow_small k.toNat (by omega); rw [grp_in (by omega)]; omega

set_option maxHeartbeats 400000 in
theorem groups_any (k : Int) (w : World) :
    Calls Try.prog 6 #[.int .i64 k] w fun e w' => e = .returned (.int .i64 (grp k)) ∧ w = w' := by
  by_cases h : k < 0 ∨ 9 < k
  · rw [grp_out h]
    go_enter Try.func6, Try.ntmps6
    go_wp2
    all_goals (go_ret; exact ⟨rfl, rfl⟩)
  · have hp := pow_small k.toNat (by omega)
    have hg : wrap64 (2 ^ k.toNat) = grp k := by rw [grp_in (by omega)]; unfold wrap64; omega
    go_enter Try.func6, Try.ntmps6
    go_wp2
    go_ret
    exact ⟨ret_val (by rw [grp_in (by omega)]; rfl), rfl⟩

set_option maxHeartbeats 400000 in
theorem refGroups_any (k : Int) (w : World) :
    Calls Try.prog 34 #[.int .i64 k] w fun e w' => e = .returned (.int .i64 (grp k)) ∧ w = w' := by
  by_cases h : k < 0 ∨ 9 < k
  · rw [grp_out h]
    go_enter Try.func34, Try.ntmps34
    go_wp2
    all_goals (go_ret; exact ⟨rfl, rfl⟩)
  · obtain ⟨K, rfl⟩ := Int.eq_ofNat_of_zero_le (show 0 ≤ k by omega)
    have hK : K ≤ 9 := by omega
    go_enter Try.func34, Try.ntmps34
    go_wp2
    go_loop [3, 4] (fun n i => ∃ j : Nat, j ≤ K ∧ i = .int .i64 j ∧ n = .int .i64 (2 ^ j : Int)) (fun _ i => K - (intOf i).toNat)
    case atStart => exact ⟨0, by omega, rfl, rfl⟩
    case round =>
      obtain ⟨j, hj, rfl, rfl⟩ := hrel
      have hp := pow_small j (by omega)
      by_cases hlt : j < K
      · generalize hq : (2 : Int) ^ j = q at hp
        have HQ : Hid ((2 : Int) ^ j = q) := Lib.hid hq
        clear hq
        go_wp2
        go_round
        case rel => exact ⟨j + 1, by omega, by simp, by rw [Int.pow_succ, HQ.out, Int.mul_comm]⟩
        case measure => simp [intOf]; omega
      · have e : j = K := by omega
        subst e
        go_wp2
        go_ret
        exact ⟨ret_val (by rw [grp_in (by omega)]; rfl), rfl⟩

def tsize (k : Int) : Int := if grp k = 0 then 0 else 7 + 9 * grp k
theorem tsize_range (k : Int) : 0 ≤ tsize k ∧ tsize k ≤ 4615 := by
  have := grp_range k; unfold tsize; split <;> omega

set_option maxHeartbeats 400000 in
theorem size_any (k : Int) (w : World) :
    Calls Try.prog 13 #[.int .i64 k] w fun e w' => e = .returned (.int .i64 (tsize k)) ∧ w = w' := by
  have hr := grp_range k
  have hG := fun w => groups_any k w
  unfold tsize
  generalize grp k = n at *
  by_cases h0 : n = 0
  · subst h0
    go_enter Try.func13, Try.ntmps13
    go_wp2_with (go_at_call 6; (with_reducible refine (hG _).mono ?_); rintro e w' ⟨rfl, rfl⟩)
    go_ret
    exact ⟨rfl, rfl⟩
  · have h0' : (n == 0) = false := by simp [h0]
    go_enter Try.func13, Try.ntmps13
    go_wp2_with (go_at_call 6; (with_reducible refine (hG _).mono ?_); rintro e w' ⟨rfl, rfl⟩)
    go_ret
    exact ⟨ret_val (by show Value.int _ _ = _; congr 1; omega), rfl⟩
set_option maxHeartbeats 400000 in
theorem refSize_any (k : Int) (w : World) :
    Calls Try.prog 14 #[.int .i64 k] w fun e w' => e = .returned (.int .i64 (tsize k)) ∧ w = w' := by
  have hr := grp_range k
  have hG := fun w => refGroups_any k w
  unfold tsize
  generalize grp k = n at *
  by_cases h0 : n = 0
  · subst h0
    go_enter Try.func14, Try.ntmps14
    go_wp2_with (go_at_call 34; (with_reducible refine (hG _).mono ?_); rintro e w' ⟨rfl, rfl⟩)
    go_ret
    exact ⟨rfl, rfl⟩
  · have h0' : (n == 0) = false := by simp [h0]
    go_enter Try.func14, Try.ntmps14
    go_wp2_with (go_at_call 34; (with_reducible refine (hG _).mono ?_); rintro e w' ⟨rfl, rfl⟩)
    go_ret
    exact ⟨ret_val rfl, rfl⟩
set_option maxHeartbeats 400000 in
theorem limit_any (k : Int) (w : World) :
    Calls Try.prog 15 #[.int .i64 k] w fun e w' => e = .returned (.int .i64 (7 * grp k)) ∧ w = w' := by
  have hr := grp_range k
  have hG := fun w => groups_any k w
  generalize grp k = n at *
  go_enter Try.func15, Try.ntmps15
  go_wp2_with (go_at_call 6; (with_reducible refine (hG _).mono ?_); rintro e w' ⟨rfl, rfl⟩)
  go_ret
  exact ⟨rfl, rfl⟩
set_option maxHeartbeats 400000 in
theorem refLimit_any (k : Int) (w : World) :
    Calls Try.prog 16 #[.int .i64 k] w fun e w' => e = .returned (.int .i64 (7 * grp k)) ∧ w = w' := by
  have hr := grp_range k
  have hG := fun w => refGroups_any k w
  generalize grp k = n at *
  go_enter Try.func16, Try.ntmps16
  go_wp2_with (go_at_call 34; (with_reducible refine (hG _).mono ?_); rintro e w' ⟨rfl, rfl⟩)
  go_ret
  exact ⟨rfl, rfl⟩
end Go.Proofs.YtcmebpihaaibaaaRRRR
