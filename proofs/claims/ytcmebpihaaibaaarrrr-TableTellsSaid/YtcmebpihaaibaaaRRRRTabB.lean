import Derived.Test.YtcmebpihaaibaaaRRRRTabA
set_option linter.unusedVariables false
set_option linter.unusedSimpArgs false
namespace Go.Proofs.YtcmebpihaaibaaaRRRR
open Go.RowKit

def tright (b k : Int) : Bool := decide (b ≠ 0) && decide (0 < grp k)
set_option maxHeartbeats 400000 in
theorem right_any (b k : Int) (h0 : 0 ≤ b) (w : World) :
    Calls Try.prog 11 #[.agg #[.int .u64 b, .int .i64 k]] w (Ret (.bool (tright b k)) w) := by
  have hG := fun w => groups_any k w
  unfold tright
  generalize grp k = n at *
  by_cases hb : b = 0
  · subst hb
    go_enter Try.func11, Try.ntmps11
    go_wp2
    go_returns
    exact Ret.mk' rfl (by (repeat' (first | (with_reducible exact Below.refl _ _) | (with_reducible assumption) | (with_reducible refine Below.alloc ?_ ?_ _) | (with_reducible refine Below.drew ?_) | (with_reducible refine bel_drewN ?_ _) | (with_reducible refine Below.setCell ?_ ?_ _) | (with_reducible refine bel_after ?_ (by assumption)) | (exact Below.size (by assumption)) | omega | (simp only [World.size_alloc, World.size_setCell, World.size_drew, size_drewN] at *; omega))))
  · have hb' : (b != 0) = true := by simp [hb]
    go_enter Try.func11, Try.ntmps11
    go_wp2_with (go_at_call 6; (with_reducible refine (hG _).mono ?_); rintro e w' ⟨rfl, rfl⟩)
    go_returns
    exact Ret.mk' (by simp [hb]) (by (repeat' (first | (with_reducible exact Below.refl _ _) | (with_reducible assumption) | (with_reducible refine Below.alloc ?_ ?_ _) | (with_reducible refine Below.drew ?_) | (with_reducible refine bel_drewN ?_ _) | (with_reducible refine Below.setCell ?_ ?_ _) | (with_reducible refine bel_after ?_ (by assumption)) | (exact Below.size (by assumption)) | omega | (simp only [World.size_alloc, World.size_setCell, World.size_drew, size_drewN] at *; omega))))
set_option maxHeartbeats 400000 in
theorem refRight_any (b k : Int) (h0 : 0 ≤ b) (w : World) :
    Calls Try.prog 12 #[.agg #[.int .u64 b, .int .i64 k]] w (Ret (.bool (tright b k)) w) := by
  have hG := fun w => refGroups_any k w
  unfold tright
  generalize grp k = n at *
  by_cases hb : b = 0
  · subst hb
    go_enter Try.func12, Try.ntmps12
    go_wp2
    go_returns
    exact Ret.mk' rfl (by (repeat' (first | (with_reducible exact Below.refl _ _) | (with_reducible assumption) | (with_reducible refine Below.alloc ?_ ?_ _) | (with_reducible refine Below.drew ?_) | (with_reducible refine bel_drewN ?_ _) | (with_reducible refine Below.setCell ?_ ?_ _) | (with_reducible refine bel_after ?_ (by assumption)) | (exact Below.size (by assumption)) | omega | (simp only [World.size_alloc, World.size_setCell, World.size_drew, size_drewN] at *; omega))))
  · have hb' : 0 < b := by omega
    go_enter Try.func12, Try.ntmps12
    go_wp2_with (go_at_call 34; (with_reducible refine (hG _).mono ?_); rintro e w' ⟨rfl, rfl⟩)
    go_returns
    exact Ret.mk' (by simp [hb]) (by (repeat' (first | (with_reducible exact Below.refl _ _) | (with_reducible assumption) | (with_reducible refine Below.alloc ?_ ?_ _) | (with_reducible refine Below.drew ?_) | (with_reducible refine bel_drewN ?_ _) | (with_reducible refine Below.setCell ?_ ?_ _) | (with_reducible refine bel_after ?_ (by assumption)) | (exact Below.size (by assumption)) | omega | (simp only [World.size_alloc, World.size_setCell, World.size_drew, size_drewN] at *; omega))))

theorem and3 (n : Int) : bits .and .i64 n 3 = n % 4 := by
  have h3 : (BitVec.ofInt 64 3).toNat = 2 ^ 2 - 1 := by decide
  have key : (BitVec.ofInt 64 n &&& BitVec.ofInt 64 3).toNat = (n % ((2 ^ 64 : Nat) : Int)).toNat % 2 ^ 2 := by
    rw [BitVec.toNat_and, BitVec.toNat_ofInt, h3, Nat.and_two_pow_sub_one_eq_mod]
  show IntKind.i64.wrap ((BitVec.ofInt 64 n &&& BitVec.ofInt 64 3).toNat : Nat) = n % 4
  rw [key, IntKind.wrap_i64]
  omega
theorem tmod4 (x : Int) : (0 ≤ x.tmod 4 → x.tmod 4 = x % 4) ∧ (x.tmod 4 < 0 → x.tmod 4 + 4 = x % 4) ∧ -4 < x.tmod 4 ∧ x.tmod 4 < 4 := by
  by_cases h : 0 ≤ x
  · rw [Int.tmod_eq_emod_of_nonneg h]; omega
  · obtain ⟨y, rfl⟩ : ∃ y, x = -y := ⟨-x, by omega⟩
    rw [Int.neg_tmod, Int.tmod_eq_emod_of_nonneg (by omega)]; omega
def tstripe (x : Int) : Int := 3 + x % 4
set_option maxHeartbeats 400000 in
theorem stripe_any (x : Int) (h0 : -9223372036854775808 ≤ x) (h1 : x < 9223372036854775808) (w : World) :
    Calls Try.prog 17 #[.int .i64 x] w fun e w' => e = .returned (.int .i64 (tstripe x)) ∧ w = w' := by
  have hb : bits .and .i64 x 3 = x % 4 := and3 x
  go_enter Try.func17, Try.ntmps17
  go_wp2
  go_ret
  exact ⟨rfl, rfl⟩
set_option maxHeartbeats 400000 in
theorem refStripe_any (x : Int) (h0 : -9223372036854775808 ≤ x) (h1 : x < 9223372036854775808) (w : World) :
    Calls Try.prog 18 #[.int .i64 x] w fun e w' => e = .returned (.int .i64 (tstripe x)) ∧ w = w' := by
  obtain ⟨m1, m2, m3, m4⟩ := tmod4 x
  generalize hm : x.tmod 4 = r at m1 m2 m3 m4
  have M1 : Hid (0 ≤ r → r = x % 4) := Lib.hid m1
  have M2 : Hid (r < 0 → r + 4 = x % 4) := Lib.hid m2
  clear m1 m2
  by_cases hr : r < 0
  · go_enter Try.func18, Try.ntmps18
    go_wp2
    go_ret
    exact ⟨ret_val (by have := M2.out hr; show Value.int _ _ = _; unfold tstripe; congr 1; omega), rfl⟩
  · go_enter Try.func18, Try.ntmps18
    go_wp2
    go_ret
    exact ⟨ret_val (by have := M1.out (by omega); show Value.int _ _ = _; unfold tstripe; congr 1; omega), rfl⟩

def tgroup (k g : Int) : Int := if g < 0 ∨ grp k ≤ g then -1 else 7 + g
theorem tgroup_out {k g : Int} (h : g < 0 ∨ grp k ≤ g) : tgroup k g = -1 := if_pos h
theorem tgroup_in {k g : Int} (h : 0 ≤ g ∧ g < grp k) : tgroup k g = 7 + g := if_neg (by omega)
set_option maxHeartbeats 400000 in
theorem groupCell_any (k g : Int) (w : World) :
    Calls Try.prog 19 #[.int .i64 k, .int .i64 g] w fun e w' => e = .returned (.int .i64 (tgroup k g)) ∧ w = w' := by
  have hG := fun w => groups_any k w
  have hr := grp_range k
  have T1 : Hid (g < 0 ∨ grp k ≤ g → tgroup k g = -1) := Lib.hid tgroup_out
  have T2 : Hid (0 ≤ g ∧ g < grp k → tgroup k g = 7 + g) := Lib.hid tgroup_in
  generalize tgroup k g = t at *
  generalize grp k = n at *
  by_cases h0 : g < 0
  · go_enter Try.func19, Try.ntmps19
    go_wp2
    go_ret
    exact ⟨ret_val (by rw [T1.out (.inl h0)]; rfl), rfl⟩
  · by_cases h1 : n ≤ g
    · go_enter Try.func19, Try.ntmps19
      go_wp2_with (go_at_call 6; (with_reducible refine (hG _).mono ?_); rintro e w' ⟨rfl, rfl⟩)
      go_ret
      exact ⟨ret_val (by rw [T1.out (.inr h1)]; rfl), rfl⟩
    · go_enter Try.func19, Try.ntmps19
      go_wp2_with (go_at_call 6; (with_reducible refine (hG _).mono ?_); rintro e w' ⟨rfl, rfl⟩)
      go_ret
      exact ⟨ret_val (by rw [T2.out (by omega)]; rfl), rfl⟩
set_option maxHeartbeats 400000 in
theorem refGroupCell_any (k g : Int) (w : World) :
    Calls Try.prog 20 #[.int .i64 k, .int .i64 g] w fun e w' => e = .returned (.int .i64 (tgroup k g)) ∧ w = w' := by
  have hG := fun w => refGroups_any k w
  have hr := grp_range k
  have T1 : Hid (g < 0 ∨ grp k ≤ g → tgroup k g = -1) := Lib.hid tgroup_out
  have T2 : Hid (0 ≤ g ∧ g < grp k → tgroup k g = 7 + g) := Lib.hid tgroup_in
  generalize tgroup k g = t at *
  generalize grp k = n at *
  by_cases h0 : g < 0
  · go_enter Try.func20, Try.ntmps20
    go_wp2
    go_ret
    exact ⟨ret_val (by rw [T1.out (.inl h0)]; rfl), rfl⟩
  · by_cases h1 : n ≤ g
    · go_enter Try.func20, Try.ntmps20
      go_wp2_with (go_at_call 34; (with_reducible refine (hG _).mono ?_); rintro e w' ⟨rfl, rfl⟩)
      go_ret
      exact ⟨ret_val (by rw [T1.out (.inr h1)]; rfl), rfl⟩
    · go_enter Try.func20, Try.ntmps20
      go_wp2_with (go_at_call 34; (with_reducible refine (hG _).mono ?_); rintro e w' ⟨rfl, rfl⟩)
      go_ret
      exact ⟨ret_val (by rw [T2.out (by omega)]; rfl), rfl⟩

def tslot (k g s : Int) : Int := if g < 0 ∨ grp k ≤ g ∨ s < 0 ∨ 8 ≤ s then -1 else 7 + grp k + 8 * g + s
theorem tslot_out {k g s : Int} (h : g < 0 ∨ grp k ≤ g ∨ s < 0 ∨ 8 ≤ s) : tslot k g s = -1 := if_pos h
theorem tslot_in {k g s : Int} (h : 0 ≤ g ∧ g < grp k ∧ 0 ≤ s ∧ s < 8) : tslot k g s = 7 + grp k + 8 * g + s := if_neg (by omega)
set_option maxHeartbeats 400000 in
theorem slotCell_any (k g s : Int) (w : World) :
    Calls Try.prog 21 #[.int .i64 k, .int .i64 g, .int .i64 s] w fun e w' => e = .returned (.int .i64 (tslot k g s)) ∧ w = w' := by
  have hG := fun w => groups_any k w
  have hC := fun w => groupCell_any k g w
  have hr := grp_range k
  have T1 : Hid (g < 0 ∨ grp k ≤ g ∨ s < 0 ∨ 8 ≤ s → tslot k g s = -1) := Lib.hid tslot_out
  have T2 : Hid (0 ≤ g ∧ g < grp k ∧ 0 ≤ s ∧ s < 8 → tslot k g s = 7 + grp k + 8 * g + s) := Lib.hid tslot_in
  by_cases hg : g < 0 ∨ grp k ≤ g
  · rw [tgroup_out hg] at hC
    go_enter Try.func21, Try.ntmps21
    go_wp2_with (go_at_call 19; (with_reducible refine (hC _).mono ?_); rintro e w' ⟨rfl, rfl⟩)
    go_ret
    exact ⟨ret_val (by rw [T1.out (by omega)]; rfl), rfl⟩
  · rw [tgroup_in (by omega)] at hC
    generalize tslot k g s = t at *
    generalize grp k = n at *
    have g0 : 0 ≤ g := by omega
    have g1 : g < n := by omega
    clear hg
    by_cases h0 : s < 0
    · go_enter Try.func21, Try.ntmps21
      go_wp2_with (go_at_call 19; (with_reducible refine (hC _).mono ?_); rintro e w' ⟨rfl, rfl⟩)
      go_ret
      exact ⟨ret_val (by rw [T1.out (by omega)]; rfl), rfl⟩
    · by_cases h1 : 8 ≤ s
      · go_enter Try.func21, Try.ntmps21
        go_wp2_with (go_at_call 19; (with_reducible refine (hC _).mono ?_); rintro e w' ⟨rfl, rfl⟩)
        go_ret
        exact ⟨ret_val (by rw [T1.out (by omega)]; rfl), rfl⟩
      · go_enter Try.func21, Try.ntmps21
        go_wp2_with (first | (go_at_call 19; (with_reducible refine (hC _).mono ?_); rintro e w' ⟨rfl, rfl⟩) | (go_at_call 6; (with_reducible refine (hG _).mono ?_); rintro e w' ⟨rfl, rfl⟩))
        go_ret
        exact ⟨ret_val (by rw [T2.out (by omega)]; show Value.int _ _ = _; congr 1; omega), rfl⟩
set_option maxHeartbeats 400000 in
theorem refSlotCell_any (k g s : Int) (w : World) :
    Calls Try.prog 22 #[.int .i64 k, .int .i64 g, .int .i64 s] w fun e w' => e = .returned (.int .i64 (tslot k g s)) ∧ w = w' := by
  have hG := fun w => refGroups_any k w
  have hr := grp_range k
  have T1 : Hid (g < 0 ∨ grp k ≤ g ∨ s < 0 ∨ 8 ≤ s → tslot k g s = -1) := Lib.hid tslot_out
  have T2 : Hid (0 ≤ g ∧ g < grp k ∧ 0 ≤ s ∧ s < 8 → tslot k g s = 7 + grp k + 8 * g + s) := Lib.hid tslot_in
  generalize tslot k g s = t at *
  generalize grp k = n at *
  by_cases h0 : g < 0
  · go_enter Try.func22, Try.ntmps22
    go_wp2_with (go_at_call 34; (with_reducible refine (hG _).mono ?_); rintro e w' ⟨rfl, rfl⟩)
    go_ret
    exact ⟨ret_val (by rw [T1.out (by omega)]; rfl), rfl⟩
  · by_cases h1 : n ≤ g
    · go_enter Try.func22, Try.ntmps22
      go_wp2_with (go_at_call 34; (with_reducible refine (hG _).mono ?_); rintro e w' ⟨rfl, rfl⟩)
      go_ret
      exact ⟨ret_val (by rw [T1.out (by omega)]; rfl), rfl⟩
    · by_cases h2 : s < 0
      · go_enter Try.func22, Try.ntmps22
        go_wp2_with (go_at_call 34; (with_reducible refine (hG _).mono ?_); rintro e w' ⟨rfl, rfl⟩)
        go_ret
        exact ⟨ret_val (by rw [T1.out (by omega)]; rfl), rfl⟩
      · by_cases h3 : 7 < s
        · go_enter Try.func22, Try.ntmps22
          go_wp2_with (go_at_call 34; (with_reducible refine (hG _).mono ?_); rintro e w' ⟨rfl, rfl⟩)
          go_ret
          exact ⟨ret_val (by rw [T1.out (by omega)]; rfl), rfl⟩
        · go_enter Try.func22, Try.ntmps22
          go_wp2_with (go_at_call 34; (with_reducible refine (hG _).mono ?_); rintro e w' ⟨rfl, rfl⟩)
          go_ret
          exact ⟨ret_val (by rw [T2.out (by omega)]; rfl), rfl⟩
end Go.Proofs.YtcmebpihaaibaaaRRRR
