import Derived.Test.YtcmebpihaaibaaaRRRRTabC
set_option linter.unusedVariables false
set_option linter.unusedSimpArgs false
namespace Go.Proofs.YtcmebpihaaibaaaRRRR
open Go.RowKit

def agg3 (p : Int × Int × Int) : Value := .agg #[.int .i64 p.1, .int .i64 p.2.1, .int .i64 p.2.2]
def twhere (k c : Int) : Int × Int × Int := if c < 0 ∨ tsize k ≤ c then (0, 0, 0) else place (grp k).toNat c.toNat
theorem twhere_out {k c : Int} (h : c < 0 ∨ tsize k ≤ c) : twhere k c = (0, 0, 0) := if_pos h
theorem twhere_in {k c : Int} (h : 0 ≤ c ∧ c < tsize k) : twhere k c = place (grp k).toNat c.toNat := if_neg (by omega)

set_option maxHeartbeats 1000000 in
theorem where_out (k c : Int) (h : c < 0 ∨ tsize k ≤ c) (w : World) :
    Calls Try.prog 9 #[.int .i64 k, .int .i64 c] w (Ret (agg3 (twhere k c)) w) := by
  have hG := fun w => groups_any k w
  have hS := fun w => size_any k w
  rw [twhere_out h]
  generalize grp k = n at *
  generalize tsize k = ts at *
  by_cases h0 : c < 0
  · go_enter Try.func9, Try.ntmps9
    go_wp2
    go_step3
    go_wp2_with (first | (go_at_call 6; (with_reducible refine (hG _).mono ?_); rintro e w' ⟨rfl, rfl⟩) | (go_at_call 13; (with_reducible refine (hS _).mono ?_); rintro e w' ⟨rfl, rfl⟩))
    rw [Exit.noGoto_ret]
    go_returns
    exact Ret.mk' rfl (by (repeat' (first | (with_reducible exact Below.refl _ _) | (with_reducible assumption) | (with_reducible refine Below.alloc ?_ ?_ _) | (with_reducible refine Below.drew ?_) | (with_reducible refine bel_drewN ?_ _) | (with_reducible refine Below.setCell ?_ ?_ _) | (with_reducible refine bel_after ?_ (by assumption)) | (exact Below.size (by assumption)) | omega | (simp only [World.size_alloc, World.size_setCell, World.size_drew, size_drewN] at *; omega))))
  · have h1 : ts ≤ c := by omega
    go_enter Try.func9, Try.ntmps9
    go_wp2
    go_step3
    go_wp2_with (first | (go_at_call 6; (with_reducible refine (hG _).mono ?_); rintro e w' ⟨rfl, rfl⟩) | (go_at_call 13; (with_reducible refine (hS _).mono ?_); rintro e w' ⟨rfl, rfl⟩))
    rw [Exit.noGoto_ret]
    go_returns
    exact Ret.mk' rfl (by (repeat' (first | (with_reducible exact Below.refl _ _) | (with_reducible assumption) | (with_reducible refine Below.alloc ?_ ?_ _) | (with_reducible refine Below.drew ?_) | (with_reducible refine bel_drewN ?_ _) | (with_reducible refine Below.setCell ?_ ?_ _) | (with_reducible refine bel_after ?_ (by assumption)) | (exact Below.size (by assumption)) | omega | (simp only [World.size_alloc, World.size_setCell, World.size_drew, size_drewN] at *; omega))))

set_option maxHeartbeats 2000000 in
theorem where_in (k c : Int) (h : 0 ≤ c ∧ c < tsize k) (w : World) :
    Calls Try.prog 9 #[.int .i64 k, .int .i64 c] w (Ret (agg3 (twhere k c)) w) := by
  have hG := fun w => groups_any k w
  have hS := fun w => size_any k w
  have hr := grp_range k
  have hts : grp k ≠ 0 ∧ tsize k = 7 + 9 * grp k := by unfold tsize at h ⊢; split at h <;> simp_all <;> omega
  rw [twhere_in h]
  generalize grp k = n' at *
  obtain ⟨n, rfl⟩ := Int.eq_ofNat_of_zero_le hr.1
  obtain ⟨C, rfl⟩ := Int.eq_ofNat_of_zero_le h.1
  obtain ⟨hn0, hts⟩ := hts
  rw [hts] at h hS
  clear hts
  simp only [Int.toNat_natCast]
  have hC0 : ¬ ((C : Int) < 0) := by omega
  have hC1 : ¬ (7 + 9 * (n : Int) ≤ (C : Int)) := by omega
  have hCb : C ≤ 4615 := by omega
  have hnb : n ≤ 512 := by omega
  clear h hr
  by_cases h7 : C < 7
  · have e : place n C = (1, 0, 0) := place_head h7
    rw [e]
    clear e
    go_enter Try.func9, Try.ntmps9
    go_wp2
    refine jump_ex 0 rfl ?_
    apply Exists.intro
    apply Exists.intro
    apply And.intro
    case left =>
      go_wp2_with (first | (go_at_call 6; (with_reducible refine (hG _).mono ?_); rintro e w' ⟨rfl, rfl⟩) | (go_at_call 13; (with_reducible refine (hS _).mono ?_); rintro e w' ⟨rfl, rfl⟩))
      go_step3
      simp only [Exit.then, Exit.jump, ↓reduceIte]
      exact ⟨rfl, rfl, rfl⟩
    case right =>
      go_wp2
      simp only [Exit.jump]
      go_returns
      exact Ret.mk' rfl (by (repeat' (first | (with_reducible exact Below.refl _ _) | (with_reducible assumption) | (with_reducible refine Below.alloc ?_ ?_ _) | (with_reducible refine Below.drew ?_) | (with_reducible refine bel_drewN ?_ _) | (with_reducible refine Below.setCell ?_ ?_ _) | (with_reducible refine bel_after ?_ (by assumption)) | (exact Below.size (by assumption)) | omega | (simp only [World.size_alloc, World.size_setCell, World.size_drew, size_drewN] at *; omega))))
  · obtain ⟨D, rfl⟩ : ∃ D, C = 7 + D := ⟨C - 7, by omega⟩
    have e7 : ((7 + D : Nat) : Int) = (D : Int) + 7 := by omega
    rw [e7] at hC0 hC1 ⊢
    have hs7 : (D : Int) + 7 - 7 = (D : Int) := by omega
    have hc7 : ¬ ((D : Int) + 7 < 7) := by omega
    by_cases hg : D < n
    · have e : place n (7 + D) = (2, (D : Int), 0) := place_group hg
      rw [e]
      clear e e7
      go_enter Try.func9, Try.ntmps9
      go_wp2
      refine jump_ex 0 rfl ?_
      apply Exists.intro
      apply Exists.intro
      apply And.intro
      case left =>
        go_wp2_with (first | (go_at_call 6; (with_reducible refine (hG _).mono ?_); rintro e w' ⟨rfl, rfl⟩) | (go_at_call 13; (with_reducible refine (hS _).mono ?_); rintro e w' ⟨rfl, rfl⟩))
        go_step3
        simp only [Exit.then, Exit.jump, ↓reduceIte]
        exact ⟨rfl, rfl, rfl⟩
      case right =>
        go_wp2
        simp only [Exit.jump]
        go_returns
        exact Ret.mk' rfl (by (repeat' (first | (with_reducible exact Below.refl _ _) | (with_reducible assumption) | (with_reducible refine Below.alloc ?_ ?_ _) | (with_reducible refine Below.drew ?_) | (with_reducible refine bel_drewN ?_ _) | (with_reducible refine Below.setCell ?_ ?_ _) | (with_reducible refine bel_after ?_ (by assumption)) | (exact Below.size (by assumption)) | omega | (simp only [World.size_alloc, World.size_setCell, World.size_drew, size_drewN] at *; omega))))
    · obtain ⟨E, rfl⟩ : ∃ E, D = n + E := ⟨D - n, by omega⟩
      have e : place n (7 + (n + E)) = (3, ((E / 8 : Nat) : Int), ((E % 8 : Nat) : Int)) := by
        rw [show 7 + (n + E) = 7 + n + 8 * (E / 8) + E % 8 by omega]
        exact place_slot (by omega)
      rw [e]
      clear e e7
      have hg' : ¬ (((n + E : Nat) : Int) < (n : Int)) := by omega
      have hsn : (n : Int) + (E : Int) - (n : Int) = (E : Int) := by omega
      go_enter Try.func9, Try.ntmps9
      go_wp2
      go_step3
      go_wp2_with (first | (go_at_call 6; (with_reducible refine (hG _).mono ?_); rintro e w' ⟨rfl, rfl⟩) | (go_at_call 13; (with_reducible refine (hS _).mono ?_); rintro e w' ⟨rfl, rfl⟩))
      go_step3
      go_wp2
      rw [Exit.noGoto_ret]
      go_returns
      exact Ret.mk' (by simp [agg3]) (by (repeat' (first | (with_reducible exact Below.refl _ _) | (with_reducible assumption) | (with_reducible refine Below.alloc ?_ ?_ _) | (with_reducible refine Below.drew ?_) | (with_reducible refine bel_drewN ?_ _) | (with_reducible refine Below.setCell ?_ ?_ _) | (with_reducible refine bel_after ?_ (by assumption)) | (exact Below.size (by assumption)) | omega | (simp only [World.size_alloc, World.size_setCell, World.size_drew, size_drewN] at *; omega))))

theorem where_any (k c : Int) (w : World) :
    Calls Try.prog 9 #[.int .i64 k, .int .i64 c] w (Ret (agg3 (twhere k c)) w) := by
  by_cases h : c < 0 ∨ tsize k ≤ c
  · exact where_out k c h w
  · exact where_in k c (by omega) w

set_option maxHeartbeats 2000000 in
theorem refWhere_any (k c : Int) (w : World) :
    Calls Try.prog 10 #[.int .i64 k, .int .i64 c] w (Ret (agg3 (twhere k c)) w) := by
  have hr := tsize_range k
  have hA := fun w => refAll_any k w
  have T1 : Hid (c < 0 ∨ tsize k ≤ c → twhere k c = (0, 0, 0)) := Lib.hid twhere_out
  have T2 : Hid (0 ≤ c ∧ c < tsize k → twhere k c = place (grp k).toNat c.toNat) := Lib.hid twhere_in
  generalize twhere k c = tw at *
  generalize (grp k).toNat = n at *
  generalize tsize k = ts at *
  obtain ⟨m, rfl⟩ := Int.eq_ofNat_of_zero_le hr.1
  simp only [Int.toNat_natCast] at hA
  have hm : m ≤ 4615 := by omega
  clear hr
  have hA' : ∀ w : World, Calls Try.prog 33 #[.int .i64 k] w fun e w' => ∃ A cap, e = .returned (.slice A m cap) ∧
      (∀ j, j < m → ∃ g, A = some ⟨g, 0, none⟩ ∧ w'.cell? ⟨g, 3 * j, none⟩ = some (.int .i64 (place n j).1) ∧ w'.cell? ⟨g, 3 * j + 1, none⟩ = some (.int .i64 (place n j).2.1) ∧ w'.cell? ⟨g, 3 * j + 2, none⟩ = some (.int .i64 (place n j).2.2)) ∧ Below w.heap.size w w' := fun w => (hA w).mono fun e W' ⟨v, he, hown, hb⟩ => by
    obtain ⟨A, cap, rfl⟩ := own_slice hown
    refine ⟨A, cap, he, fun j hj => ?_, hb⟩
    obtain ⟨g, cap', e', _⟩ := hown.form (by omega)
    simp only [Value.slice.injEq] at e'
    obtain ⟨rfl, _, _⟩ := e'
    have hc : ∀ r, r < 3 → ∀ u, (tri3 (place n j))[r]? = some u → W'.cell? ⟨g, 3 * j + r, none⟩ = some u := fun r hr u hu => by
      have := hown.cells (g := g) rfl (3 * j + r) u (by rw [plist_at n m j r hj hr]; exact hu)
      simpa [Addr.add_lit] using this
    exact ⟨g, rfl, hc 0 (by omega) _ rfl, hc 1 (by omega) _ rfl, hc 2 (by omega) _ rfl⟩
  clear hA
  by_cases h0 : c < 0
  · go_enter Try.func10, Try.ntmps10
    go_wp2_with (go_at_call 33; (with_reducible refine (hA' _).mono ?_); rintro e w1 ⟨A, cap, rfl, hc, hb⟩; have s0 := slot_cell hb 0 (.int .i64 0) rfl; have s1 := slot_cell hb 1 (.int .i64 0) rfl; have s2 := slot_cell hb 2 (.int .i64 0) rfl; have f0 := slot_free hb 0; have f1 := slot_free hb 1; have f2 := slot_free hb 2; have hz := slot_size hb)
    refine bodyPost_ret (v := .agg #[.int .i64 0, .int .i64 0, .int .i64 0]) (by simp [results, Try.results10, go_sem, s0, s1, s2]) rfl ?_
    exact Ret.mk' (by rw [T1.out (.inl h0)]; rfl) (by (repeat' (first | (with_reducible exact Below.refl _ _) | (with_reducible assumption) | (with_reducible refine Below.alloc ?_ ?_ _) | (with_reducible refine Below.drew ?_) | (with_reducible refine bel_drewN ?_ _) | (with_reducible refine Below.setCell ?_ ?_ _) | (with_reducible refine bel_after ?_ (by assumption)) | (exact Below.size (by assumption)) | omega | (simp only [World.size_alloc, World.size_setCell, World.size_drew, size_drewN] at *; omega))))
  · by_cases h1 : (m : Int) ≤ c
    · go_enter Try.func10, Try.ntmps10
      go_wp2_with (go_at_call 33; (with_reducible refine (hA' _).mono ?_); rintro e w1 ⟨A, cap, rfl, hc, hb⟩; have s0 := slot_cell hb 0 (.int .i64 0) rfl; have s1 := slot_cell hb 1 (.int .i64 0) rfl; have s2 := slot_cell hb 2 (.int .i64 0) rfl; have f0 := slot_free hb 0; have f1 := slot_free hb 1; have f2 := slot_free hb 2; have hz := slot_size hb)
      refine bodyPost_ret (v := .agg #[.int .i64 0, .int .i64 0, .int .i64 0]) (by simp [results, Try.results10, go_sem, s0, s1, s2]) rfl ?_
      exact Ret.mk' (by rw [T1.out (.inr h1)]; rfl) (by (repeat' (first | (with_reducible exact Below.refl _ _) | (with_reducible assumption) | (with_reducible refine Below.alloc ?_ ?_ _) | (with_reducible refine Below.drew ?_) | (with_reducible refine bel_drewN ?_ _) | (with_reducible refine Below.setCell ?_ ?_ _) | (with_reducible refine bel_after ?_ (by assumption)) | (exact Below.size (by assumption)) | omega | (simp only [World.size_alloc, World.size_setCell, World.size_drew, size_drewN] at *; omega))))
    · obtain ⟨C, rfl⟩ := Int.eq_ofNat_of_zero_le (show 0 ≤ c by omega)
      have h1' : C < m := by omega
      have hA2 : ∀ w : World, Calls Try.prog 33 #[.int .i64 k] w fun e w' => ∃ g cap, e = .returned (.slice (some ⟨g, 0, none⟩) m cap) ∧
          w'.cell? ⟨g, 3 * C, none⟩ = some (.int .i64 (place n C).1) ∧ w'.cell? ⟨g, 3 * C + 1, none⟩ = some (.int .i64 (place n C).2.1) ∧ w'.cell? ⟨g, 3 * C + 2, none⟩ = some (.int .i64 (place n C).2.2) ∧ Below w.heap.size w w' := fun w => (hA' w).mono fun e W' ⟨A, cap, he, hc, hb⟩ => by
        obtain ⟨g, rfl, h⟩ := hc C h1'
        exact ⟨g, cap, he, h.1, h.2.1, h.2.2, hb⟩
      have e : tw = place n C := by have := T2.out (by omega); simpa using this
      rw [e]
      clear hA' T1 T2 e
      generalize place n C = p at *
      have hmul : C * 3 = 3 * C := by omega
      go_enter Try.func10, Try.ntmps10
      go_wp2_with (go_at_call 33; (with_reducible refine (hA2 _).mono ?_); rintro e w1 ⟨g, cap, rfl, c1, c2, c3, hb⟩; have s0 := slot_cell hb 0 (.int .i64 0) rfl; have s1 := slot_cell hb 1 (.int .i64 0) rfl; have s2 := slot_cell hb 2 (.int .i64 0) rfl; have f0 := slot_free hb 0; have f1 := slot_free hb 1; have f2 := slot_free hb 2; have hz := slot_size hb)
      refine bodyPost_ret (v := agg3 p) (by simp [results, Try.results10, go_sem, s0, s1, s2, agg3]) rfl ?_
      exact Ret.mk' rfl (by (repeat' (first | (with_reducible exact Below.refl _ _) | (with_reducible assumption) | (with_reducible refine Below.alloc ?_ ?_ _) | (with_reducible refine Below.drew ?_) | (with_reducible refine bel_drewN ?_ _) | (with_reducible refine Below.setCell ?_ ?_ _) | (with_reducible refine bel_after ?_ (by assumption)) | (exact Below.size (by assumption)) | omega | (simp only [World.size_alloc, World.size_setCell, World.size_drew, size_drewN] at *; omega))))
end Go.Proofs.YtcmebpihaaibaaaRRRR
