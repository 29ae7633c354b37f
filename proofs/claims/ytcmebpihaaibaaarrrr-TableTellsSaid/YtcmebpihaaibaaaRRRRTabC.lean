import Derived.Test.YtcmebpihaaibaaaRRRRTabB
set_option linter.unusedVariables false
set_option linter.unusedSimpArgs false
namespace Go.Proofs.YtcmebpihaaibaaaRRRR
open Go.RowKit

/-- What cell j of a table of n groups is: its part, group, slot. -/
def place (n : Nat) (j : Nat) : Int × Int × Int := if j < 7 then (1, 0, 0) else if j < 7 + n then (2, (j - 7 : Nat), 0) else (3, ((j - 7 - n) / 8 : Nat), ((j - 7 - n) % 8 : Nat))
theorem place_head {n j : Nat} (h : j < 7) : place n j = (1, 0, 0) := if_pos h
theorem place_group {n j : Nat} (h : j < n) : place n (7 + j) = (2, (j : Int), 0) := by
  unfold place; rw [if_neg (by omega), if_pos (by omega)]; simp
theorem place_slot {n g s : Nat} (h : s < 8) : place n (7 + n + 8 * g + s) = (3, (g : Int), (s : Int)) := by
  unfold place; rw [if_neg (by omega), if_neg (by omega), show (7 + n + 8 * g + s - 7 - n) / 8 = g by omega, show (7 + n + 8 * g + s - 7 - n) % 8 = s by omega]
def tri3 (p : Int × Int × Int) : List Value := [.int .i64 p.1, .int .i64 p.2.1, .int .i64 p.2.2]
def plist (n k : Nat) : List Value := (List.range k).flatMap fun j => tri3 (place n j)
theorem plist_succ (n k : Nat) : plist n (k + 1) = plist n k ++ tri3 (place n k) := by simp [plist, List.range_succ]
theorem plist_length (n k : Nat) : (plist n k).length = 3 * k := by
  induction k with
  | zero => rfl
  | succ k ih => rw [plist_succ, List.length_append, ih]; simp [tri3]; omega
theorem plist_at (n k j r : Nat) (hj : j < k) (hr : r < 3) : (plist n k)[3 * j + r]? = (tri3 (place n j))[r]? := by
  induction k with
  | zero => omega
  | succ k ih =>
    rw [plist_succ]
    by_cases h : j < k
    · rw [List.getElem?_append_left (by rw [plist_length]; omega)]
      exact ih h
    · have e : j = k := by omega
      subst e
      rw [List.getElem?_append_right (by rw [plist_length]; omega), plist_length]
      congr 1
      omega

theorem infoPlace : (Try.prog.info? 35).map (fun i => (i.zero, i.size, i.bytes)) = some (some (.agg #[.int .i64 0, .int .i64 0, .int .i64 0]), 3, 24) := by kernel_rfl

/-- The relation of the loops: m cells have been told. -/
def Told (w : World) (n m : Nat) (v : Value) (wr : World) : Prop := wr.ownsRow w.heap.size 35 3 v m (plist n m) ∧ Below w.heap.size w wr

set_option maxRecDepth 100000 in
set_option maxHeartbeats 4000000 in
theorem refAll_any (k : Int) (w : World) :
    Calls Try.prog 33 #[.int .i64 k] w fun e w' => ∃ v, e = .returned v ∧ Told w (grp k).toNat (tsize k).toNat v w' := by
  have hG := fun w => refGroups_any k w
  have hr := grp_range k
  have hts : (tsize k).toNat = if (grp k).toNat = 0 then 0 else 7 + 9 * (grp k).toNat := by unfold tsize; split <;> split <;> omega
  generalize tsize k = ts at *
  generalize grp k = n' at *
  obtain ⟨n, rfl⟩ := Int.eq_ofNat_of_zero_le hr.1
  simp only [Int.toNat_natCast] at hts ⊢
  have HT : Hid (ts.toNat = if n = 0 then 0 else 7 + 9 * n) := Lib.hid hts
  clear hts
  have hn : n ≤ 512 := by omega
  clear hr
  have rO := World.ownsRow_made (w := w) (base := w.heap.size) (e := 35) (size := 3) #[] 0 (Nat.le_refl _) (by decide) rfl
  have hB0 : Below w.heap.size w (w.alloc (.cells #[] 35)) := (Below.refl _ _).alloc (Nat.le_refl _) _
  by_cases h0 : n = 0
  · subst h0
    have hts : ts.toNat = 0 := by simpa using HT.out
    clear HT
    rw [hts]
    clear hts
    go_enter Try.func33, Try.ntmps33
    go_wp2_with (go_at_call 34; (with_reducible refine (hG _).mono ?_); rintro e w' ⟨rfl, rfl⟩)
    refine wp_loop_rounds 1 ?_
    rw [rounds_succ]
    go_wp2
    refine wp_loop_rounds 1 ?_
    rw [rounds_succ]
    go_wp2
    refine wp_loop_rounds 1 ?_
    rw [rounds_succ]
    go_wp2
    go_ret
    exact ⟨_, rfl, rO, hB0⟩
  · have hts : ts.toNat = 7 + n + 8 * n := by have := HT.out; rw [if_neg h0] at this; omega
    clear HT
    rw [hts]
    clear hts
    have hn0 : (0 : Int) < (n : Int) := by omega
    go_enter Try.func33, Try.ntmps33
    go_wp2_with (go_at_call 34; (with_reducible refine (hG _).mono ?_); rintro e w' ⟨rfl, rfl⟩)
    go_loopw [3, 5] (fun v i wr => ∃ j : Nat, j ≤ 7 ∧ i = .int .i64 j ∧ Told w n j v wr) (fun _ i _ => 7 - (intOf i).toNat)
    case atStart => exact ⟨0, by omega, rfl, rO, hB0⟩
    case round =>
      obtain ⟨j, hj, rfl, ho, hb⟩ := hrel
      by_cases hlt : j < 7
      · go_wp2_with (at_builtin; refine append_step (w0 := w) w.heap.size rfl _ _ 58 35 (.agg #[.int .i64 0, .int .i64 0, .int .i64 0]) 3 24 rfl Try.underlying58 infoPlace rfl (by decide) _ _ _ ho hb 1 _ rfl rfl rfl (by simp [Value.oneCell']) (by have := hb.size; omega) (by omega) (by omega) ?_; intro v1 w1 hown1 hb1 _ _)
        go_roundw
        case rel => exact ⟨j + 1, by omega, by simp, by rw [plist_succ, place_head hlt]; exact hown1, hb1⟩
        case measure => simp [intOf]; omega
      · obtain rfl : j = 7 := by omega
        go_wp2
        obtain ⟨wo, rfl⟩ : ∃ wo : World, wo = wr := ⟨_, rfl⟩
        go_loopw [3, 6] (fun v i wr => ∃ j : Nat, j ≤ n ∧ i = .int .i64 j ∧ Told w n (7 + j) v wr) (fun _ i _ => n - (intOf i).toNat)
        case atStart => exact ⟨0, by omega, rfl, ho, hb⟩
        case round =>
          clear ho hb
          obtain ⟨j, hj, rfl, ho, hb⟩ := hrel
          by_cases hlt : j < n
          · go_wp2_with (at_builtin; refine append_step (w0 := w) w.heap.size rfl _ _ 58 35 (.agg #[.int .i64 0, .int .i64 0, .int .i64 0]) 3 24 rfl Try.underlying58 infoPlace rfl (by decide) _ _ _ ho hb 1 _ rfl rfl rfl (by simp [Value.oneCell']) (by have := hb.size; omega) (by omega) (by omega) ?_; intro v1 w1 hown1 hb1 _ _)
            go_roundw
            case rel => exact ⟨j + 1, by omega, by simp, by rw [show 7 + (j + 1) = 7 + j + 1 by omega, plist_succ, place_group hlt]; exact hown1, hb1⟩
            case measure => simp [intOf]; omega
          · obtain rfl : j = n := by omega
            go_wp2
            obtain ⟨wp, rfl⟩ : ∃ wp : World, wp = wr := ⟨_, rfl⟩
            go_loopw [3, 7, 8] (fun v i _ wr => ∃ g : Nat, g ≤ j ∧ i = .int .i64 g ∧ Told w j (7 + j + 8 * g) v wr) (fun _ i _ _ => j - (intOf i).toNat)
            case atStart => exact ⟨0, by omega, rfl, ho, hb⟩
            case round =>
              clear ho hb
              obtain ⟨g, hg, rfl, ho, hb⟩ := hrel
              by_cases hlt : g < j
              · go_wp2
                obtain ⟨wq, rfl⟩ : ∃ wq : World, wq = wr := ⟨_, rfl⟩
                go_loopw [3, 8] (fun v i wr => ∃ s : Nat, s ≤ 8 ∧ i = .int .i64 s ∧ Told w j (7 + j + 8 * g + s) v wr) (fun _ i _ => 8 - (intOf i).toNat)
                case atStart => exact ⟨0, by omega, rfl, ho, hb⟩
                case round =>
                  clear ho hb
                  obtain ⟨s, hs, rfl, ho, hb⟩ := hrel
                  by_cases hlts : s < 8
                  · go_wp2_with (at_builtin; refine append_step (w0 := w) w.heap.size rfl _ _ 58 35 (.agg #[.int .i64 0, .int .i64 0, .int .i64 0]) 3 24 rfl Try.underlying58 infoPlace rfl (by decide) _ _ _ ho hb 1 _ rfl rfl rfl (by simp [Value.oneCell']) (by have := hb.size; omega) (by omega) (by omega) ?_; intro v1 w1 hown1 hb1 _ _)
                    go_roundw
                    case rel => exact ⟨s + 1, by omega, by simp, by rw [show 7 + j + 8 * g + (s + 1) = 7 + j + 8 * g + s + 1 by omega, plist_succ, place_slot hlts]; exact hown1, hb1⟩
                    case measure => simp [intOf]; omega
                  · obtain rfl : s = 8 := by omega
                    go_wp2
                    go_roundw
                    case rel => exact ⟨g + 1, by omega, by simp, by rw [show 7 + j + 8 * (g + 1) = 7 + j + 8 * g + 8 by omega]; exact ⟨ho, hb⟩⟩
                    case measure => simp [intOf]; omega
              · obtain rfl : g = j := by omega
                go_wp2
                go_ret
                exact ⟨_, rfl, ho, hb⟩
end Go.Proofs.YtcmebpihaaibaaaRRRR
