import Derived.Test.YtcmebpihaaibaaaRRRRProg
import Derived.RangeFuncNested
import Derived.RangeFuncBound
import Derived.RangeFuncCalls
import Derived.RangeFuncLeaves
import Derived.RangeFuncBox
import Derived.Shelf.Abstract
import Derived.Shelf.RegionOpen
import Derived.WalkKit
import Derived.OwnWalkIn
import Derived.TacticsInMore
import Derived.LoopNIn
import Derived.LoopIn
import Derived.Maps.AppendAt
import Derived.Handy
import Derived.Lib.Hide
set_option linter.unusedVariables false
set_option linter.unusedSimpArgs false
namespace Go.Proofs.YtcmebpihaaibaaaRRRR
open Go.RowKit Go.Shelf
attribute [local go_sem] Oper.semAt_some

/-- How many groups. -/
def grp (k : Int) : Int := if k < 0 ∨ 9 < k then 0 else 2 ^ k.toNat
theorem grp_out {k : Int} (h : k < 0 ∨ 9 < k) : grp k = 0 := if_pos h
theorem grp_in {k : Int} (h : 0 ≤ k ∧ k ≤ 9) : grp k = 2 ^ k.toNat := if_neg (by omega)
theorem pow_small : ∀ k : Nat, k ≤ 9 → (1 : Int) ≤ 2 ^ k ∧ (2 : Int) ^ k ≤ 512 := by decide
theorem grp_range (k : Int) : 0 ≤ grp k ∧ grp k ≤ 512 := by
  by_cases h : k < 0 ∨ 9 < k
  · rw [grp_out h]; omega
  · have := pow_small k.toNat (by omega); rw [grp_in (by omega)]; omega

theorem grp_pow {log : Int} (h : ¬(log < 0 ∨ 9 < log)) : ∃ k : Nat, k ≤ 9 ∧ grp log = 2 ^ k ∧ (1 ≤ grp log ∧ grp log ≤ 512) :=
  ⟨log.toNat, by omega, grp_in (by omega), by rw [grp_in (by omega)]; exact pow_small _ (by omega)⟩
theorem mask_u64 {n : Int} {k : Nat} (hn : n = 2 ^ k) (hk : k ≤ 9) {x : Int} (h0 : 0 ≤ x) (h1 : x < 18446744073709551616) : bits .and .u64 x (n - 1) = x % n := by
  subst hn
  exact bits_mask .u64 64 (by decide) (fun n a b => by rw [IntKind.wrap_u64]; omega) k (by omega) x h0 (by simpa using h1)
theorem mask_i64 {n : Int} {k : Nat} (hn : n = 2 ^ k) (hk : k ≤ 9) {x : Int} (h0 : 0 ≤ x) (h1 : x < 9223372036854775808) : bits .and .i64 x (n - 1) = x % n := by
  subst hn
  exact bits_mask .i64 63 (by decide) (fun n a b => by rw [IntKind.wrap_i64]; omega) k (by omega) x h0 (by simpa using h1)
theorem ret_val {a b : Value} (h : a = b) : Ending.returned a = .returned b := by rw [h]

set_option maxHeartbeats 400000 in
theorem groups_any (k : Int) (w : World) :
    Calls Try.prog 6 #[.int .i64 k] w fun e w' => e = .returned (.int .i64 (grp k)) ∧ w = w' := by
  by_cases h : k < 0 ∨ 9 < k
  · rw [grp_out h]
    go_enter Try.func6, Try.ntmps6
    go_wp2
    all_goals (go_ret; exact ⟨rfl, rfl⟩)
  · have hp := pow_small k.toNat (by omega)
    have hg : wrap64 (2 ^ k.toNat) = grp k := by rw [grp_in (by omega)]; unfold wrap64; omega
    go_enter Try.func6, Try.ntmps6
    go_wp2
    go_ret
    exact ⟨ret_val (by rw [grp_in (by omega)]; rfl), rfl⟩

set_option maxHeartbeats 400000 in
theorem start_any (h : Int) (w : World) :
    Calls Try.prog 42 #[.int .u64 h] w fun e w' => e = .returned (.int .u64 (h / 128)) ∧ w = w' := by
  go_enter Try.func42, Try.ntmps42
  go_wp2
  go_ret
  exact ⟨rfl, rfl⟩

set_option maxHeartbeats 400000 in
theorem all_any (h log : Int) (w : World) :
    Calls Try.prog 30 #[.int .u64 h, .int .i64 log] w fun e w' => e = .returned (.func (.func 41) #[] #[.pointer (some ⟨w.heap.size + 1, 0, none⟩), .pointer (some ⟨w.heap.size, 0, none⟩)]) ∧ (w.alloc (.cells #[.int .u64 h] 22)).alloc (.cells #[.int .i64 log] 3) = w' := by
  go_enter Try.func30, Try.ntmps30
  go_wp2
  go_ret
  exact ⟨rfl, rfl⟩

/-- The way: where it begins, and each step. -/
def way (n s : Int) : Nat → Int
  | 0 => s % n
  | i + 1 => (way n s i + (i + 1 : Nat)) % n
def ways (n s : Int) (k : Nat) : List Int := (List.range k).map (way n s)
theorem ways_succ (n s : Int) (k : Nat) : ways n s (k + 1) = ways n s k ++ [way n s k] := by simp [ways, List.range_succ]
theorem ways_length (n s : Int) (k : Nat) : (ways n s k).length = k := by simp [ways]

/-- The place ahead of round k. -/
def pway (n s : Int) : Nat → Int
  | 0 => s % n
  | k + 1 => way n s k
theorem way_range (n s : Int) (k : Nat) (h : 1 ≤ n) : 0 ≤ way n s k ∧ way n s k < n := by
  cases k <;> exact ⟨Int.emod_nonneg _ (by omega), Int.emod_lt_of_pos _ (by omega)⟩
theorem pway_range (n s : Int) (k : Nat) (h : 1 ≤ n) : 0 ≤ pway n s k ∧ pway n s k < n := by
  cases k with
  | zero => exact ⟨Int.emod_nonneg _ (by omega), Int.emod_lt_of_pos _ (by omega)⟩
  | succ k => exact way_range n s k h
theorem pway_step {n : Int} (s : Int) {k : Nat} (hn : n = 2 ^ k) (hk : k ≤ 9) (j : Nat) (hj : (j : Int) ≤ n) : bits .and .i64 (pway n s j + (j : Int)) (n - 1) = way n s j := by
  have hp := pow_small k hk
  have hr := pway_range n s j (by omega)
  rw [mask_i64 hn hk (by omega) (by omega)]
  cases j with
  | zero => simp [pway, way]
  | succ j => rfl

set_option maxRecDepth 100000 in
set_option maxHeartbeats 1000000 in
theorem all1_in (m l Bl Bh n₀ : Nat) (hm : 1 ≤ m) (h log : Int) (h0 : 0 ≤ h) (h1 : h < 18446744073709551616) (J Jx : List Int → World → Prop)
    (hY : ∀ pre x W, J pre W → pre.length < (grp log).toNat → YieldAt Fence.wide (m - 1) Try.prog l #[.int .i64 x] W fun e W' =>
      (e = .returned (.bool true) ∧ J (pre ++ [x]) W' ∧ Below n₀ W W') ∨ (e = .returned (.bool false) ∧ Jx (pre ++ [x]) W'))
    (W : World) (hBl : W.cell? ⟨Bl, 0, none⟩ = some (.int .i64 log)) (hBh : W.cell? ⟨Bh, 0, none⟩ = some (.int .u64 h)) (hJ0 : J [] W) :
    CallsIn Fence.wide m Try.prog 41 #[.func (.yield l) #[] #[], .pointer (some ⟨Bl, 0, none⟩), .pointer (some ⟨Bh, 0, none⟩)] W fun e W' => (∃ v, e = .returned v) ∧
      ((∃ ys, ys = ways (grp log) (h / 128) (grp log).toNat ∧ J ys W') ∨ (∃ pre, (∃ k, k ≤ (grp log).toNat ∧ pre = ways (grp log) (h / 128) k) ∧ Jx pre W')) := by
  refine callsIn_of_wp Try.func41 rfl trivial ?_ rfl
  simp only [Try.ntmps41, List.size_toArray, List.length_cons, List.length_nil, Nat.reduceAdd, Nat.reduceSub, Array.replicate_succ, Array.replicate_zero, List.push_toArray, List.append_toArray, List.nil_append, List.cons_append]
  by_cases hv : log < 0 ∨ 9 < log
  · have hg0 : grp log = 0 := grp_out hv
    rw [hg0] at hY ⊢
    have hA : ∀ w : World, Calls Try.prog 6 #[.int .i64 log] w fun e w' => e = .returned (.int .i64 0) ∧ w = w' := fun w => by rw [← hg0]; exact groups_any _ _
    gi_wp2_with (first
      | (refine ⟨trivial, ?_⟩; gi_at_call 6; refine (callsIn_wide.2 (hA _)).mono ?_; rintro e w' ⟨rfl, rfl⟩)
      | (refine ⟨trivial, ?_⟩; gi_at_call 42; refine (callsIn_wide.2 (start_any _ _)).mono ?_; rintro e w' ⟨rfl, rfl⟩))
    gi_loopw [5, 6, 18] (fun _ _ i wr => i = .int .i64 0 ∧ J [] wr) (fun _ _ _ _ => 0)
    case atStart => exact ⟨rfl, hJ0⟩
    case round =>
      obtain ⟨rfl, hJs⟩ := hrel
      gi_wp2
      go_end0
      exact ⟨⟨_, rfl⟩, .inl ⟨_, rfl, hJs⟩⟩
  · obtain ⟨k, hk9, hgk, hgr⟩ := grp_pow hv
    have hA : ∀ w : World, Calls Try.prog 6 #[.int .i64 log] w fun e w' => e = .returned (.int .i64 (grp log)) ∧ w = w' := fun w => groups_any _ _
    generalize grp log = n at *
    have HK : Hid (n = 2 ^ k) := Lib.hid hgk
    clear hgk
    have hb : bits .and .u64 (h / 128) (n - 1) = (h / 128) % n := mask_u64 HK.out hk9 (by omega) (by omega)
    have hm0 := Int.emod_nonneg (h / 128) (show n ≠ 0 by omega)
    have hm1 := Int.emod_lt_of_pos (h / 128) (show 0 < n by omega)
    generalize hq : (h / 128) % n = r at hb hm0 hm1
    have HQ : Hid ((h / 128) % n = r) := Lib.hid hq
    clear hq
    gi_wp2_with (first
      | (refine ⟨trivial, ?_⟩; gi_at_call 6; refine (callsIn_wide.2 (hA _)).mono ?_; rintro e w' ⟨rfl, rfl⟩)
      | (refine ⟨trivial, ?_⟩; gi_at_call 42; refine (callsIn_wide.2 (start_any _ _)).mono ?_; rintro e w' ⟨rfl, rfl⟩))
    clear hb
    gi_loopw [5, 6, 18] (fun at5 _ i wr => ∃ k : Nat, (k : Int) ≤ n ∧ i = .int .i64 k ∧ at5 = .int .i64 (pway n (h / 128) k) ∧ J (ways n (h / 128) k) wr) (fun _ _ i _ => n.toNat - (intOf i).toNat)
    case atStart => exact ⟨0, by omega, rfl, by rw [← HQ.out]; rfl, hJ0⟩
    case round =>
      obtain ⟨j, hj, rfl, rfl, hJs⟩ := hrel
      have hp := pway_range n (h / 128) j (by omega)
      have hstep := pway_step (h / 128) HK.out hk9 j (by omega)
      by_cases hlt : (j : Int) < n
      · obtain ⟨fn, tmps, assign, body, hy, hR⟩ := hY _ (way n (h / 128) j) wr hJs (by rw [ways_length]; omega)
        generalize pway n (h / 128) j = p at *
        gi_wp2
        refine hR.mono ?_
        rintro e W3 (⟨rfl, hJ3, hk3⟩ | ⟨rfl, hJx3⟩)
        · gi_wp2
          go_roundw
          case rel => exact ⟨j + 1, by omega, by simp, rfl, by rw [ways_succ]; exact hJ3⟩
          case measure => simp [intOf]; omega
        · gi_wp2
          refine bodyPost_ret (results_none rfl _ _ _) rfl ?_
          exact ⟨⟨_, rfl⟩, .inr ⟨_, ⟨j + 1, by omega, (ways_succ _ _ _).symm⟩, hJx3⟩⟩
      · have hjn : j = n.toNat := by omega
        gi_wp2
        go_end0
        exact ⟨⟨_, rfl⟩, .inl (by rw [← hjn]; exact hJs)⟩

theorem all_stops (m Bl Bh n₀ : Nat) (hm : 1 ≤ m) (h log : Int) (h0 : 0 ≤ h) (h1 : h < 18446744073709551616) (w : World) (hl : Bl < w.heap.size) (hh : Bh < w.heap.size)
    (hBl : w.cell? ⟨Bl, 0, none⟩ = some (.int .i64 log)) (hBh : w.cell? ⟨Bh, 0, none⟩ = some (.int .u64 h)) :
    SeqStopsK Fence.wide m Try.prog 41 #[.pointer (some ⟨Bl, 0, none⟩), .pointer (some ⟨Bh, 0, none⟩)] (fun x : Int => #[Value.int .i64 x]) (Below n₀)
      (fun ys => ys = ways (grp log) (h / 128) (grp log).toNat) (fun pre => ∃ k, k ≤ (grp log).toNat ∧ pre = ways (grp log) (h / 128) k) (grp log).toNat w := fun l J Jx W hW _ _ hY hJ0 =>
  all1_in m l Bl Bh n₀ hm h log h0 h1 J Jx hY W ((hW.cell (p := ⟨Bl, 0, none⟩) hl).trans hBl) ((hW.cell (p := ⟨Bh, 0, none⟩) hh).trans hBh) hJ0
end Go.Proofs.YtcmebpihaaibaaaRRRR
