import Derived.Test.YtcmebpihaaibaaaRRRRRouteB
import Derived.Deep.QuietTactic
import Derived.BigQuiet
import Derived.Deep.AppendLies
set_option linter.unusedVariables false
set_option linter.unusedSimpArgs false
namespace Go.Proofs.YtcmebpihaaibaaaRRRR
open Go.RowKit Go.Shelf

/-- The slice v reads as the numbers xs. -/
def Rd (w : World) (k : IntKind) (v : Value) (xs : List Int) : Prop :=
  ∃ a n c, v = .slice a n c ∧ xs.length = n ∧ n ≤ 140737488355328 ∧ (0 < n → ∃ b off, a = some ⟨b, off, none⟩ ∧ ∀ j, j < n → w.cell? ⟨b, off + j, none⟩ = some (.int k (xs[j]?.getD 0)))
theorem Rd.below {w w1 : World} {k : IntKind} {v : Value} {xs : List Int} (h : Rd w k v xs) (hb : Below w.heap.size w w1) : Rd w1 k v xs := by
  obtain ⟨a, n, c, h1, h2, h3, h4⟩ := h
  refine ⟨a, n, c, h1, h2, h3, fun hn => ?_⟩
  obtain ⟨b, off, ha, hc⟩ := h4 hn
  refine ⟨b, off, ha, fun j hj => ?_⟩
  have := hc j hj
  exact (hb.cell (p := ⟨b, off + j, none⟩) (World.block_lt_of_cell? w _ this)).trans this
theorem Rd.of_own {w : World} {base : Nat} {e : TypeId} {k : IntKind} {v : Value} {xs : List Int} (h : w.ownsRow base e 1 v xs.length (xs.map (Value.int k))) (hl : xs.length ≤ 140737488355328) : Rd w k v xs := by
  rcases Nat.eq_zero_or_pos xs.length with h0 | h0
  · obtain ⟨A, c, rfl⟩ := own_slice h
    exact ⟨A, _, c, rfl, rfl, hl, fun hp => by omega⟩
  · obtain ⟨g, cap, rfl, _⟩ := h.form h0
    refine ⟨_, _, cap, rfl, rfl, hl, fun _ => ⟨g, 0, rfl, fun j hj => ?_⟩⟩
    have := h.cells (g := g) rfl j (.int k (xs[j]?.getD 0)) (by simp [List.getElem?_eq_getElem hj])
    simpa [Addr.add_lit] using this

theorem take_eq_succ {xs ys : List Int} {k : Nat} (hl : xs.length = ys.length) (hk : k < xs.length) (h : xs.take k = ys.take k) (he : xs[k]?.getD 0 = ys[k]?.getD 0) : xs.take (k + 1) = ys.take (k + 1) := by
  have hk' : k < ys.length := by omega
  rw [List.getElem?_eq_getElem hk, List.getElem?_eq_getElem hk'] at he
  simp only [Option.getD_some] at he
  rw [List.take_succ_eq_append_getElem hk, List.take_succ_eq_append_getElem hk', h, he]

def IntsPost (xs ys : List Int) (w : World) (e : Ending) (w' : World) : Prop := e = .returned (.bool (decide (xs = ys))) ∧ ∃ n, w' = w.drewN n
theorem IntsPost.no {xs ys : List Int} {w w' : World} (h : xs ≠ ys) (hw : ∃ n, w' = w.drewN n) : IntsPost xs ys w (.returned (.bool false)) w' := ⟨by simp [h], hw⟩
theorem IntsPost.yes {xs ys : List Int} {w w' : World} (h : xs = ys) (hw : ∃ n, w' = w.drewN n) : IntsPost xs ys w (.returned (.bool true)) w' := ⟨by simp [h], hw⟩

set_option maxHeartbeats 1000000 in
theorem ints_any (v1 v2 : Value) (xs ys : List Int) (w : World) (h1 : Rd w .i64 v1 xs) (h2 : Rd w .i64 v2 ys) :
    Calls Try.prog 31 #[v1, v2] w (IntsPost xs ys w) := by
  obtain ⟨a, n, c, rfl, hn, hb, hc⟩ := h1
  obtain ⟨a', n', c', rfl, hn', hb', hc'⟩ := h2
  by_cases hl : n = n'
  · subst hl
    have HN : Hid (xs.length = n) := Lib.hid hn
    have HN' : Hid (ys.length = n) := Lib.hid hn'
    have HC : Hid (0 < n → ∃ b off, a = some ⟨b, off, none⟩ ∧ ∀ j, j < n → w.cell? ⟨b, off + j, none⟩ = some (.int .i64 (xs[j]?.getD 0))) := Lib.hid hc
    have HC' : Hid (0 < n → ∃ b off, a' = some ⟨b, off, none⟩ ∧ ∀ j, j < n → w.cell? ⟨b, off + j, none⟩ = some (.int .i64 (ys[j]?.getD 0))) := Lib.hid hc'
    clear hn hn' hc hc'
    go_enter Try.func31, Try.ntmps31
    go_wp2
    go_loopw [5] (fun i wr => ∃ k : Nat, k ≤ n ∧ i = .int .i64 k ∧ xs.take k = ys.take k ∧ ∃ m, wr = w.drewN m) (fun i _ => n - (intOf i).toNat)
    case atStart => exact ⟨0, by omega, rfl, rfl, 0, rfl⟩
    case round =>
      obtain ⟨k, hk, rfl, ht, m, rfl⟩ := hrel
      have HT : Hid (xs.take k = ys.take k) := Lib.hid ht
      clear ht
      by_cases hlt : k < n
      · obtain ⟨b, off, rfl, hc⟩ := HC.out (by omega)
        obtain ⟨b', off', rfl, hc'⟩ := HC'.out (by omega)
        have c1 := hc k hlt
        have c2 := hc' k hlt
        clear hc hc' HC HC'
        by_cases he : xs[k]?.getD 0 = ys[k]?.getD 0
        · have HE : Hid (xs[k]?.getD 0 = ys[k]?.getD 0) := Lib.hid he
          rw [← he] at c2
          clear he
          generalize xs[k]?.getD 0 = x at c1 c2
          go_wp2
          go_quiet (fail)
          go_wp2
          go_roundw
          case rel => exact ⟨k + 1, by omega, by simp, take_eq_succ (by rw [HN.out, HN'.out]) (by rw [HN.out]; omega) HT.out HE.out, _, rfl⟩
          case measure => simp [intOf]; omega
        · have HE : Hid (xs[k]?.getD 0 ≠ ys[k]?.getD 0) := Lib.hid he
          generalize xs[k]?.getD 0 = x at c1 he
          generalize ys[k]?.getD 0 = y at c2 he
          go_wp2
          go_quiet (fail)
          go_wp2
          go_ret
          exact IntsPost.no (fun e => HE.out (by rw [e])) ⟨_, World.drewN_drewN ..⟩
      · have hkn : k = n := by omega
        go_wp2
        go_ret
        exact IntsPost.yes (by have := HT.out; rw [List.take_of_length_le (by rw [HN.out]; omega), List.take_of_length_le (by rw [HN'.out]; omega)] at this; exact this) ⟨_, rfl⟩
  · have hl' : ((n : Int) != (n' : Int)) = true := by simp; omega
    have hne : xs ≠ ys := fun e => hl (by rw [← hn, ← hn', e])
    clear hn hn' hc hc'
    go_enter Try.func31, Try.ntmps31
    go_wp2
    go_ret
    exact IntsPost.no hne ⟨0, rfl⟩
end Go.Proofs.YtcmebpihaaibaaaRRRR
