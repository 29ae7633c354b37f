import Derived.Test.YtaclkachohkenaaDoorMem
import Derived.Test.YtaclkachohkenaaDoorRetP
set_option linter.unusedVariables false
set_option linter.unusedSimpArgs false
namespace Go.Proofs.YtaclkachohkenaaDoor
open Go.RowKit

theorem take_eq_succ {xs ys : List Int} {k : Nat} (hl : xs.length = ys.length) (hk : k < xs.length) (h : xs.take k = ys.take k) (he : xs[k]?.getD 0 = ys[k]?.getD 0) : xs.take (k + 1) = ys.take (k + 1) := by
  have hk' : k < ys.length := by omega
  rw [List.getElem?_eq_getElem hk, List.getElem?_eq_getElem hk'] at he
  simp only [Option.getD_some] at he
  rw [List.take_succ_eq_append_getElem hk, List.take_succ_eq_append_getElem hk', h, he]

theorem Ret.no {xs ys : List Int} {w w' : World} (h : xs ≠ ys) (hw : ∃ n, w' = w.drewN n) : Ret (.bool (decide (xs = ys))) w (.returned (.bool false)) w' := by
  obtain ⟨n, rfl⟩ := hw
  exact ⟨by simp [h], bel_drewN (Below.refl _ _) _⟩
theorem Ret.yes {xs ys : List Int} {w w' : World} (h : xs = ys) (hw : ∃ n, w' = w.drewN n) : Ret (.bool (decide (xs = ys))) w (.returned (.bool true)) w' := by
  obtain ⟨n, rfl⟩ := hw
  exact ⟨by simp [h], bel_drewN (Below.refl _ _) _⟩

set_option maxHeartbeats 1000000 in
theorem words_any (v1 v2 : Value) (xs ys : List Int) (w : World) (h1 : Rd w .u64 v1 xs) (h2 : Rd w .u64 v2 ys) :
    Calls Tryd.prog 12 #[v1, v2] w (Ret (.bool (decide (xs = ys))) w) := by
  obtain ⟨a, n, c, rfl, hn, hb, hc⟩ := h1
  obtain ⟨a', n', c', rfl, hn', hb', hc'⟩ := h2
  by_cases hl : n = n'
  · subst hl
    have HN : Hid (xs.length = n) := Lib.hid hn
    have HN' : Hid (ys.length = n) := Lib.hid hn'
    have HC : Hid (0 < n → ∃ b off, a = some ⟨b, off, none⟩ ∧ ∀ j, j < n → w.cell? ⟨b, off + j, none⟩ = some (.int .u64 (xs[j]?.getD 0))) := Lib.hid hc
    have HC' : Hid (0 < n → ∃ b off, a' = some ⟨b, off, none⟩ ∧ ∀ j, j < n → w.cell? ⟨b, off + j, none⟩ = some (.int .u64 (ys[j]?.getD 0))) := Lib.hid hc'
    clear hn hn' hc hc'
    go_enter Tryd.func12, Tryd.ntmps12
    go_wp2
    go_loopw [5] (fun i wr => ∃ k : Nat, k ≤ n ∧ i = .int .i64 k ∧ xs.take k = ys.take k ∧ ∃ m, wr = w.drewN m) (fun i _ => n - (intOf i).toNat)
    case atStart => exact ⟨0, by omega, rfl, rfl, 0, rfl⟩
    case round =>
      obtain ⟨k, hk, rfl, ht, m, rfl⟩ := hrel
      have HT : Hid (xs.take k = ys.take k) := Lib.hid ht
      clear ht
      by_cases hlt : k < n
      · obtain ⟨b, off, rfl, hc⟩ := HC.out (by omega)
        obtain ⟨b', off', rfl, hc'⟩ := HC'.out (by omega)
        have c1 := hc k hlt
        have c2 := hc' k hlt
        clear hc hc' HC HC'
        by_cases he : xs[k]?.getD 0 = ys[k]?.getD 0
        · have HE : Hid (xs[k]?.getD 0 = ys[k]?.getD 0) := Lib.hid he
          rw [← he] at c2
          clear he
          generalize xs[k]?.getD 0 = x at c1 c2
          go_wp2
          go_quiet (fail)
          go_wp2
          go_roundw
          case rel => exact ⟨k + 1, by omega, by simp, take_eq_succ (by rw [HN.out, HN'.out]) (by rw [HN.out]; omega) HT.out HE.out, _, rfl⟩
          case measure => simp [intOf]; omega
        · have HE : Hid (xs[k]?.getD 0 ≠ ys[k]?.getD 0) := Lib.hid he
          generalize xs[k]?.getD 0 = x at c1 he
          generalize ys[k]?.getD 0 = y at c2 he
          go_wp2
          go_quiet (fail)
          go_wp2
          go_ret
          exact Ret.no (fun e => HE.out (by rw [e])) ⟨_, World.drewN_drewN ..⟩
      · have hkn : k = n := by omega
        go_wp2
        go_ret
        exact Ret.yes (by have := HT.out; rw [List.take_of_length_le (by rw [HN.out]; omega), List.take_of_length_le (by rw [HN'.out]; omega)] at this; exact this) ⟨_, rfl⟩
  · have hl' : ((n : Int) != (n' : Int)) = true := by simp; omega
    have hne : xs ≠ ys := fun e => hl (by rw [← hn, ← hn', e])
    clear hn hn' hc hc'
    go_enter Tryd.func12, Tryd.ntmps12
    go_wp2
    go_ret
    exact Ret.no hne ⟨0, rfl⟩

theorem contains_take {td : List Int} {u : Int} {k : Nat} (hk : k < td.length) (h : inB (td.take k) u = false) (he : td[k]?.getD 0 ≠ u) : inB (td.take (k + 1)) u = false := by
  unfold inB at *
  rw [List.take_succ_eq_append_getElem hk]
  rw [List.getElem?_eq_getElem hk] at he
  simp only [Option.getD_some] at he
  rw [List.contains_eq_mem] at *
  simp only [decide_eq_false_iff_not, List.mem_append, List.mem_singleton, not_or] at *
  exact ⟨h, fun e => he e.symm⟩
theorem inB_at {td : List Int} {u : Int} {k : Nat} (hk : k < td.length) (he : td[k]?.getD 0 = u) : inB td u = true := by
  rw [List.getElem?_eq_getElem hk] at he
  simp only [Option.getD_some] at he
  subst he
  simp [inB]

set_option maxHeartbeats 1000000 in
theorem has_any (v : Value) (td : List Int) (u : Int) (w : World) (h1 : Rd w .u64 v td) :
    Calls Tryd.prog 22 #[v, .int .u64 u] w fun e w' => e = .returned (.bool (inB td u)) ∧ w = w' := by
  obtain ⟨a, n, c, rfl, hn, hb, hc⟩ := h1
  have HN : Hid (td.length = n) := Lib.hid hn
  have HC : Hid (0 < n → ∃ b off, a = some ⟨b, off, none⟩ ∧ ∀ j, j < n → w.cell? ⟨b, off + j, none⟩ = some (.int .u64 (td[j]?.getD 0))) := Lib.hid hc
  clear hn hc
  go_enter Tryd.func22, Tryd.ntmps22
  go_wp2
  go_loop [5] (fun i => ∃ k : Nat, k ≤ n ∧ i = .int .i64 k ∧ inB (td.take k) u = false) (fun i => n - (intOf i).toNat)
  case atStart => exact ⟨0, by omega, rfl, rfl⟩
  case round =>
    obtain ⟨k, hk, rfl, ht⟩ := hrel
    have HT : Hid (inB (td.take k) u = false) := Lib.hid ht
    clear ht
    by_cases hlt : k < n
    · obtain ⟨b, off, rfl, hc⟩ := HC.out (by omega)
      have c1 := hc k hlt
      clear hc HC
      by_cases he : td[k]?.getD 0 = u
      · have HE : Hid (td[k]?.getD 0 = u) := Lib.hid he
        rw [he] at c1
        clear he
        go_wp2
        go_ret
        refine ⟨ret_val ?_, rfl⟩
        rw [inB_at (by rw [HN.out]; exact hlt) HE.out]
        rfl
      · have HE : Hid (td[k]?.getD 0 ≠ u) := Lib.hid he
        generalize td[k]?.getD 0 = x at c1 he
        go_wp2
        go_round
        case rel => exact ⟨k + 1, by omega, by simp, contains_take (by rw [HN.out]; exact hlt) HT.out HE.out⟩
        case measure => simp [intOf]; omega
    · have hkn : k = n := by omega
      go_wp2
      go_ret
      refine ⟨ret_val ?_, rfl⟩
      have := HT.out
      rw [List.take_of_length_le (by rw [HN.out]; omega)] at this
      rw [this]
      rfl

/-- A site that may be. -/
def siteOk (D th T K : Int) : Bool := decide (D ≠ 0 ∧ 1 ≤ T ∧ T ≤ 64 ∧ 1 ≤ K ∧ K ≤ 64 ∧ 0 ≤ th ∧ th < T)
/-- The variable desk.bounds as it was laid. -/
def Bd (w : World) : Prop := w.cell? ⟨0, 0, none⟩ = some (.int .i64 1) ∧ w.cell? ⟨0, 1, none⟩ = some (.int .i64 64) ∧ w.cell? ⟨0, 2, none⟩ = some (.int .i64 1) ∧ w.cell? ⟨0, 3, none⟩ = some (.int .i64 64)
theorem Bd.but {S : Nat → Prop} {w w' : World} (hb : But S w w') (h : Bd w) (hn : ¬ S 0) : Bd w' := ⟨hb.cell h.1 hn, hb.cell h.2.1 hn, hb.cell h.2.2.1 hn, hb.cell h.2.2.2 hn⟩
theorem Bd.below {w w' : World} (hb : Below w.heap.size w w') (h : Bd w) : Bd w' := ⟨bel_cell hb h.1, bel_cell hb h.2.1, bel_cell hb h.2.2.1, bel_cell hb h.2.2.2⟩

theorem within0 (n : Int) (w : World) (h : Bd w) : Calls Tryd.prog 18 #[.int .i64 0, .int .i64 n] w fun e w' => e = .returned (.bool (decide (1 ≤ n ∧ n ≤ 64))) ∧ w = w' := by
  obtain ⟨c0, c1, c2, c3⟩ := h
  by_cases h1 : 1 ≤ n
  · by_cases h2 : n ≤ 64
    · go_enter Tryd.func18, Tryd.ntmps18
      go_wp2
      go_ret
      exact ⟨ret_val (by simp [h1, h2]), rfl⟩
    · go_enter Tryd.func18, Tryd.ntmps18
      go_wp2
      go_ret
      exact ⟨ret_val (by simp; omega), rfl⟩
  · go_enter Tryd.func18, Tryd.ntmps18
    go_wp2
    go_ret
    exact ⟨ret_val (by simp; omega), rfl⟩
theorem within1 (n : Int) (w : World) (h : Bd w) : Calls Tryd.prog 18 #[.int .i64 1, .int .i64 n] w fun e w' => e = .returned (.bool (decide (1 ≤ n ∧ n ≤ 64))) ∧ w = w' := by
  obtain ⟨c0, c1, c2, c3⟩ := h
  by_cases h1 : 1 ≤ n
  · by_cases h2 : n ≤ 64
    · go_enter Tryd.func18, Tryd.ntmps18
      go_wp2
      go_ret
      exact ⟨ret_val (by simp [h1, h2]), rfl⟩
    · go_enter Tryd.func18, Tryd.ntmps18
      go_wp2
      go_ret
      exact ⟨ret_val (by simp; omega), rfl⟩
  · go_enter Tryd.func18, Tryd.ntmps18
    go_wp2
    go_ret
    exact ⟨ret_val (by simp; omega), rfl⟩
end Go.Proofs.YtaclkachohkenaaDoor
