import Derived.Test.YtaclkachohkenaaDoorRetB
set_option linter.unusedVariables false
set_option linter.unusedSimpArgs false
namespace Go.Proofs.YtaclkachohkenaaDoor
open Go.RowKit

def DoPost (t : Nat) (v : Value) (gs : List Int) (r : Int × TS) (w : World) (e : Ending) (w' : World) : Prop :=
  e = .returned (.int .u64 r.1) ∧ But (fun b => b = t) w w' ∧ Tape w' t v gs r.2

set_option maxHeartbeats 2000000 in
theorem do_any (t : Nat) (v : Value) (gs : List Int) (s : TS) (x : A5) (w : World) (h : Tape w t v gs s) (h63 : gs.length < 1000) :
    Calls Tryd.prog 24 #[.pointer (some ⟨t, 0, none⟩), x.val] w (DoPost t v gs (s.step gs x) w) := by
  obtain ⟨i, over, ⟨k, b, c, o, n⟩⟩ := s
  obtain ⟨xk, xb, xc, xo, xn⟩ := x
  obtain ⟨hcs, hrd, hle, hne⟩ := h
  have ht := hcs.lt
  simp only at hle
  have HR : Hid (Rd w .u64 v gs) := Lib.hid hrd
  obtain ⟨a, m, cp, rfl, hm, hm2, hc⟩ := hrd
  have HC : Hid (0 < m → ∃ b off, a = some ⟨b, off, none⟩ ∧ ∀ j, j < m → w.cell? ⟨b, off + j, none⟩ = some (.int .u64 (gs[j]?.getD 0))) := Lib.hid hc
  clear hc
  simp only [A5.vals, Cs, List.cons_append, List.nil_append, Nat.zero_add, Nat.reduceAdd] at hcs
  obtain ⟨c0, f0, c1, f1, c2, f2, c3, f3, c4, f4, c5, f5, c6, f6, c7, f7, _⟩ := hcs
  cases over with
  | true =>
    rw [step_over]
    go_enter Tryd.func24, Tryd.ntmps24
    go_wp2
    go_returns
    refine ⟨rfl, by (repeat' (first | (with_reducible exact But.refl _ _) | (with_reducible assumption) | (with_reducible refine But.alloc ?_ _) | (with_reducible refine But.drew ?_) | (with_reducible refine But.drewN ?_ _) | (with_reducible refine But.setCell ?_ ?_ _) | (intro _; first | rfl | assumption | omega))), ⟨?_, ?_, hle, hne⟩⟩
    · simp [A5.vals, Cs, go_sem, *]
    · exact HR.out.but (S := fun b => b = t) (by (repeat' (first | (with_reducible exact But.refl _ _) | (with_reducible assumption) | (with_reducible refine But.alloc ?_ _) | (with_reducible refine But.drew ?_) | (with_reducible refine But.drewN ?_ _) | (with_reducible refine But.setCell ?_ ?_ _) | (intro _; first | rfl | assumption | omega)))) hne
  | false =>
    by_cases hlt : i < gs.length
    · rw [step_more hlt]
      obtain ⟨g, off, rfl, hc⟩ := HC.out (by omega)
      have d := hc i (by omega)
      have hg : g ≠ t := hne g rfl
      have hg2 : g < w.heap.size := World.block_lt_of_cell? w _ d
      have HN : Hid (gs.length = m) := Lib.hid hm
      have HV : Hid (∀ q, (Value.slice (some ⟨g, off, none⟩) m cp).ownBlock = some q → q ≠ t) := Lib.hid hne
      clear hne
      have e1 : IntKind.i64.wrap ((i : Int) + 1) = ((i + 1 : Nat) : Int) := by simp [IntKind.wrap, IntKind.signed, IntKind.bits]; omega
      have e2 : IntKind.i64.wrap (((i + 1 : Nat) : Int) - 1) = (i : Int) := by simp [IntKind.wrap, IntKind.signed, IntKind.bits]; omega
      have l1 : (i : Int) < (m : Int) := by omega
      have l2 : (0 : Int) ≤ (i : Int) := by omega
      clear hc HC hm
      generalize gs[i]?.getD 0 = y at d
      go_enter Tryd.func24, Tryd.ntmps24
      go_wp2
      go_quiet (fail)
      go_wp2
      refine wp_world (fun W => But (fun b => b = t) w W ∧ Cs W t 0 [.slice (some ⟨g, off, none⟩) m cp, .int .i64 ((i : Int) + 1), .bool false, .int .i64 k, .int .u64 b, .int .i64 c, .int .u64 o, .int .u64 n] ∧ W.cell? ⟨g, off + i, none⟩ = some (.int .u64 y)) ⟨by (repeat' (first | (with_reducible exact But.refl _ _) | (with_reducible assumption) | (with_reducible refine But.alloc ?_ _) | (with_reducible refine But.drew ?_) | (with_reducible refine But.drewN ?_ _) | (with_reducible refine But.setCell ?_ ?_ _) | (intro _; first | rfl | assumption | omega))), by simp [Cs, go_sem, *], by simp [go_sem, *]⟩ ?_
      rintro W5 ⟨hb5, hcs5, d5⟩
      have HS : Hid (Cs W5 t 0 [.slice (some ⟨g, off, none⟩) m cp, .int .i64 ((i : Int) + 1), .bool false, .int .i64 k, .int .u64 b, .int .i64 c, .int .u64 o, .int .u64 n]) := Lib.hid hcs5
      clear c0 c1 c2 c3 c4 c5 c6 c7 f0 f1 f2 f3 f4 f5 f6 f7 d
      simp only [Cs] at hcs5
      obtain ⟨c0, f0, c1, f1, hcs5⟩ := hcs5
      clear hcs5
      have e3 : IntKind.i64.wrap ((i : Int) + 1 - 1) = (i : Int) := by simp [IntKind.wrap, IntKind.signed, IntKind.bits]; omega
      clear e1 e2
      generalize hj : (i : Int) + 1 = j at *
      have HJ : Hid ((i : Int) + 1 = j) := Lib.hid hj
      clear hj
      go_quiet (fail)
      go_wp2
      go_returns
      have hj := HJ.out
      subst hj
      refine ⟨rfl, by (repeat' (first | (with_reducible exact But.refl _ _) | (with_reducible assumption) | (with_reducible refine But.alloc ?_ _) | (with_reducible refine But.drew ?_) | (with_reducible refine But.drewN ?_ _) | (with_reducible refine But.setCell ?_ ?_ _) | (intro _; first | rfl | assumption | omega))), ⟨?_, ?_, by simp only; omega, HV.out⟩⟩
      · have := HS.out
        simpa [A5.vals, Cs, go_sem] using this
      · exact HR.out.but (S := fun b => b = t) (by (repeat' (first | (with_reducible exact But.refl _ _) | (with_reducible assumption) | (with_reducible refine But.alloc ?_ _) | (with_reducible refine But.drew ?_) | (with_reducible refine But.drewN ?_ _) | (with_reducible refine But.setCell ?_ ?_ _) | (intro _; first | rfl | assumption | omega)))) HV.out
    · rw [step_end hlt]
      have hlen : i = gs.length := by omega
      have l1 : ¬ (i : Int) < (m : Int) := by omega
      have HV : Hid (∀ q, (Value.slice a m cp).ownBlock = some q → q ≠ t) := Lib.hid hne
      have HN : Hid (gs.length = m) := Lib.hid hm
      clear hne hm HC hlt
      go_enter Tryd.func24, Tryd.ntmps24
      go_wp2
      go_quiet (fail)
      go_wp2
      go_returns
      refine ⟨rfl, by (repeat' (first | (with_reducible exact But.refl _ _) | (with_reducible assumption) | (with_reducible refine But.alloc ?_ _) | (with_reducible refine But.drew ?_) | (with_reducible refine But.drewN ?_ _) | (with_reducible refine But.setCell ?_ ?_ _) | (intro _; first | rfl | assumption | omega))), ⟨?_, ?_, by simp only; omega, HV.out⟩⟩
      · simp [A5.vals, Cs, go_sem, *]
      · exact HR.out.but (S := fun b => b = t) (by (repeat' (first | (with_reducible exact But.refl _ _) | (with_reducible assumption) | (with_reducible refine But.alloc ?_ _) | (with_reducible refine But.drew ?_) | (with_reducible refine But.drewN ?_ _) | (with_reducible refine But.setCell ?_ ?_ _) | (intro _; first | rfl | assumption | omega)))) HV.out
end Go.Proofs.YtaclkachohkenaaDoor
