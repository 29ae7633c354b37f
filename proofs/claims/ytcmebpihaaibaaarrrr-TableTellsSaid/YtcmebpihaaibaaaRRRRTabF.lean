import Derived.Test.YtcmebpihaaibaaaRRRRTabE
set_option linter.unusedVariables false
set_option linter.unusedSimpArgs false
namespace Go.Proofs.YtcmebpihaaibaaaRRRR
open Go.RowKit

set_option maxRecDepth 100000 in
set_option maxHeartbeats 4000000 in
theorem tableTells_any (b k n0 n1 c : Int) (hb0 : 0 ≤ b) (hc0 : -9223372036854775808 ≤ c) (hc1 : c < 9223372036854775808) (w : World) :
    Calls Try.prog 4 #[.agg #[.int .u64 b, .int .i64 k], .agg #[.int .i64 n0, .int .i64 n1], .int .i64 c] w (Ret (.bool true) w) := by
  have hW := fun w => where_any k c w
  have hW' := fun w => refWhere_any k c w
  generalize twhere k c = p at *
  unfold agg3 at hW hW'
  go_enter Try.func4, Try.ntmps4
  go_wp2_with fail
  (with_reducible refine (hW _).mono ?_)
  rintro e w1 ⟨rfl, hb1⟩
  have q0 : w1.cell? ⟨w.heap.size, 0, none⟩ = some (.int .u64 b) := bel_cell hb1 (by simp [go_sem])
  have q1 : w1.cell? ⟨w.heap.size, 1, none⟩ = some (.int .i64 k) := bel_cell hb1 (by simp [go_sem])
  have r0 : w1.cell? ⟨w.heap.size + 1, 0, none⟩ = some (.int .i64 n0) := bel_cell hb1 (by simp [go_sem])
  have r1 : w1.cell? ⟨w.heap.size + 1, 1, none⟩ = some (.int .i64 n1) := bel_cell hb1 (by simp [go_sem])
  have z1 : w.heap.size + 1 < w1.heap.size := by have := hb1.size; simp at this; omega
  have z0 : w.heap.size < w1.heap.size := by omega
  go_wp2_with fail
  (with_reducible refine (hW' _).mono ?_)
  rintro e w2 ⟨rfl, hb2⟩
  have q0' : w2.cell? ⟨w.heap.size, 0, none⟩ = some (.int .u64 b) := bel_cell hb2 (by simp [go_sem, q0, z0])
  have q1' : w2.cell? ⟨w.heap.size, 1, none⟩ = some (.int .i64 k) := bel_cell hb2 (by simp [go_sem, q1, z0])
  have r0' : w2.cell? ⟨w.heap.size + 1, 0, none⟩ = some (.int .i64 n0) := bel_cell hb2 (by simp [go_sem, r0, z1])
  have r1' : w2.cell? ⟨w.heap.size + 1, 1, none⟩ = some (.int .i64 n1) := bel_cell hb2 (by simp [go_sem, r1, z1])
  have z2 := slot_size hb2
  have z1' : w.heap.size + 1 < w2.heap.size := by omega
  have z0' : w.heap.size < w2.heap.size := by omega
  have p0 := slot_cell hb2 0 (.int .i64 p.1) rfl
  have p1 := slot_cell hb2 1 (.int .i64 p.2.1) rfl
  have p2 := slot_cell hb2 2 (.int .i64 p.2.2) rfl
  go_wp2_with fail
  have hbW : Below w.heap.size w (w2.alloc (Obj.cells #[Value.int IntKind.i64 p.fst, Value.int IntKind.i64 p.snd.fst, Value.int IntKind.i64 p.snd.snd] 35)) := by (repeat' (first | (with_reducible exact Below.refl _ _) | (with_reducible assumption) | (with_reducible refine Below.alloc ?_ ?_ _) | (with_reducible refine Below.drew ?_) | (with_reducible refine bel_drewN ?_ _) | (with_reducible refine Below.setCell ?_ ?_ _) | (with_reducible refine bel_after ?_ (by assumption)) | (exact Below.size (by assumption)) | omega | (simp only [World.size_alloc, World.size_setCell, World.size_drew, size_drewN] at *; omega)))
  have q0 : (w2.alloc (Obj.cells #[Value.int IntKind.i64 p.fst, Value.int IntKind.i64 p.snd.fst, Value.int IntKind.i64 p.snd.snd] 35)).cell? ⟨w.heap.size, 0, none⟩ = some (.int .u64 b) := by simp [go_sem, q0', z0']
  have q1 : (w2.alloc (Obj.cells #[Value.int IntKind.i64 p.fst, Value.int IntKind.i64 p.snd.fst, Value.int IntKind.i64 p.snd.snd] 35)).cell? ⟨w.heap.size, 1, none⟩ = some (.int .i64 k) := by simp [go_sem, q1', z0']
  have r0 : (w2.alloc (Obj.cells #[Value.int IntKind.i64 p.fst, Value.int IntKind.i64 p.snd.fst, Value.int IntKind.i64 p.snd.snd] 35)).cell? ⟨w.heap.size + 1, 0, none⟩ = some (.int .i64 n0) := by simp [go_sem, r0', z1']
  have r1 : (w2.alloc (Obj.cells #[Value.int IntKind.i64 p.fst, Value.int IntKind.i64 p.snd.fst, Value.int IntKind.i64 p.snd.snd] 35)).cell? ⟨w.heap.size + 1, 1, none⟩ = some (.int .i64 n1) := by simp [go_sem, r1', z1']
  clear q0' q1' r0' r1' hb1 hb2 hW hW'
  generalize w2.alloc (Obj.cells #[Value.int IntKind.i64 p.fst, Value.int IntKind.i64 p.snd.fst, Value.int IntKind.i64 p.snd.snd] 35) = W5 at *
  have L0 : ∀ x : Later W5, x.W.cell? ⟨w.heap.size, 0, none⟩ = some (.int .u64 b) := fun x => x.cell q0
  have L1 : ∀ x : Later W5, x.W.cell? ⟨w.heap.size, 1, none⟩ = some (.int .i64 k) := fun x => x.cell q1
  have L2 : ∀ x : Later W5, x.W.cell? ⟨w.heap.size + 1, 0, none⟩ = some (.int .i64 n0) := fun x => x.cell r0
  have L3 : ∀ x : Later W5, x.W.cell? ⟨w.heap.size + 1, 1, none⟩ = some (.int .i64 n1) := fun x => x.cell r1
  refine wp_region_later (by kernel_rfl) (by kernel_rfl) ?_
  repeat (go_big_quiet_step ((first | (go_at_call 11; exact Later.call _ (right_any b k hb0 _)) | (go_at_call 12; exact Later.call _ (refRight_any b k hb0 _)) | (go_at_call 13; exact Later.same _ (size_any k _)) | (go_at_call 14; exact Later.same _ (refSize_any k _)) | (go_at_call 15; exact Later.same _ (limit_any k _)) | (go_at_call 16; exact Later.same _ (refLimit_any k _)) | (go_at_call 17; exact Later.same _ (stripe_any c hc0 hc1 _)) | (go_at_call 18; exact Later.same _ (refStripe_any c hc0 hc1 _)) | (go_at_call 19; exact Later.same _ (groupCell_any k n0 _)) | (go_at_call 20; exact Later.same _ (refGroupCell_any k n0 _)) | (go_at_call 21; exact Later.same _ (slotCell_any k n0 n1 _)) | (go_at_call 22; exact Later.same _ (refSlotCell_any k n0 n1 _)) | (go_at_call 23; exact Later.call _ (awake15 _)))))
  refine wpQuiet_nil ?_
  intro x
  have hbX := x.h
  go_wp2
  go_returns
  exact Ret.mk' rfl (bel_after hbW hbX)
end Go.Proofs.YtcmebpihaaibaaaRRRR
