import Derived.Test.YtcmebpihaaibaaaRRRRRouteC
import Derived.Test.YtcmebpihaaibaaaRRRRRouteP
import Derived.Deep.OwnRows
import Derived.StillTailTactics
set_option linter.unusedVariables false
set_option linter.unusedSimpArgs false
namespace Go.Proofs.YtcmebpihaaibaaaRRRR
open Go.RowKit Go.Shelf

theorem lawAll_any (h log most : Int) (h0 : 0 ≤ h) (h1 : h < 18446744073709551616) (hmost : grp log ≤ most) (w : World) :
    Calls Try.prog 7 #[.int .u64 h, .int .i64 log, .int .i64 most] w fun e W' => ∃ v, e = .returned v ∧
      W'.ownsRow w.heap.size 3 1 v (grp log).toNat ((ways (grp log) (h / 128) (grp log).toNat).map (Value.int .i64)) ∧ Below w.heap.size w W' :=
  callsIn_wide.1 (lawAll_in h log most h0 h1 hmost w)

theorem bel_drewN {B : Nat} {a w : World} (h : Below B a w) (n : Nat) : Below B a (w.drewN n) := h.trans ⟨rfl, rfl, rfl, Nat.le_refl _, fun _ _ => rfl⟩
theorem size_drewN (w : World) (n : Nat) : (w.drewN n).heap.size = w.heap.size := rfl
theorem bel_after {a w w' : World} (h : Below a.heap.size a w) (k : Below w.heap.size w w') : Below a.heap.size a w' := h.trans (k.mono h.size)
theorem Rd.new (w : World) (k : IntKind) (xs : List Int) (t : TypeId) (hl : xs.length ≤ 140737488355328) : Rd (w.alloc (.cells (xs.map (Value.int k)).toArray t)) k (.slice (some ⟨w.heap.size, 0, none⟩) xs.length xs.length) xs := by
  refine ⟨_, _, _, rfl, rfl, hl, fun _ => ⟨_, _, rfl, fun j hj => ?_⟩⟩
  rw [Nat.zero_add]
  have := World.alloc_heap_new w (.cells (xs.map (Value.int k)).toArray t)
  unfold World.cell?
  rw [this]
  simp [hj]
/-- It returns v; all that was there is as it was. -/
def Ret (v : Value) (w : World) (e : Ending) (w' : World) : Prop := e = .returned v ∧ Below w.heap.size w w'
theorem Ret.mk' {v u : Value} {w w' : World} (h : u = v) (hb : Below w.heap.size w w') : Ret v w (.returned u) w' := ⟨by rw [h], hb⟩

set_option maxHeartbeats 1000000 in
theorem group_no (w : World) : Calls Try.prog 32 #[.int .u64 0, .int .i64 1, .int .i64 2] w (Ret (.int .i64 (-1)) w) := by
  have hA : ∀ w : World, Calls Try.prog 6 #[.int .i64 1] w fun e w' => e = .returned (.int .i64 2) ∧ w' = w := fun w => (groups_any 1 w).mono fun e w' ⟨h1, h2⟩ => ⟨h1, h2.symm⟩
  go_enter Try.func32, Try.ntmps32
  go_wp2
  go_quiet ((go_at_call 6; exact Calls.quiet_of_same (hA _)))
  go_wp2
  go_returns
  exact Ret.mk' rfl (by (repeat' (first | (with_reducible exact Below.refl _ _) | (with_reducible assumption) | (with_reducible refine Below.alloc ?_ ?_ _) | (with_reducible refine Below.drew ?_) | (with_reducible refine bel_drewN ?_ _) | (with_reducible refine Below.setCell ?_ ?_ _) | (with_reducible refine bel_after ?_ (by assumption)) | (exact Below.size (by assumption)) | omega | (simp only [World.size_alloc, World.size_setCell, World.size_drew, size_drewN] at *; omega))))

set_option maxHeartbeats 1000000 in
theorem awake13 (w : World) : Calls Try.prog 8 #[] w (Ret (.bool true) w) := by
  have hA : ∀ w : World, Calls Try.prog 7 #[.int .u64 384, .int .i64 2, .int .i64 9] w fun e W' => ∃ v, e = .returned v ∧
      W'.ownsRow w.heap.size 3 1 v 4 ([3, 0, 2, 1].map (Value.int .i64)) ∧ Below w.heap.size w W' := fun w => lawAll_any 384 2 9 (by decide) (by decide) (by decide) w
  go_enter Try.func8, Try.ntmps8
  go_wp2_with (go_at_call 7; refine (hA _).mono ?_; rintro e w' ⟨v, rfl, hown, hb⟩)
  have r1 : Rd (w'.alloc (Obj.cells #[Value.int IntKind.i64 3, Value.int IntKind.i64 0, Value.int IntKind.i64 2, Value.int IntKind.i64 1] 3)) .i64 v [3, 0, 2, 1] := (Rd.of_own (xs := [3, 0, 2, 1]) hown (by decide)).below ((Below.refl _ _).alloc (Nat.le_refl _) _)
  have r2 : Rd (w'.alloc (Obj.cells #[Value.int IntKind.i64 3, Value.int IntKind.i64 0, Value.int IntKind.i64 2, Value.int IntKind.i64 1] 3)) .i64 (.slice (some { block := w'.heap.size, off := 0 }) 4 4) [3, 0, 2, 1] := Rd.new w' .i64 [3, 0, 2, 1] 3 (by decide)
  refine (ints_any _ _ _ _ _ r1 r2).mono ?_
  rintro e w2 ⟨he, n, rfl⟩
  obtain rfl : e = .returned (.bool true) := he
  clear r1 r2
  have hA : ∀ w : World, Calls Try.prog 6 #[.int .i64 9] w fun e w' => e = .returned (.int .i64 512) ∧ w = w' := fun w => by have h := groups_any 9 w; rwa [show grp 9 = 512 from by decide] at h
  have hB : ∀ w : World, Calls Try.prog 6 #[.int .i64 10] w fun e w' => e = .returned (.int .i64 0) ∧ w = w' := fun w => by have h := groups_any 10 w; rwa [show grp 10 = 0 from by decide] at h
  go_wp2_with (first | (go_at_call 6; (with_reducible refine (hA _).mono ?_); rintro e w' ⟨rfl, rfl⟩) | (go_at_call 6; (with_reducible refine (hB _).mono ?_); rintro e w' ⟨rfl, rfl⟩) | (go_at_call 32; refine (group_no _).mono ?_; rintro e w' ⟨rfl, hb1⟩))
  go_returns
  exact Ret.mk' rfl (by (repeat' (first | (with_reducible exact Below.refl _ _) | (with_reducible assumption) | (with_reducible refine Below.alloc ?_ ?_ _) | (with_reducible refine Below.drew ?_) | (with_reducible refine bel_drewN ?_ _) | (with_reducible refine Below.setCell ?_ ?_ _) | (with_reducible refine bel_after ?_ (by assumption)) | (exact Below.size (by assumption)) | omega | (simp only [World.size_alloc, World.size_setCell, World.size_drew, size_drewN] at *; omega))))

theorem ways_at (n s : Int) (N j : Nat) (h : j < N) : (ways n s N)[j]?.getD 0 = way n s j := by simp [ways, h]

set_option maxHeartbeats 2000000 in
theorem routeAll_any (h log : Int) (h0 : 0 ≤ h) (h1 : h < 18446744073709551616) (l0 : 0 ≤ log) (l1 : log < 256) (w : World) :
    Calls Try.prog 3 #[.int .u64 h, .int .u8 log] w (Ret (.bool true) w) := by
  have hk : ¬ (log % 10 < 0 ∨ 9 < log % 10) := by omega
  obtain ⟨k, hk9, hgk, hgr⟩ := grp_pow hk
  have hG : ∀ w : World, Calls Try.prog 6 #[.int .i64 (log % 10)] w fun e w' => e = .returned (.int .i64 (grp (log % 10))) ∧ w = w' := fun w => groups_any _ w
  have hA : ∀ w : World, Calls Try.prog 7 #[.int .u64 h, .int .i64 (log % 10), .int .i64 600] w fun e W' => ∃ v, e = .returned v ∧
      W'.ownsRow w.heap.size 3 1 v (grp (log % 10)).toNat ((ways (grp (log % 10)) (h / 128) (grp (log % 10)).toNat).map (Value.int .i64)) ∧ Below w.heap.size w W' := fun w => lawAll_any h _ 600 h0 h1 (by omega) w
  generalize grp (log % 10) = n at *
  obtain ⟨N, rfl⟩ := Int.eq_ofNat_of_zero_le (show 0 ≤ n by omega)
  have HK : Hid ((N : Int) = 2 ^ k) := Lib.hid hgk
  clear hgk
  simp only [Int.toNat_natCast] at hA
  have hN : 1 ≤ N ∧ N ≤ 512 := by omega
  clear hgr
  have hA' : ∀ w : World, Calls Try.prog 7 #[.int .u64 h, .int .i64 (log % 10), .int .i64 600] w fun e W' => ∃ g cap, e = .returned (.slice (some ⟨g, 0, none⟩) N cap) ∧
      (∀ j, j < N → W'.cell? ⟨g, j, none⟩ = some (.int .i64 (way N (h / 128) j))) ∧ Below w.heap.size w W' := fun w => (hA w).mono fun e W' ⟨v, he, hown, hb⟩ => by
    obtain ⟨g, cap, rfl, _⟩ := hown.form (by omega)
    refine ⟨g, cap, he, fun j hj => ?_, hb⟩
    have := hown.cells (g := g) rfl j (.int .i64 (way N (h / 128) j)) (by simp [ways, hj])
    simpa [Addr.add_lit] using this
  have hmk : ∀ w : World, (Instr.makeSlice 26 (.int .i64 (N : Int)) (.int .i64 (N : Int))).run Try.prog w = .ok (.slice (some ⟨w.heap.size, 0, none⟩) N N) (w.alloc (.cells (madeCells #[.bool false] N) 4)) :=
    fun w => run_make_row' 26 4 (.bool false) 1 Try.underlying26 (by kernel_rfl) rfl .i64 .i64 N (by omega) (by omega) w
  have hn1 : ((N : Int) != (N : Int)) = false := by simp
  clear hA
  go_enter Try.func3, Try.ntmps3
  go_wp2_with (first | (go_at_call 6; (with_reducible refine (hG _).mono ?_); rintro e w' ⟨rfl, rfl⟩) | (go_at_call 7; (with_reducible refine (hA' _).mono ?_); rintro e w1 ⟨g, cap, rfl, hc, hb⟩))
  have hrow := World.rowIs_made w1 (.bool false) N 4
  have HC : Hid (∀ j, j < N → (w1.alloc (.cells (madeCells #[.bool false] N) 4)).cell? ⟨g, j, none⟩ = some (.int .i64 (way N (h / 128) j))) := Lib.hid fun j hj => (((Below.refl w1.heap.size w1).alloc (Nat.le_refl _) _).cell (p := ⟨g, j, none⟩) (World.block_lt_of_cell? w1 _ (hc j hj))).trans (hc j hj)
  have hgs : g < w1.heap.size := World.block_lt_of_cell? w1 _ (hc 0 (by omega))
  have hB : Below w.heap.size w (w1.alloc (.cells (madeCells #[.bool false] N) 4)) := by (repeat' (first | (with_reducible exact Below.refl _ _) | (with_reducible assumption) | (with_reducible refine Below.alloc ?_ ?_ _) | (with_reducible refine Below.drew ?_) | (with_reducible refine bel_drewN ?_ _) | (with_reducible refine Below.setCell ?_ ?_ _) | (with_reducible refine bel_after ?_ (by assumption)) | (exact Below.size (by assumption)) | omega | (simp only [World.size_alloc, World.size_setCell, World.size_drew, size_drewN] at *; omega)))
  have hw1 := hb.size
  clear hc hmk hA' hG hn1
  generalize w1.alloc (.cells (madeCells #[.bool false] N) 4) = w2 at *
  generalize w1.heap.size = gs at *
  go_loopw [9] (fun i wr => ∃ j : Nat, j ≤ N ∧ i = .int .i64 j ∧ wr.rowIs gs 4 N (fun x => .bool (decide ((x : Int) ∈ ways N (h / 128) j))) ∧
      (∀ j, j < N → wr.cell? ⟨g, j, none⟩ = some (.int .i64 (way N (h / 128) j))) ∧ Below w.heap.size w wr) (fun i _ => N - (intOf i).toNat)
  case atStart => exact ⟨0, by omega, rfl, hrow.congr (fun i _ => by simp [ways]), HC.out, hB⟩
  case round =>
    obtain ⟨j, hj, rfl, hr, hc, hbr⟩ := hrel
    by_cases hlt : j < N
    · have hcj := hc j hlt
      have hx := way_range N (h / 128) j (by omega)
      have hnew : way N (h / 128) j ∉ ways N (h / 128) j := by
        intro hm
        simp only [ways, List.mem_map, List.mem_range] at hm
        obtain ⟨i, hi, he⟩ := hm
        exact way_ne hk9 HK.out (h / 128) hi (by omega) he
      obtain ⟨X, hX⟩ := Int.eq_ofNat_of_zero_le hx.1
      have hXN : X < N := by omega
      have hs1 := hr.cell hXN
      rw [← hX] at hs1
      rw [decide_eq_false hnew] at hs1
      rw [hX] at hcj
      have hf1 := hr.frozen X
      have HR : Hid (wr.rowIs gs 4 N (fun x => .bool (decide ((x : Int) ∈ ways N (h / 128) j)))) := Lib.hid hr
      have HCC : Hid (∀ j, j < N → wr.cell? ⟨g, j, none⟩ = some (.int .i64 (way N (h / 128) j))) := Lib.hid hc
      have HX : Hid (way N (h / 128) j = X) := Lib.hid hX
      clear hr hc hX hnew hx
      go_wp2
      go_roundw
      case rel =>
        refine ⟨j + 1, by omega, by simp, (HR.out.set X (.bool true)).congr (fun i _ => ?_), fun i hi => ?_, ?_⟩
        · rw [ways_succ, HX.out]
          by_cases e : i = X
          · simp [e]
          · have e' : ¬ ((i : Int) = (X : Int)) := by omega
            simp [e, e']
        · have := HCC.out i hi
          exact (World.cell?_of_block (Below.heap_setCell _ _ _ _ (by show g ≠ gs; omega))).trans this
        · exact hbr.setCell (by show w.heap.size ≤ gs; omega) _
      case measure => simp [intOf]; omega
    · have hjn : j = N := by omega
      subst hjn
      have c0 := hc 0 (by omega)
      clear hc
      have c0' : wr.cell? ⟨g, 0, none⟩ = some (.int .i64 (h / 128 % (j : Int))) := c0
      have q0 := Int.emod_nonneg (h / 128) (show (j : Int) ≠ 0 by omega)
      have q1 := Int.emod_lt_of_pos (h / 128) (show 0 < (j : Int) by omega)
      clear c0
      generalize hq : h / 128 % (j : Int) = q at c0' q0 q1
      have hjI : (0 : Int) < (j : Int) := by omega
      have hjN : 0 < j := by omega
      have hj0 : ((j : Int) = 0) = False := by simp; omega
      have hjn0 : (j = 0) = False := by simp; omega
      have hu1 : IntKind.u64.wrap (j : Int) = j := by rw [IntKind.wrap_u64]; omega
      have hu2 : IntKind.u64.wrap (h.tdiv 128) = h / 128 := by rw [IntKind.wrap_u64, Int.tdiv_eq_ediv_of_nonneg h0]; omega
      have hu3 : (h / 128).tmod (j : Int) = q := by rw [Int.tmod_eq_emod_of_nonneg (by omega)]; exact hq
      have hu4 : IntKind.u64.wrap q = q := by rw [IntKind.wrap_u64]; omega
      clear hq
      have c1 : (wr.drew).cell? ⟨g, 0, none⟩ = some (.int .i64 q) := c0'
      go_wp2
      go_still_tail 11, (by kernel_rfl)
      change wpList _ _ _ _ _ wr.drew
      go_wp2_with (go_at_call 8; (with_reducible refine (awake13 _).mono ?_); rintro e w3 ⟨rfl, hb3⟩)
      go_returns
      exact Ret.mk' rfl (by (repeat' (first | (with_reducible exact Below.refl _ _) | (with_reducible assumption) | (with_reducible refine Below.alloc ?_ ?_ _) | (with_reducible refine Below.drew ?_) | (with_reducible refine bel_drewN ?_ _) | (with_reducible refine Below.setCell ?_ ?_ _) | (with_reducible refine bel_after ?_ (by assumption)) | (exact Below.size (by assumption)) | omega | (simp only [World.size_alloc, World.size_setCell, World.size_drew, size_drewN] at *; omega))))
end Go.Proofs.YtcmebpihaaibaaaRRRR
