import Derived.Test.YtclflmpdjlflaaaArF
set_option linter.unusedVariables false
set_option linter.unusedSimpArgs false
namespace Go.Proofs.Ytclflmpdjlflaaa
open Go.RowKit Go.Maps

set_option maxRecDepth 20000 in
set_option maxHeartbeats 2000000 in
theorem awake08 (w : World) : Calls Try.prog 9 #[] w (Ret (.bool true) w) := by
  have hN := ac_new (w0 := w) (w := w) (X := fun _ => False) 5 (by omega) (Below.refl _ _) (fun _ q => q.elim)
  go_enter Try.func9, Try.ntmps9
  go_wp2_with fail
  (with_reducible refine hN.mono ?_)
  rintro e w0' ⟨A, rfl, hb0, h0⟩
  have H0 : Hid (AC w w0' A (AR.start 5) 0 (fun _ => False)) := Lib.hid h0
  clear hb0 h0 hN
  have C0 : Calls Try.prog 11 #[.pointer (some ⟨A, 0, none⟩), .int .i64 3] w0' (AcPost w A (⟨5, 0, 1, [(1, [0, 0, 0])]⟩ : AR) 1 (fun _ => False) (.int .u64 1) w0') := ac_alloc H0.out (by omega) 3
  go_wp2_with fail
  (with_reducible refine C0.mono ?_)
  rintro e W1 ⟨rfl, h1, _⟩
  have H1 : Hid (AC w W1 A (⟨5, 0, 1, [(1, [0, 0, 0])]⟩ : AR) 1 (fun _ => False)) := Lib.hid h1
  clear h1 C0
  have C1 : Calls Try.prog 11 #[.pointer (some ⟨A, 0, none⟩), .int .i64 3] W1 (AcPost w A (⟨5, 0, 1, [(1, [0, 0, 0])]⟩ : AR) 2 (fun _ => False) (.int .u64 0) W1) := ac_alloc H1.out (by omega) 3
  go_wp2_with fail
  (with_reducible refine C1.mono ?_)
  rintro e W2 ⟨rfl, h2, _⟩
  have H2 : Hid (AC w W2 A (⟨5, 0, 1, [(1, [0, 0, 0])]⟩ : AR) 2 (fun _ => False)) := Lib.hid h2
  clear h2 C1
  have C2 : Calls Try.prog 14 #[.pointer (some ⟨A, 0, none⟩), .int .u64 1] W2 (AcPost w A (⟨5, 0, 1, []⟩ : AR) 3 (fun _ => False) (.int .i64 0) W2) := ac_free H2.out (by omega) (b := 1) (by unfold U64; omega)
  go_wp2_with fail
  (with_reducible refine C2.mono ?_)
  rintro e W3 ⟨rfl, h3, _⟩
  have H3 : Hid (AC w W3 A (⟨5, 0, 1, []⟩ : AR) 3 (fun _ => False)) := Lib.hid h3
  clear h3 C2
  have C3 : Calls Try.prog 11 #[.pointer (some ⟨A, 0, none⟩), .int .i64 3] W3 (AcPost w A (⟨5, 0, 2, [(2, [0, 0, 0])]⟩ : AR) 4 (fun _ => False) (.int .u64 2) W3) := ac_alloc H3.out (by omega) 3
  go_wp2_with fail
  (with_reducible refine C3.mono ?_)
  rintro e W4 ⟨rfl, h4, _⟩
  have H4 : Hid (AC w W4 A (⟨5, 0, 2, [(2, [0, 0, 0])]⟩ : AR) 4 (fun _ => False)) := Lib.hid h4
  clear h4 C3
  have C4 : Calls Try.prog 13 #[.pointer (some ⟨A, 0, none⟩), .int .u64 1, .int .i64 0] W4 (AcPost w A (⟨5, 1, 2, [(2, [0, 0, 0])]⟩ : AR) 5 (fun _ => False) (.tuple #[.int .u64 0, .int .i64 13]) W4) := ac_load H4.out (by omega) (b := 1) (i := 0) (by unfold U64; omega) (by omega)
  go_wp2_with fail
  (with_reducible refine C4.mono ?_)
  rintro e W5 ⟨rfl, h5, _⟩
  have H5 : Hid (AC w W5 A (⟨5, 1, 2, [(2, [0, 0, 0])]⟩ : AR) 5 (fun _ => False)) := Lib.hid h5
  clear h5 C4
  have C5 : Calls Try.prog 13 #[.pointer (some ⟨A, 0, none⟩), .int .u64 2, .int .i64 3] W5 (AcPost w A (⟨5, 2, 2, [(2, [0, 0, 0])]⟩ : AR) 6 (fun _ => False) (.tuple #[.int .u64 0, .int .i64 14]) W5) := ac_load H5.out (by omega) (b := 2) (i := 3) (by unfold U64; omega) (by omega)
  go_wp2_with fail
  (with_reducible refine C5.mono ?_)
  rintro e W6 ⟨rfl, h6, _⟩
  have H6 : Hid (AC w W6 A (⟨5, 2, 2, [(2, [0, 0, 0])]⟩ : AR) 6 (fun _ => False)) := Lib.hid h6
  clear h6 C5
  have C6 : Calls Try.prog 12 #[.pointer (some ⟨A, 0, none⟩), .int .u64 2, .int .i64 0, .int .u64 7] W6 (AcPost w A (⟨5, 2, 2, [(2, [7, 0, 0])]⟩ : AR) 7 (fun _ => False) (.int .i64 0) W6) := ac_store H6.out (by omega) (b := 2) (i := 0) (v := 7) (by unfold U64; omega) (by omega) (by unfold U64; omega)
  go_wp2_with fail
  (with_reducible refine C6.mono ?_)
  rintro e W7 ⟨rfl, h7, _⟩
  have H7 : Hid (AC w W7 A (⟨5, 2, 2, [(2, [7, 0, 0])]⟩ : AR) 7 (fun _ => False)) := Lib.hid h7
  clear h7 C6
  have C7 : Calls Try.prog 34 #[.pointer (some ⟨A, 0, none⟩), .int .u64 2, .int .i64 0, .int .u64 7, .int .u64 8] W7 (AcPost w A (⟨5, 2, 2, [(2, [8, 0, 0])]⟩ : AR) 8 (fun _ => False) (.tuple #[.int .u64 7, .int .i64 0]) W7) := ac_cas H7.out (by omega) (b := 2) (i := 0) (v := 8) 7 (by unfold U64; omega) (by omega) (by unfold U64; omega)
  go_wp2_with fail
  (with_reducible refine C7.mono ?_)
  rintro e W8 ⟨rfl, h8, _⟩
  have H8 : Hid (AC w W8 A (⟨5, 2, 2, [(2, [8, 0, 0])]⟩ : AR) 8 (fun _ => False)) := Lib.hid h8
  clear h8 C7
  have C8 : Calls Try.prog 35 #[.pointer (some ⟨A, 0, none⟩), .int .u64 2, .int .i64 0, .int .u64 2] W8 (AcPost w A (⟨5, 2, 2, [(2, [10, 0, 0])]⟩ : AR) 9 (fun _ => False) (.tuple #[.int .u64 8, .int .i64 0]) W8) := ac_add H8.out (by omega) (b := 2) (i := 0) (d := 2) (by unfold U64; omega) (by omega) (by unfold U64; omega)
  go_wp2_with fail
  (with_reducible refine C8.mono ?_)
  rintro e W9 ⟨rfl, h9, _⟩
  have H9 : Hid (AC w W9 A (⟨5, 2, 2, [(2, [10, 0, 0])]⟩ : AR) 9 (fun _ => False)) := Lib.hid h9
  clear h9 C8
  have CU : Calls Try.prog 15 #[.pointer (some ⟨A, 0, none⟩)] W9 fun e w' => e = .returned (.int .i64 3) ∧ W9 = w' := ac_used H9.out
  have CF : Calls Try.prog 19 #[.pointer (some ⟨A, 0, none⟩)] W9 fun e w' => e = .returned (.int .i64 2) ∧ W9 = w' := ac_faults H9.out
  go_wp2_with (first | (go_at_call 15; (with_reducible refine (CU).mono ?_); rintro e w' ⟨rfl, rfl⟩) | (go_at_call 19; (with_reducible refine (CF).mono ?_); rintro e w' ⟨rfl, rfl⟩))
  go_ret
  exact ⟨rfl, H9.out.below⟩
end Go.Proofs.Ytclflmpdjlflaaa
