import Derived.Test.YtclflmpdjlflaaaArB
set_option linter.unusedVariables false
set_option linter.unusedSimpArgs false
namespace Go.Proofs.Ytclflmpdjlflaaa
open Go.RowKit Go.Maps

theorem CellPost.of_good {A : Nat} {S : Nat → Prop} {st : AR} {b i : Int} {w w' : World} {e : Ending} (h : CellPost A S st b i w e w') (hf : st.fault b i = 0) :
    ∃ g, e = .returned (.tuple #[.pointer (some ⟨g, i.toNat, none⟩), .int .i64 0]) ∧ w = w' ∧ S g ∧ w.cell? ⟨g, i.toNat, none⟩ = some (.int .u64 (st.word b i)) ∧ w.frozen? ⟨g, i.toNat, none⟩ = false ∧
      ∀ v, AI (w.setCell ⟨g, i.toNat, none⟩ (.int .u64 v)) A S (st.put b i v) := by
  unfold CellPost at h
  rw [if_pos hf] at h
  exact h
theorem CellPost.of_bad {A : Nat} {S : Nat → Prop} {st : AR} {b i : Int} {w w' : World} {e : Ending} (h : CellPost A S st b i w e w') (hf : st.fault b i ≠ 0) :
    e = .returned (.tuple #[.pointer none, .int .i64 (st.fault b i)]) ∧ But (fun x => x = A) w w' ∧ AI w' A S st.miss := by
  unfold CellPost at h
  rw [if_neg hf] at h
  exact h
theorem ArPost.same {A : Nat} {S : Nat → Prop} {st : AR} {v : Value} {w w' : World} {e : Ending} (he : e = .returned v) (hb : But S w w') (h : AI w' A S st) : ArPost A S st v w e w' :=
  ⟨he, hb, S, h, fun _ q => q, fun _ q => .inl q⟩

section
variable {A : Nat} {S : Nat → Prop} {st : AR} {K : Nat} {b i : Int} {w : World}

set_option maxRecDepth 20000 in
theorem load_any (h : AI w A S st) (ok : st.Ok K) (hK : K < 1000000000) (hb : U64 b) (hi : -9223372036854775808 ≤ i ∧ i < 9223372036854775808) :
    Calls Try.prog 13 #[.pointer (some ⟨A, 0, none⟩), .int .u64 b, .int .i64 i] w (ArPost A S (st.load b i).2 (.tuple #[.int .u64 (st.load b i).1.1, .int .i64 (st.load b i).1.2]) w) := by
  have hC := cell_any A S st K b i w h ok hK hb hi
  have HS : Hid (AI w A S st) := Lib.hid h
  clear ok hb hi h
  by_cases hf : st.fault b i = 0
  · have e : st.load b i = ((st.word b i, 0), st) := by unfold AR.load; rw [if_pos hf]
    rw [e]
    have HF : Hid (st.fault b i = 0) := Lib.hid hf
    clear hf e
    go_enter Try.func13, Try.ntmps13
    go_wp2_with fail
    (with_reducible refine hC.mono ?_)
    rintro e w' hp
    obtain ⟨g, rfl, rfl, hS, hc, hfz, hput⟩ := hp.of_good HF.out
    clear hput hC hp
    go_wp2
    go_ret2
    exact ArPost.same rfl (But.refl _ _) HS.out
  · have e : st.load b i = ((0, st.fault b i), st.miss) := by unfold AR.load; rw [if_neg hf]
    rw [e]
    have HF : Hid (st.fault b i ≠ 0) := Lib.hid hf
    have hft : st.fault b i = 13 ∨ st.fault b i = 14 := by
      unfold AR.fault at hf ⊢
      split at hf
      · exact .inl rfl
      · split at hf
        · exact absurd rfl hf
        · rename_i hq
          rw [if_neg hq]
          exact .inr rfl
    have hC' : Calls Try.prog 37 #[.pointer (some ⟨A, 0, none⟩), .int .u64 b, .int .i64 i] w (fun e w' => e = .returned (.tuple #[.pointer none, .int .i64 (st.fault b i)]) ∧ But (fun x => x = A) w w' ∧ AI w' A S st.miss) := hC.mono fun e w' hp => hp.of_bad HF.out
    have HFT : Hid (st.fault b i = 13 ∨ st.fault b i = 14) := Lib.hid hft
    clear hC hft hf
    generalize st.fault b i = c at *
    have hc0 : ¬ c = 0 := HF.out
    clear e
    go_enter Try.func13, Try.ntmps13
    go_wp2_with fail
    (with_reducible refine hC'.mono ?_)
    rintro e w' ⟨rfl, hb1, ha1⟩
    have HB1 : Hid (But (fun x => x = A) w w') := Lib.hid hb1
    have HA1 : Hid (AI w' A S st.miss) := Lib.hid ha1
    clear hb1 ha1 hC'
    go_wp2
    go_ret2
    exact ArPost.same rfl (HB1.out.mono (fun _ _ q => by rw [q]; exact HS.out.self)) HA1.out

set_option maxRecDepth 20000 in
theorem store_any (v : Int) (h : AI w A S st) (ok : st.Ok K) (hK : K < 1000000000) (hb : U64 b) (hi : -9223372036854775808 ≤ i ∧ i < 9223372036854775808) :
    Calls Try.prog 12 #[.pointer (some ⟨A, 0, none⟩), .int .u64 b, .int .i64 i, .int .u64 v] w (ArPost A S (st.store b i v).2 (.int .i64 (st.store b i v).1) w) := by
  have hC := cell_any A S st K b i w h ok hK hb hi
  have HS : Hid (AI w A S st) := Lib.hid h
  clear ok hb hi h
  by_cases hf : st.fault b i = 0
  · have e : st.store b i v = (0, st.put b i v) := by unfold AR.store; rw [if_pos hf]
    rw [e]
    have HF : Hid (st.fault b i = 0) := Lib.hid hf
    clear hf e
    go_enter Try.func12, Try.ntmps12
    go_wp2_with fail
    (with_reducible refine hC.mono ?_)
    rintro e w' hp
    obtain ⟨g, rfl, rfl, hS, hc, hfz, hput⟩ := hp.of_good HF.out
    have HP : Hid (AI (w.setCell ⟨g, i.toNat, none⟩ (.int .u64 v)) A S (st.put b i v)) := Lib.hid (hput v)
    have HG : Hid (S g) := Lib.hid hS
    clear hput hC hp hS
    go_wp2
    go_ret
    exact ArPost.same rfl ((But.refl _ _).setCell (fun _ => HG.out) _) HP.out
  · have e : st.store b i v = (st.fault b i, st.miss) := by unfold AR.store; rw [if_neg hf]
    rw [e]
    have HF : Hid (st.fault b i ≠ 0) := Lib.hid hf
    have hft : st.fault b i = 13 ∨ st.fault b i = 14 := by
      unfold AR.fault at hf ⊢
      split at hf
      · exact .inl rfl
      · split at hf
        · exact absurd rfl hf
        · rename_i hq
          rw [if_neg hq]
          exact .inr rfl
    have hC' : Calls Try.prog 37 #[.pointer (some ⟨A, 0, none⟩), .int .u64 b, .int .i64 i] w (fun e w' => e = .returned (.tuple #[.pointer none, .int .i64 (st.fault b i)]) ∧ But (fun x => x = A) w w' ∧ AI w' A S st.miss) := hC.mono fun e w' hp => hp.of_bad HF.out
    have HFT : Hid (st.fault b i = 13 ∨ st.fault b i = 14) := Lib.hid hft
    clear hC hft hf
    generalize st.fault b i = c at *
    have hc0 : ¬ c = 0 := HF.out
    clear e
    go_enter Try.func12, Try.ntmps12
    go_wp2_with fail
    (with_reducible refine hC'.mono ?_)
    rintro e w' ⟨rfl, hb1, ha1⟩
    have HB1 : Hid (But (fun x => x = A) w w') := Lib.hid hb1
    have HA1 : Hid (AI w' A S st.miss) := Lib.hid ha1
    clear hb1 ha1 hC'
    go_wp2
    go_ret
    exact ArPost.same rfl (HB1.out.mono (fun _ _ q => by rw [q]; exact HS.out.self)) HA1.out

set_option maxRecDepth 20000 in
theorem cas_any (old v : Int) (h : AI w A S st) (ok : st.Ok K) (hK : K < 1000000000) (hb : U64 b) (hi : -9223372036854775808 ≤ i ∧ i < 9223372036854775808) :
    Calls Try.prog 34 #[.pointer (some ⟨A, 0, none⟩), .int .u64 b, .int .i64 i, .int .u64 old, .int .u64 v] w (ArPost A S (st.cas b i old v).2 (.tuple #[.int .u64 (st.cas b i old v).1.1, .int .i64 (st.cas b i old v).1.2]) w) := by
  have hC := cell_any A S st K b i w h ok hK hb hi
  have HS : Hid (AI w A S st) := Lib.hid h
  clear ok hb hi h
  by_cases hf : st.fault b i = 0
  · by_cases ho : st.word b i = old
    · have e : st.cas b i old v = ((st.word b i, 0), st.put b i v) := by unfold AR.cas; rw [if_pos hf, if_pos ho]
      rw [e]
      have HF : Hid (st.fault b i = 0) := Lib.hid hf
      have HO : Hid (st.word b i = old) := Lib.hid ho
      clear hf e ho
      go_enter Try.func34, Try.ntmps34
      go_wp2_with fail
      (with_reducible refine hC.mono ?_)
      rintro e w' hp
      obtain ⟨g, rfl, rfl, hS, hc, hfz, hput⟩ := hp.of_good HF.out
      have HP : Hid (AI (w.setCell ⟨g, i.toNat, none⟩ (.int .u64 v)) A S (st.put b i v)) := Lib.hid (hput v)
      have HG : Hid (S g) := Lib.hid hS
      clear hput hC hp hS
      rw [HO.out] at hc ⊢
      go_wp2
      go_ret2
      exact ArPost.same (by rw [HO.out]; rfl) ((But.refl _ _).setCell (fun _ => HG.out) _) HP.out
    · have e : st.cas b i old v = ((st.word b i, 0), st) := by unfold AR.cas; rw [if_pos hf, if_neg ho]
      rw [e]
      have HF : Hid (st.fault b i = 0) := Lib.hid hf
      clear hf e
      go_enter Try.func34, Try.ntmps34
      go_wp2_with fail
      (with_reducible refine hC.mono ?_)
      rintro e w' hp
      obtain ⟨g, rfl, rfl, hS, hc, hfz, hput⟩ := hp.of_good HF.out
      clear hput hC hp hS
      go_wp2
      go_ret2
      exact ArPost.same rfl (But.refl _ _) HS.out
  · have e : st.cas b i old v = ((0, st.fault b i), st.miss) := by unfold AR.cas; rw [if_neg hf]
    rw [e]
    have HF : Hid (st.fault b i ≠ 0) := Lib.hid hf
    have hft : st.fault b i = 13 ∨ st.fault b i = 14 := by
      unfold AR.fault at hf ⊢
      split at hf
      · exact .inl rfl
      · split at hf
        · exact absurd rfl hf
        · rename_i hq
          rw [if_neg hq]
          exact .inr rfl
    have hC' : Calls Try.prog 37 #[.pointer (some ⟨A, 0, none⟩), .int .u64 b, .int .i64 i] w (fun e w' => e = .returned (.tuple #[.pointer none, .int .i64 (st.fault b i)]) ∧ But (fun x => x = A) w w' ∧ AI w' A S st.miss) := hC.mono fun e w' hp => hp.of_bad HF.out
    have HFT : Hid (st.fault b i = 13 ∨ st.fault b i = 14) := Lib.hid hft
    clear hC hft hf
    generalize st.fault b i = c at *
    have hc0 : ¬ c = 0 := HF.out
    clear e
    go_enter Try.func34, Try.ntmps34
    go_wp2_with fail
    (with_reducible refine hC'.mono ?_)
    rintro e w' ⟨rfl, hb1, ha1⟩
    have HB1 : Hid (But (fun x => x = A) w w') := Lib.hid hb1
    have HA1 : Hid (AI w' A S st.miss) := Lib.hid ha1
    clear hb1 ha1 hC'
    go_wp2
    go_ret2
    exact ArPost.same rfl (HB1.out.mono (fun _ _ q => by rw [q]; exact HS.out.self)) HA1.out

set_option maxRecDepth 20000 in
theorem add_any (d : Int) (h : AI w A S st) (ok : st.Ok K) (hK : K < 1000000000) (hb : U64 b) (hi : -9223372036854775808 ≤ i ∧ i < 9223372036854775808) (hd : U64 d) :
    Calls Try.prog 35 #[.pointer (some ⟨A, 0, none⟩), .int .u64 b, .int .i64 i, .int .u64 d] w (ArPost A S (st.add b i d).2 (.tuple #[.int .u64 (st.add b i d).1.1, .int .i64 (st.add b i d).1.2]) w) := by
  have hC := cell_any A S st K b i w h ok hK hb hi
  have HS : Hid (AI w A S st) := Lib.hid h
  have hwd := ok.word b i
  clear ok hb hi h
  by_cases hf : st.fault b i = 0
  · have e : st.add b i d = ((st.word b i, 0), st.put b i ((st.word b i + d) % 18446744073709551616)) := by unfold AR.add; rw [if_pos hf]
    rw [e]
    have HF : Hid (st.fault b i = 0) := Lib.hid hf
    have HW : Hid (IntKind.u64.wrap (st.word b i + d) = (st.word b i + d) % 18446744073709551616) := Lib.hid (by simp [IntKind.wrap, IntKind.signed, IntKind.bits])
    clear hf e hwd hd
    generalize hz : (st.word b i + d) % 18446744073709551616 = z
    have HZ : Hid ((st.word b i + d) % 18446744073709551616 = z) := Lib.hid hz
    clear hz
    go_enter Try.func35, Try.ntmps35
    go_wp2_with fail
    (with_reducible refine hC.mono ?_)
    rintro e w' hp
    obtain ⟨g, rfl, rfl, hS, hc, hfz, hput⟩ := hp.of_good HF.out
    have HP : Hid (AI (w.setCell ⟨g, i.toNat, none⟩ (.int .u64 z)) A S (st.put b i z)) := Lib.hid (hput z)
    have HG : Hid (S g) := Lib.hid hS
    have hw : IntKind.u64.wrap (st.word b i + d) = z := HW.out.trans HZ.out
    clear hput hC hp hS
    generalize st.word b i = y at *
    go_wp2
    go_ret2
    exact ArPost.same rfl ((But.refl _ _).setCell (fun _ => HG.out) _) HP.out
  · have e : st.add b i d = ((0, st.fault b i), st.miss) := by unfold AR.add; rw [if_neg hf]
    rw [e]
    have HF : Hid (st.fault b i ≠ 0) := Lib.hid hf
    clear hwd hd
    have hft : st.fault b i = 13 ∨ st.fault b i = 14 := by
      unfold AR.fault at hf ⊢
      split at hf
      · exact .inl rfl
      · split at hf
        · exact absurd rfl hf
        · rename_i hq
          rw [if_neg hq]
          exact .inr rfl
    have hC' : Calls Try.prog 37 #[.pointer (some ⟨A, 0, none⟩), .int .u64 b, .int .i64 i] w (fun e w' => e = .returned (.tuple #[.pointer none, .int .i64 (st.fault b i)]) ∧ But (fun x => x = A) w w' ∧ AI w' A S st.miss) := hC.mono fun e w' hp => hp.of_bad HF.out
    have HFT : Hid (st.fault b i = 13 ∨ st.fault b i = 14) := Lib.hid hft
    clear hC hft hf
    generalize st.fault b i = c at *
    have hc0 : ¬ c = 0 := HF.out
    clear e
    go_enter Try.func35, Try.ntmps35
    go_wp2_with fail
    (with_reducible refine hC'.mono ?_)
    rintro e w' ⟨rfl, hb1, ha1⟩
    have HB1 : Hid (But (fun x => x = A) w w') := Lib.hid hb1
    have HA1 : Hid (AI w' A S st.miss) := Lib.hid ha1
    clear hb1 ha1 hC'
    go_wp2
    go_ret2
    exact ArPost.same rfl (HB1.out.mono (fun _ _ q => by rw [q]; exact HS.out.self)) HA1.out
end
end Go.Proofs.Ytclflmpdjlflaaa
