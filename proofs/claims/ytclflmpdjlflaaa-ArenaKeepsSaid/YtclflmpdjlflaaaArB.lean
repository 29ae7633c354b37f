import Derived.Test.YtclflmpdjlflaaaArA
set_option linter.unusedVariables false
set_option linter.unusedSimpArgs false
namespace Go.Proofs.Ytclflmpdjlflaaa
open Go.RowKit Go.Maps

theorem new_no (c : Int) (h : c < 1 ∨ 65536 < c) (w : World) : Calls Try.prog 10 #[.int .i64 c] w fun e w' => e = .returned (.pointer none) ∧ w = w' := by
  rcases h with h | h
  · go_enter Try.func10, Try.ntmps10
    go_wp2
    go_ret
    exact ⟨rfl, rfl⟩
  · have h1 : ¬ c < 1 := by omega
    go_enter Try.func10, Try.ntmps10
    go_wp2
    go_ret
    exact ⟨rfl, rfl⟩

def NewA (c : Int) (w : World) (e : Ending) (w' : World) : Prop :=
  ∃ A S, e = .returned (.pointer (some ⟨A, 0, none⟩)) ∧ Below w.heap.size w w' ∧ AI w' A S (AR.start c) ∧ ∀ x, S x → w.heap.size ≤ x
theorem new_yes (c : Int) (h : 1 ≤ c ∧ c ≤ 65536) (w : World) : Calls Try.prog 10 #[.int .i64 c] w (NewA c w) := by
  have hmm := @run_makeMap Try.prog
  have h1 : ¬ c < 1 := by omega
  have h2 : ¬ c > 65536 := by omega
  go_enter Try.func10, Try.ntmps10
  go_wp2
  go_returns
  refine ⟨w.heap.size + 1, fun x => x = w.heap.size ∨ x = w.heap.size + 1, rfl, by (repeat' (first | (with_reducible exact Below.refl _ _) | (with_reducible assumption) | (with_reducible refine Below.alloc ?_ ?_ _) | (with_reducible refine Below.drew ?_) | (with_reducible refine bel_drewN ?_ _) | (with_reducible refine Below.setCell ?_ ?_ _) | (with_reducible refine bel_after ?_ (by assumption)) | (exact Below.size (by assumption)) | omega | (simp only [World.size_alloc, World.size_setCell, World.size_drew, size_drewN] at *; omega))), ⟨w.heap.size, fun _ => 0, 0, .map [], ?_⟩, by omega⟩
  have hm := (World.ownsMap_made w Try.prog 24 rowR).alloc (.cells #[.int .i64 c, .int .i64 0, .int .i64 0, .int .u64 0, .map (some w.heap.size)] 47)
  refine ⟨?_, hm, by simp [AR.start], ?_, ?_, ?_, ?_, ?_, by omega, .inr rfl, .inl rfl, ?_⟩
  · simp [Cs, go_sem, AR.start, totB]
  · intro b _; rfl
  · intro b _; rfl
  · intro b ws hb; simp [AR.start, getB] at hb
  · intro b ws hb; simp [AR.start, getB] at hb
  · intro b c ws us hb; simp [AR.start, getB] at hb
  · intro x hx; simp; omega

theorem none_nil (w : World) : Calls Try.prog 36 #[.pointer none] w fun e w' => e = .returned (.bool true) ∧ w = w' := by
  go_enter Try.func36, Try.ntmps36
  go_wp2
  go_ret
  exact ⟨rfl, rfl⟩
theorem none_no (A B : Nat) (w : World) (h : w.cell? ⟨A, 4, none⟩ = some (.map (some B))) : Calls Try.prog 36 #[.pointer (some ⟨A, 0, none⟩)] w fun e w' => e = .returned (.bool false) ∧ w = w' := by
  have hq := fun w => run_eql_map_nil (P := Try.prog) w 45 24 28 (some B) Try.underlying45
  go_enter Try.func36, Try.ntmps36
  go_wp2
  go_ret
  exact ⟨rfl, rfl⟩

/-- The pointer to a cell, or what is wrong with it. -/
def CellPost (A : Nat) (S : Nat → Prop) (st : AR) (b i : Int) (w : World) (e : Ending) (w' : World) : Prop :=
  if st.fault b i = 0 then ∃ g, e = .returned (.tuple #[.pointer (some ⟨g, i.toNat, none⟩), .int .i64 0]) ∧ w = w' ∧ S g ∧ w.cell? ⟨g, i.toNat, none⟩ = some (.int .u64 (st.word b i)) ∧ w.frozen? ⟨g, i.toNat, none⟩ = false ∧
    ∀ v, AI (w.setCell ⟨g, i.toNat, none⟩ (.int .u64 v)) A S (st.put b i v)
  else e = .returned (.tuple #[.pointer none, .int .i64 (st.fault b i)]) ∧ But (fun x => x = A) w w' ∧ AI w' A S st.miss

theorem CellPost.bad {A : Nat} {S : Nat → Prop} {st : AR} {b i c : Int} {w w' : World} {e : Ending} (h : st.fault b i = c) (hc : c ≠ 0) (he : e = .returned (.tuple #[.pointer none, .int .i64 c])) (hb : But (fun x => x = A) w w') (ha : AI w' A S st.miss) : CellPost A S st b i w e w' := by
  unfold CellPost
  rw [h, if_neg hc]
  exact ⟨he, hb, ha⟩
theorem CellPost.good {A g : Nat} {S : Nat → Prop} {st : AR} {b i : Int} {w w' : World} {e : Ending} (h : st.fault b i = 0) (he : e = .returned (.tuple #[.pointer (some ⟨g, i.toNat, none⟩), .int .i64 0])) (hw : w = w')
    (hr : S g ∧ w.cell? ⟨g, i.toNat, none⟩ = some (.int .u64 (st.word b i)) ∧ w.frozen? ⟨g, i.toNat, none⟩ = false ∧ ∀ v, AI (w.setCell ⟨g, i.toNat, none⟩ (.int .u64 v)) A S (st.put b i v)) : CellPost A S st b i w e w' := by
  unfold CellPost
  rw [if_pos h]
  exact ⟨g, he, hw, hr⟩

set_option maxHeartbeats 1000000 in
set_option maxRecDepth 20000 in
theorem cell_any (A : Nat) (S : Nat → Prop) (st : AR) (K : Nat) (b i : Int) (w : World) (h : AI w A S st) (ok : st.Ok K) (hK : K < 1000000000) (hb : U64 b) (hi : -9223372036854775808 ≤ i ∧ i < 9223372036854775808) :
    Calls Try.prog 37 #[.pointer (some ⟨A, 0, none⟩), .int .u64 b, .int .i64 i] w (CellPost A S st b i w) := by
  obtain ⟨B, rows, n, D, h⟩ := h
  have HI : Hid (AIn w A B rows n D S st) := Lib.hid h
  have hcs := h.cs
  have hl := h.look hb
  have hf := ok.faults
  simp only [Cs, Nat.zero_add, Nat.reduceAdd] at hcs
  obtain ⟨c0, f0, c1, f1, c2, f2, c3, f3, c4, f4, _⟩ := hcs
  have hN := none_no A B w c4
  have miss : Hid (But (fun x => x = A) w (w.setCell ⟨A, 2, none⟩ (.int .i64 (st.faults + 1))) ∧ AI (w.setCell ⟨A, 2, none⟩ (.int .i64 (st.faults + 1))) A S st.miss) := by
    refine Lib.hid ?_
    have hb : But (fun x => x = A) w (w.setCell ⟨A, 2, none⟩ (.int .i64 (st.faults + 1))) := (But.refl (fun x => x = A) w).setCell (fun _ => rfl) _
    refine ⟨hb, B, rows, n, D, ?_, hb.map h.mp (fun q => h.ne q.symm), h.nn, h.at1, h.has1, fun c ws e => (h.row c ws e).but hb (h.sep c ws e).1, h.sep, h.one, h.ne, h.sa, h.sb, fun x hx => by simpa using h.lt x hx⟩
    simp [Cs, go_sem, c0, f0, c1, f1, c2, f2, c3, f3, c4, f4, AR.miss]
  clear c0 f0 c1 f1 c3 f3 f4 hb
  have HII : Hid (-9223372036854775808 ≤ i ∧ i < 9223372036854775808) := Lib.hid hi
  clear hi
  cases hg : getB st.L b with
  | none =>
    rw [hg] at hl
    simp only [Option.isSome_none] at hl
    have hft : st.fault b i = 13 := by simp [AR.fault, hg]
    have HFT : Hid (st.fault b i = 13) := Lib.hid hft
    clear hg hft h
    generalize st.faults = F at *
    go_enter Try.func37, Try.ntmps37
    go_wp2_with (first | (go_at_call 36; (with_reducible refine (hN).mono ?_); rintro e w' ⟨rfl, rfl⟩))
    go_ret2
    exact CellPost.bad HFT.out (by omega) rfl miss.out.1 miss.out.2
  | some ws =>
    rw [hg] at hl
    simp only [Option.isSome_some] at hl
    have hrow := h.row b ws hg
    have hsep := h.sep b ws hg
    by_cases hin : 0 ≤ i ∧ i < ws.length
    · have hft : st.fault b i = 0 := by simp [AR.fault, hg, hin]
      have hwd : st.word b i = ws[i.toNat]?.getD 0 := by simp [AR.word, hg]
      have hput := fun v => h.put hg hin v
      obtain ⟨k1, k2⟩ := hrow.2 i.toNat (by omega)
      rw [← hwd] at k1
      have HFT : Hid (st.fault b i = 0) := Lib.hid hft
      have HF : Hid (S (rows b) ∧ w.cell? ⟨rows b, i.toNat, none⟩ = some (.int .u64 (st.word b i)) ∧ w.frozen? ⟨rows b, i.toNat, none⟩ = false ∧ ∀ v, AI (w.setCell ⟨rows b, i.toNat, none⟩ (.int .u64 v)) A S (st.put b i v)) := Lib.hid ⟨hsep.2.2, k1, k2, fun v => ⟨B, rows, n, D, hput v⟩⟩
      obtain ⟨i1, i2⟩ := hin
      clear hg hft hwd hput k1 k2 hsep hrow h miss
      generalize ws.length = m at *
      obtain ⟨j, rfl⟩ := Int.eq_ofNat_of_zero_le i1
      simp only [Int.toNat_natCast] at HF
      have i3 : ¬ (m : Int) ≤ (j : Int) := by omega
      have i4 : ¬ m ≤ j := by omega
      have i5 : ¬ (j : Int) < 0 := by omega
      go_enter Try.func37, Try.ntmps37
      go_wp2_with (first | (go_at_call 36; (with_reducible refine (hN).mono ?_); rintro e w' ⟨rfl, rfl⟩))
      go_ret2
      exact CellPost.good HFT.out rfl rfl HF.out
    · have hft : st.fault b i = 14 := by simp [AR.fault, hg]; omega
      have HFT : Hid (st.fault b i = 14) := Lib.hid hft
      clear hg hft hsep hrow h
      generalize st.faults = F at *
      generalize ws.length = m at *
      by_cases i1 : i < 0
      · go_enter Try.func37, Try.ntmps37
        go_wp2_with (first | (go_at_call 36; (with_reducible refine (hN).mono ?_); rintro e w' ⟨rfl, rfl⟩))
        go_ret2
        exact CellPost.bad HFT.out (by omega) rfl miss.out.1 miss.out.2
      · have i5 : i ≥ (m : Int) := by omega
        go_enter Try.func37, Try.ntmps37
        go_wp2_with (first | (go_at_call 36; (with_reducible refine (hN).mono ?_); rintro e w' ⟨rfl, rfl⟩))
        go_ret2
        exact CellPost.bad HFT.out (by omega) rfl miss.out.1 miss.out.2
end Go.Proofs.Ytclflmpdjlflaaa
