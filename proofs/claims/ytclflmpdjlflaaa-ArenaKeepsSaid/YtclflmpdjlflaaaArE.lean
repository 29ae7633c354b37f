import Derived.Test.YtclflmpdjlflaaaArD
import Derived.BigRegion
set_option linter.unusedVariables false
set_option linter.unusedSimpArgs false
namespace Go.Proofs.Ytclflmpdjlflaaa
open Go.RowKit Go.Maps

theorem made_row (w : World) (n : Nat) (t : TypeId) : RowAt (w.alloc (.cells (madeCells #[.int .u64 0] n) t)) w.heap.size (List.replicate n 0) := by
  refine ⟨by simp, fun i hi => ?_⟩
  have hi' : i < n := by simpa using hi
  have h1 : (w.alloc (.cells (madeCells #[.int .u64 0] n) t)).heap[w.heap.size]? = some (.cells (madeCells #[.int .u64 0] n) t) := heap_alloc_new w _
  have h2 : (madeCells #[Value.int .u64 0] n)[i]? = some (.int .u64 0) := by
    simp [madeCells, hi', Nat.mod_one]
  refine ⟨?_, ?_⟩
  · unfold World.cell?
    rw [h1]
    simp [h2, hi']
  · unfold World.frozen?
    rw [h1]
    simp

theorem none_q (A B : Nat) (w : World) (h : w.cell? ⟨A, 4, none⟩ = some (.map (some B))) (q : Nat) : Calls Try.prog 36 #[.pointer (some ⟨A, 0, none⟩)] (w.drewN q) fun e w' => e = .returned (.bool false) ∧ ∃ m, w' = w.drewN m :=
  (none_no A B (w.drewN q) h).mono fun _ _ ⟨he, hw⟩ => ⟨he, q, hw.symm⟩

section
variable {A : Nat} {S : Nat → Prop} {st : AR} {K : Nat} {w : World}

theorem alloc_no {n : Int} (h : AI w A S st) (hn : n < 1 ∨ st.cells - totB st.L < n) (ok : st.Ok K) : Calls Try.prog 11 #[.pointer (some ⟨A, 0, none⟩), .int .i64 n] w (ArPost A S st (.int .u64 0) w) := by
  have HS : Hid (AI w A S st) := Lib.hid h
  obtain ⟨B, rows, m, D, h⟩ := h
  have hcs := h.cs
  have hroom := ok.room
  have hcl := ok.cells
  simp only [Cs, Nat.zero_add, Nat.reduceAdd] at hcs
  obtain ⟨c0, f0, c1, f1, c2, f2, c3, f3, c4, f4, _⟩ := hcs
  have e3 : IntKind.i64.wrap (st.cells - (totB st.L : Int)) = st.cells - (totB st.L : Int) := by simp [IntKind.wrap, IntKind.signed, IntKind.bits]; omega
  have fin : Hid (∀ q, ArPost A S st (.int .u64 0) w (.returned (.int .u64 0)) (w.drewN q)) := Lib.hid fun q => ArPost.same rfl ((But.refl _ _).drewN q) (HS.out.below (bel_drewN (Below.refl _ _) q))
  clear c2 f2 c3 f3 f4 h ok f0 f1 hroom hcl
  generalize (totB st.L : Int) = u at *
  generalize st.cells = cl at *
  by_cases h1 : n < 1
  · go_enter Try.func11, Try.ntmps11
    go_wp2_with fail
    go_quiet ((go_at_call 36; exact none_q A B w c4 _))
    go_wp2
    go_ret
    exact fin.out _
  · have h2 : n > cl - u := by omega
    have h3 : decide (n < 1) = false := by simp; omega
    go_enter Try.func11, Try.ntmps11
    go_wp2_with fail
    go_quiet ((go_at_call 36; exact none_q A B w c4 _))
    go_wp2
    go_ret
    exact fin.out _

set_option maxRecDepth 20000 in
set_option maxHeartbeats 2000000 in
theorem alloc_yes {n : Int} (h : AI w A S st) (hn : 1 ≤ n ∧ n ≤ st.cells - totB st.L) (ok : st.Ok K) (hK : K < 1000000000) : Calls Try.prog 11 #[.pointer (some ⟨A, 0, none⟩), .int .i64 n] w
    (ArPost A S { st with last := st.last + 1, L := st.L ++ [(st.last + 1, List.replicate n.toNat 0)] } (.int .u64 (st.last + 1)) w) := by
  obtain ⟨m, rfl⟩ := Int.eq_ofNat_of_zero_le (show 0 ≤ n by omega)
  simp only [Int.toNat_natCast]
  have HS : Hid (AI w A S st) := Lib.hid h
  obtain ⟨B, rows, q, D, h⟩ := h
  have hcs := h.cs
  have hroom := ok.room
  have hcl := ok.cells
  have hla := ok.last
  simp only [Cs, Nat.zero_add, Nat.reduceAdd] at hcs
  obtain ⟨c0, f0, c1, f1, c2, f2, c3, f3, c4, f4, _⟩ := hcs
  have HH : Hid (AIn w A B rows q D S st) := Lib.hid h
  have HOK : Hid (st.Ok K) := Lib.hid ok
  have e1 : IntKind.u64.wrap (st.last + 1) = st.last + 1 := by simp [IntKind.wrap, IntKind.signed, IntKind.bits]; omega
  have e2 : IntKind.i64.wrap ((totB st.L : Int) + (m : Int)) = (totB st.L : Int) + (m : Int) := by simp [IntKind.wrap, IntKind.signed, IntKind.bits]; omega
  have e3 : IntKind.i64.wrap (st.cells - (totB st.L : Int)) = st.cells - (totB st.L : Int) := by simp [IntKind.wrap, IntKind.signed, IntKind.bits]; omega
  obtain ⟨hn1, hn2⟩ := hn
  have h1 : ¬ (m : Int) < 1 := by omega
  have h2 : ¬ (m : Int) > st.cells - (totB st.L : Int) := by omega
  have h3 : decide ((m : Int) < 1) = false := by simp; omega
  have h4 : decide ((m : Int) > st.cells - (totB st.L : Int)) = false := by simp; omega
  have hmm := fun w => run_make_row' (P := Try.prog) 28 24 (.int .u64 0) 8 Try.underlying28 infoU64 rfl .i64 .i64 m (by omega) (by omega) w
  have F : Hid (∀ k, But (fun x => x = A) w (((w.drewN k).setCell ⟨A, 3, none⟩ (.int .u64 (st.last + 1))).setCell ⟨A, 1, none⟩ (.int .i64 ((totB st.L : Int) + (m : Int)))) ∧
      Cs (((w.drewN k).setCell ⟨A, 3, none⟩ (.int .u64 (st.last + 1))).setCell ⟨A, 1, none⟩ (.int .i64 ((totB st.L : Int) + (m : Int)))) A 0 [.int .i64 st.cells, .int .i64 ((totB st.L : Int) + (m : Int)), .int .i64 st.faults, .int .u64 (st.last + 1), .map (some B)]) := by
    refine Lib.hid fun k => ⟨((((But.refl (fun x => x = A) w).drewN k).setCell (fun _ => rfl) _).setCell (fun _ => rfl) _), ?_⟩
    simp [Cs, go_sem, c0, f0, c1, f1, c2, f2, c3, f3, c4, f4]
  clear ok h hroom hcl hla hn1 hn2
  clear c2 f2 f0
  generalize hu : (totB st.L : Int) = u at *
  have HU : Hid ((totB st.L : Int) = u) := Lib.hid hu
  clear hu
  go_enter Try.func11, Try.ntmps11
  go_wp2_with fail
  go_quiet ((go_at_call 36; exact none_q A B w c4 _))
  go_upto_region 5 with fail
  refine wp_world (fun W => But (fun x => x = A) w W ∧ Cs W A 0 [.int .i64 st.cells, .int .i64 (u + (m : Int)), .int .i64 st.faults, .int .u64 (st.last + 1), .map (some B)]) (F.out _) ?_
  clear F e1 e2 e3 c0 c1 f1 c3 f3 c4 f4 h1 h2 h3 h4
  rintro W ⟨hb, hcs⟩
  have HB : Hid (But (fun x => x = A) w W) := Lib.hid hb
  have HC : Hid (Cs W A 0 [.int .i64 st.cells, .int .i64 (u + (m : Int)), .int .i64 st.faults, .int .u64 (st.last + 1), .map (some B)]) := Lib.hid hcs
  simp only [Cs, Nat.zero_add, Nat.reduceAdd] at hcs
  obtain ⟨c0, f0, c1, f1, c2, f2, c3, f3, c4, f4, _⟩ := hcs
  have hW := hb.size
  have hM : ((W.alloc (.cells (madeCells #[.int .u64 0] m) 24)).drew).ownsMap Try.prog 24 rowR B q D := (hb.map HH.out.mp (fun e => HH.out.ne e.symm)).alloc (.cells (madeCells #[.int .u64 0] m) 24)
  have hqn : q < maxLen := by have := HH.out.nn; have := HOK.out.last; unfold maxLen; omega
  have hkey := keyOf_u64 (g := st.last + 1) (by have := HOK.out.last; unfold U64; omega)
  obtain ⟨w1, hrun, hown1, hgrow1⟩ := hM.update keyU64 Try.underlying45 hqn hkey (rowR_mk W.heap.size m)
  have HO1 : Hid (w1.ownsMap Try.prog 24 rowR B (q + 1) (D.put (.int .u64 (st.last + 1)) (encR W.heap.size m))) := Lib.hid hown1
  have HG1 : Hid (((W.alloc (.cells (madeCells #[.int .u64 0] m) 24)).drew).grownBy w1 (some B)) := Lib.hid hgrow1
  have c3' : w1.cell? ⟨A, 3, none⟩ = some (.int .u64 (st.last + 1)) := by
    have hne : some A ≠ some B := fun e => HH.out.ne (Option.some.inj e)
    have hA := HH.out.lt A HH.out.sa
    refine hgrow1.cell ?_ hne
    exact bel_cell (Below.alloc (Below.refl _ _) (Nat.le_refl _) _) c3
  clear hb hown1 hgrow1 hM hkey
  have c3a : (W.alloc (.cells (madeCells #[.int .u64 0] m) 24)).cell? ⟨A, 3, none⟩ = some (.int .u64 (st.last + 1)) := bel_cell (Below.alloc (Below.refl _ _) (Nat.le_refl _) _) c3
  have c4a : (W.alloc (.cells (madeCells #[.int .u64 0] m) 24)).cell? ⟨A, 4, none⟩ = some (.map (some B)) := bel_cell (Below.alloc (Below.refl _ _) (Nat.le_refl _) _) c4
  go_region
  all_goals go_wp2
  all_goals go_ret
  all_goals (
    have hb := HB.out
    have H := HH.out
    have hg : But (fun x => x = B) W w1 := (But.of_below (Below.drew (Below.alloc (Below.refl _ _) (Nat.le_refl _) _))).then (S' := fun x => x = B) (But.of_grown HG1.out (fun k hk _ => (Option.some.inj hk).symm)) (fun _ _ q => q)
    have hb3 : But (fun x => x = A ∨ x = B) w w1 := (hb.mono (fun _ _ q => .inl q)).trans (hg.mono (fun _ _ q => .inr q))
    have hfr := HOK.out.fresh (b := st.last + 1) (.inl (by omega))
    have hs1 := hb3.size
    have hA := H.lt A H.sa
    have hB := H.lt B H.sb
    have hwB : W.heap.size ≠ B := by have := hb.size; omega
    have hrow : RowAt w1 W.heap.size (List.replicate m 0) := by
      have hr := made_row W m 24
      exact hr.but (T := fun x => x = B) (But.of_grown HG1.out (fun k hk _ => (Option.some.inj hk).symm)) hwB
    have key : ∀ c us, getB (st.L ++ [(st.last + 1, List.replicate m 0)]) c = some us → (c = st.last + 1 ∧ us = List.replicate m 0) ∨ (c ≠ st.last + 1 ∧ getB st.L c = some us) := by
      intro c us hc
      rw [getB_append] at hc
      by_cases e : c = st.last + 1
      · subst e
        rw [hfr] at hc
        simp [getB] at hc
        exact .inl ⟨rfl, hc.symm⟩
      · cases hg0 : getB st.L c with
        | none => rw [hg0] at hc; simp [getB] at hc; exact absurd hc.1.symm e
        | some vs => rw [hg0] at hc; simp at hc; exact .inr ⟨e, by rw [hc]⟩
    refine ⟨rfl, hb3.mono (fun x _ q => by rcases q with rfl | rfl; exact H.sa; exact H.sb), fun x => S x ∨ x = W.heap.size, ⟨B, fun c => if c = st.last + 1 then W.heap.size else rows c, q + 1, D.put (.int .u64 (st.last + 1)) (encR W.heap.size m), ?_⟩, fun _ q => .inl q, fun x q => by rcases q with q | q; exact .inl q; exact .inr (by have := hb.size; omega)⟩
    refine ⟨?_, HO1.out, by have := H.nn; simp only; omega, ?_, ?_, ?_, ?_, ?_, H.ne, .inl H.sa, .inl H.sb, ?_⟩
    · have h1 := HC.out.but hg H.ne
      have e : ((totB (st.L ++ [(st.last + 1, List.replicate m 0)]) : Nat) : Int) = u + m := by
        rw [totB_append, ← HU.out]; simp [totB]
      simpa only [e] using h1
    · intro c hc
      rw [getB_append]
      by_cases e : c = st.last + 1
      · subst e
        rw [hfr, atKey_put_same (k := .int .u64 (st.last + 1)) H.mp.isMap trivial]
        simp [getB]
      · rw [atKey_put_other (by simp; exact e), H.at1 c hc]
        cases hg0 : getB st.L c with
        | none => simp [getB, Ne.symm e]
        | some vs => simp [e]
    · intro c hc
      rw [getB_append]
      by_cases e : c = st.last + 1
      · subst e
        rw [hfr, has_put_same (k := .int .u64 (st.last + 1)) H.mp.isMap trivial]
        simp [getB]
      · rw [has_put_other (by simp; exact e), H.has1 c hc]
        cases hg0 : getB st.L c with
        | none => simp [getB, Ne.symm e]
        | some vs => simp
    · intro c us hc
      rcases key c us hc with ⟨e, rfl⟩ | ⟨e, h1⟩
      · simp only [e, if_true]; exact hrow
      · simp only [e, if_false]
        have hs := H.sep c us h1
        exact (H.row c us h1).but hb3 (fun q => by rcases q with q | q; exact hs.1 q; exact hs.2.1 q)
    · intro c us hc
      rcases key c us hc with ⟨e, rfl⟩ | ⟨e, h1⟩
      · simp only [e, if_true]; exact ⟨by omega, by omega, .inr trivial⟩
      · simp only [e, if_false]
        have hs := H.sep c us h1
        exact ⟨hs.1, hs.2.1, .inl hs.2.2⟩
    · intro c d us vs hc hd hr
      rcases key c us hc with ⟨e, rfl⟩ | ⟨e, h1⟩
      · rcases key d vs hd with ⟨e2, rfl⟩ | ⟨e2, h2⟩
        · rw [e, e2]
        · simp only [e, e2, if_true, if_false] at hr
          have := H.lt _ (H.sep d vs h2).2.2
          have := hb.size
          omega
      · rcases key d vs hd with ⟨e2, rfl⟩ | ⟨e2, h2⟩
        · simp only [e, e2, if_true, if_false] at hr
          have := H.lt _ (H.sep c us h1).2.2
          have := hb.size
          omega
        · simp only [e, e2, if_false] at hr
          exact H.one c d us vs h1 h2 hr
    · intro x hx
      rcases hx with hx | rfl
      · have := H.lt x hx; omega
      · exact hrow.1)

theorem alloc_any {n : Int} (h : AI w A S st) (ok : st.Ok K) (hK : K < 1000000000) : Calls Try.prog 11 #[.pointer (some ⟨A, 0, none⟩), .int .i64 n] w (ArPost A S (st.alloc n).2 (.int .u64 (st.alloc n).1) w) := by
  unfold AR.alloc
  by_cases hn : n < 1 ∨ st.cells - totB st.L < n
  · rw [if_pos hn]
    exact alloc_no h hn ok
  · rw [if_neg hn]
    exact alloc_yes h (by omega) ok hK
end
end Go.Proofs.Ytclflmpdjlflaaa
