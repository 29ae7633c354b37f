import Derived.Test.YtclflmpdjlflaaaArC
set_option linter.unusedVariables false
set_option linter.unusedSimpArgs false
namespace Go.Proofs.Ytclflmpdjlflaaa
open Go.RowKit Go.Maps

section
variable {A : Nat} {S : Nat → Prop} {st : AR} {K : Nat} {w : World}

theorem used_any (h : AI w A S st) : Calls Try.prog 15 #[.pointer (some ⟨A, 0, none⟩)] w fun e w' => e = .returned (.int .i64 (totB st.L)) ∧ w = w' := by
  obtain ⟨B, rows, n, D, h⟩ := h
  have hcs := h.cs
  simp only [Cs, Nat.zero_add, Nat.reduceAdd] at hcs
  obtain ⟨c0, f0, c1, f1, _⟩ := hcs
  clear h
  go_enter Try.func15, Try.ntmps15
  go_wp2
  go_ret
  exact ⟨rfl, rfl⟩
theorem faults_any (h : AI w A S st) : Calls Try.prog 19 #[.pointer (some ⟨A, 0, none⟩)] w fun e w' => e = .returned (.int .i64 st.faults) ∧ w = w' := by
  obtain ⟨B, rows, n, D, h⟩ := h
  have hcs := h.cs
  simp only [Cs, Nat.zero_add, Nat.reduceAdd] at hcs
  obtain ⟨c0, f0, c1, f1, c2, f2, _⟩ := hcs
  clear h
  go_enter Try.func19, Try.ntmps19
  go_wp2
  go_ret
  exact ⟨rfl, rfl⟩

set_option maxRecDepth 20000 in
theorem size_any {b : Int} (h : AI w A S st) (hb : U64 b) : Calls Try.prog 16 #[.pointer (some ⟨A, 0, none⟩), .int .u64 b] w fun e w' => e = .returned (.int .i64 (st.size b)) ∧ w = w' := by
  obtain ⟨B, rows, n, D, h⟩ := h
  have hcs := h.cs
  have hl := h.look1 hb
  simp only [Cs, Nat.zero_add, Nat.reduceAdd] at hcs
  obtain ⟨c0, f0, c1, f1, c2, f2, c3, f3, c4, f4, _⟩ := hcs
  have hN := none_no A B w c4
  clear c0 f0 c1 f1 c2 f2 c3 f3 f4 hb h
  cases hg : getB st.L b with
  | none =>
    rw [hg] at hl
    have hs : st.size b = 0 := by simp [AR.size, hg]
    rw [hs]
    clear hg hs
    go_enter Try.func16, Try.ntmps16
    go_wp2_with (first | (go_at_call 36; (with_reducible refine (hN).mono ?_); rintro e w' ⟨rfl, rfl⟩))
    go_ret
    exact ⟨rfl, rfl⟩
  | some ws =>
    rw [hg] at hl
    have hs : st.size b = ws.length := by simp [AR.size, hg]
    rw [hs]
    clear hg hs
    simp only at hl
    generalize ws.length = m at *
    go_enter Try.func16, Try.ntmps16
    go_wp2_with (first | (go_at_call 36; (with_reducible refine (hN).mono ?_); rintro e w' ⟨rfl, rfl⟩))
    go_ret
    exact ⟨rfl, rfl⟩

set_option maxRecDepth 20000 in
set_option maxHeartbeats 1000000 in
theorem free_any {b : Int} (h : AI w A S st) (ok : st.Ok K) (hK : K < 1000000000) (hb : U64 b) :
    Calls Try.prog 14 #[.pointer (some ⟨A, 0, none⟩), .int .u64 b] w (ArPost A S (st.free b).2 (.int .i64 (st.free b).1) w) := by
  obtain ⟨B, rows, n, D, h⟩ := h
  have hcs := h.cs
  have hl := h.look hb
  have hf := ok.faults
  simp only [Cs, Nat.zero_add, Nat.reduceAdd] at hcs
  obtain ⟨c0, f0, c1, f1, c2, f2, c3, f3, c4, f4, _⟩ := hcs
  have hN := none_no A B w c4
  have HH : Hid (AIn w A B rows n D S st) := Lib.hid h
  have hsa := h.sa
  cases hg : getB st.L b with
  | none =>
    rw [hg] at hl
    simp only [Option.isSome_none] at hl
    have e : st.free b = (13, st.miss) := by unfold AR.free; rw [hg]
    rw [e]
    have miss : Hid (AI (w.setCell ⟨A, 2, none⟩ (.int .i64 (st.faults + 1))) A S st.miss) := by
      refine Lib.hid ?_
      have hb : But (fun x => x = A) w (w.setCell ⟨A, 2, none⟩ (.int .i64 (st.faults + 1))) := (But.refl (fun x => x = A) w).setCell (fun _ => rfl) _
      refine ⟨B, rows, n, D, ?_, hb.map h.mp (fun q => h.ne q.symm), h.nn, h.at1, h.has1, fun c ws e => (h.row c ws e).but hb (h.sep c ws e).1, h.sep, h.one, h.ne, h.sa, h.sb, fun x hx => by simpa using h.lt x hx⟩
      simp [Cs, go_sem, c0, f0, c1, f1, c2, f2, c3, f3, c4, f4, AR.miss]
    clear c0 f0 c1 f1 c3 f3 f4 hg e h hb ok
    generalize st.faults = F at *
    go_enter Try.func14, Try.ntmps14
    go_wp2_with (first | (go_at_call 36; (with_reducible refine (hN).mono ?_); rintro e w' ⟨rfl, rfl⟩))
    go_ret
    exact ArPost.same rfl ((But.refl _ _).setCell (fun _ => HH.out.sa) _) miss.out
  | some ws =>
    rw [hg] at hl
    simp only [Option.isSome_some] at hl
    have e : st.free b = (0, { st with L := dropB st.L b }) := by unfold AR.free; rw [hg]
    rw [e]
    have ht := totB_drop ok.apart hg
    have hroom := ok.room
    have hcl := ok.cells
    have e1 : IntKind.i64.wrap ((totB st.L : Int) - (ws.length : Int)) = (totB (dropB st.L b) : Int) := by simp [IntKind.wrap, IntKind.signed, IntKind.bits]; omega
    have hb1 : Hid (But (fun x => x = A) w (w.setCell ⟨A, 1, none⟩ (.int .i64 (totB (dropB st.L b) : Int)))) := Lib.hid ((But.refl (fun x => x = A) w).setCell (fun _ => rfl) _)
    have fin : Hid (∀ w1, (w1.ownsMap Try.prog 24 rowR B n (D.del (.int .u64 b))) → (w.setCell ⟨A, 1, none⟩ (.int .i64 (totB (dropB st.L b) : Int))).mapTurned w1 B → But S w w1 ∧ AI w1 A S { st with L := dropB st.L b }) := by
      refine Lib.hid fun w1 hm ht => ?_
      have hg2 := ht.grown
      have hb2 : But (fun x => x = B) (w.setCell ⟨A, 1, none⟩ (.int .i64 (totB (dropB st.L b) : Int))) w1 := But.of_grown hg2 (fun k hk _ => (Option.some.inj hk).symm)
      have hb3 : But (fun x => x = A ∨ x = B) w w1 := (hb1.out.mono (fun _ _ q => .inl q)).trans (hb2.mono (fun _ _ q => .inr q))
      have sub : ∀ c us, getB (dropB st.L b) c = some us → c ≠ b ∧ getB st.L c = some us := by
        intro c us hc
        rw [getB_drop] at hc
        split at hc
        · cases hc
        · rename_i e; exact ⟨e, hc⟩
      refine ⟨hb3.mono (fun x _ q => by rcases q with rfl | rfl; exact h.sa; exact h.sb), B, rows, n, D.del (.int .u64 b), ?_, hm, h.nn, ?_, ?_, ?_, ?_, ?_, h.ne, h.sa, h.sb, fun x hx => Nat.lt_of_lt_of_le (h.lt x hx) hb3.size⟩
      · refine Cs.but hb2 h.ne ?_
        simp [Cs, go_sem, c0, f0, c1, f1, c2, f2, c3, f3, c4, f4]
      · intro c hc
        rw [getB_drop]
        by_cases e : c = b
        · subst e
          rw [if_pos rfl, atKey_del_same]
        · rw [if_neg e, atKey_del_other (by simp; exact e)]
          exact h.at1 c hc
      · intro c hc
        rw [getB_drop]
        by_cases e : c = b
        · subst e
          rw [if_pos rfl, has_del_same]; rfl
        · rw [if_neg e, has_del_other (by simp; exact e)]
          exact h.has1 c hc
      · intro c us hc
        obtain ⟨_, h1⟩ := sub c us hc
        have hs := h.sep c us h1
        exact (h.row c us h1).but hb3 (fun q => by rcases q with q | q; exact hs.1 q; exact hs.2.1 q)
      · intro c us hc
        exact h.sep c us (sub c us hc).2
      · intro c d us vs hc hd hr
        exact h.one c d us vs (sub c us hc).2 (sub d vs hd).2 hr
    have hm0 : Hid ((w.setCell ⟨A, 1, none⟩ (.int .i64 (totB (dropB st.L b) : Int))).ownsMap Try.prog 24 rowR B n D) := Lib.hid (hb1.out.map h.mp (fun q => h.ne q.symm))
    have hkey := keyOf_u64 hb
    have c4' : (w.setCell ⟨A, 1, none⟩ (.int .i64 (totB (dropB st.L b) : Int))).cell? ⟨A, 4, none⟩ = some (.map (some B)) := by simp [go_sem, c4]
    clear c0 f0 c2 f2 c3 f3 f4 hg e hf h hb ok ht hroom hcl hsa
    generalize (totB (dropB st.L b) : Int) = u at *
    generalize (totB st.L : Int) = t at *
    generalize ws.length = m at *
    go_enter Try.func14, Try.ntmps14
    go_wp2_with (first | (go_at_call 36; (with_reducible refine (hN).mono ?_); rintro e w' ⟨rfl, rfl⟩) | (at_delete; refine wpList_delete_own _ rfl _ _ 45 24 rfl 28 keyU64 Try.underlying45 _ B n D rfl hm0.out _ _ rfl hkey ?_; intro w1 hown1 hturn1))
    go_ret
    exact ArPost.same rfl (fin.out _ hown1 hturn1).1 (fin.out _ hown1 hturn1).2
end
end Go.Proofs.Ytclflmpdjlflaaa
