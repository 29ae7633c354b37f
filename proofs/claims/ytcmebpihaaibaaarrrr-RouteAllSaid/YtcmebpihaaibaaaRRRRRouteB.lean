import Derived.Test.YtcmebpihaaibaaaRRRRRouteA
set_option linter.unusedVariables false
set_option linter.unusedSimpArgs false
namespace Go.Proofs.YtcmebpihaaibaaaRRRR
open Go.RowKit Go.Shelf
attribute [local go_sem] Oper.semAt_some

theorem infoInt : (Try.prog.info? 3).map (fun i => (i.zero, i.size, i.bytes)) = some (some (.int .i64 0), 1, 8) := by kernel_rfl

theorem fn_nil (fn : Fn) (a b : Array Value) (w : World) : (binOp .eql 54 (.func fn a b) .nilFunc).run Try.prog w = .ok (.bool false) w := by kernel_rfl

/-- Whatever is owned is a slice. -/
theorem own_slice {w : World} {base n : Nat} {e : TypeId} {size : Nat} {v : Value} {xs : List Value} (h : w.ownsRow base e size v n xs) : ∃ A c, v = .slice A n c := by
  rcases h.2 with ⟨rfl, rfl⟩ | ⟨g, cap, cur, rfl, _⟩
  · exact ⟨none, 0, rfl⟩
  · exact ⟨_, cap, rfl⟩

theorem own_lower {w : World} {base base' n : Nat} {e : TypeId} {size : Nat} {v : Value} {xs : List Value} (h : w.ownsRow base e size v n xs) (hb : base' ≤ base) : w.ownsRow base' e size v n xs := by
  refine ⟨h.1, ?_⟩
  rcases h.2 with h | ⟨g, cap, cur, h1, h2, h3⟩
  · exact .inl h
  · exact .inr ⟨g, cap, cur, h1, by omega, h3⟩
theorem boxed_below {n : Nat} {A B : World} (hb : Below n A B) {k : Nat} {t : TypeId} {v : Value} (h : Boxed A k t v) (hk : k < n) : Boxed B k t v := (hb.block k hk).trans h

set_option maxRecDepth 100000 in
set_option maxHeartbeats 1000000 in
theorem lawAll_in (h log most : Int) (h0 : 0 ≤ h) (h1 : h < 18446744073709551616) (hmost : grp log ≤ most) (w : World) :
    CallsIn Fence.wide 9 Try.prog 7 #[.int .u64 h, .int .i64 log, .int .i64 most] w fun e W' => ∃ v, e = .returned v ∧
      W'.ownsRow w.heap.size 3 1 v (grp log).toNat ((ways (grp log) (h / 128) (grp log).toNat).map (Value.int .i64)) ∧ Below w.heap.size w W' := by
  have hgr := grp_range log
  obtain ⟨i0, hi, hz0, hz1, hz2⟩ := info_parts infoInt
  refine callsIn_of_wp_marks Try.func7 rfl trivial ?_ rfl
  simp only [Try.ntmps7, List.size_toArray, List.length_cons, List.length_nil, Nat.reduceAdd, Nat.reduceSub, Array.replicate_succ, Array.replicate_zero, List.push_toArray, List.append_toArray, List.nil_append, List.cons_append]
  have hnf := fn_nil
  gi_wp2_with (refine ⟨trivial, ?_⟩; gi_at_call 30; refine (callsIn_wide.2 (all_any h log _)).mono ?_; rintro e w' ⟨rfl, rfl⟩)
  have bM : Boxed (w.alloc (.cells #[.int .i64 most] 3)) w.heap.size 3 (.int .i64 most) := Boxed.new w _ _
  have rO := World.ownsRow_made (w := w.alloc (.cells #[.int .i64 most] 3)) (base := w.heap.size + 1) (e := 3) (size := 1) #[] 0 (by simp) (by decide) rfl
  have bO := Boxed.new ((w.alloc (.cells #[.int .i64 most] 3)).alloc (.cells #[] 3)) 24 (.slice (some ⟨w.heap.size + 1, 0, none⟩) 0 0)
  have bH := Boxed.new (((w.alloc (.cells #[.int .i64 most] 3)).alloc (.cells #[] 3)).alloc (.cells #[.slice (some ⟨w.heap.size + 1, 0, none⟩) 0 0] 24)) 22 (.int .u64 h)
  have bL := Boxed.new ((((w.alloc (.cells #[.int .i64 most] 3)).alloc (.cells #[] 3)).alloc (.cells #[.slice (some ⟨w.heap.size + 1, 0, none⟩) 0 0] 24)).alloc (.cells #[.int .u64 h] 22)) 3 (.int .i64 log)
  simp only [World.size_alloc] at rO bO bH bL
  have hB0 : Below w.heap.size w (((((w.alloc (.cells #[.int .i64 most] 3)).alloc (.cells #[] 3)).alloc (.cells #[.slice (some ⟨w.heap.size + 1, 0, none⟩) 0 0] 24)).alloc (.cells #[.int .u64 h] 22)).alloc (.cells #[.int .i64 log] 3)) :=
    (((((Below.refl _ w).alloc (Nat.le_refl _) _).alloc (by simp only [World.size_alloc]; omega) _).alloc (by simp only [World.size_alloc]; omega) _).alloc (by simp only [World.size_alloc]; omega) _).alloc (by simp only [World.size_alloc]; omega) _
  refine wpIn_rangeFunc_ownG rfl (by decide) (gf := 41) (lb := #[.pointer (some ⟨w.heap.size + 1 + 1 + 1 + 1, 0, none⟩), .pointer (some ⟨w.heap.size + 1 + 1 + 1, 0, none⟩)]) rfl trivial (enters_of Try.func41 (by kernel_rfl) rfl)
    (all_stops 8 _ _ w.heap.size (by decide) h log h0 h1 _ (by simp only [World.size_alloc]; omega) (by simp only [World.size_alloc]; omega) bL.cell (bH.alloc _).cell) belowK_t (belowK_b (by simp; omega)) (Below.refl _ _) (fun _ => rfl)
    (fun pre W => ((∃ v, Boxed W (w.heap.size + 1 + 1) 24 v ∧ W.ownsRow (w.heap.size + 1) 3 1 v pre.length (pre.map (Value.int .i64)) ∧ True) ∧ Boxed W w.heap.size 3 (.int .i64 most)) ∧ Below w.heap.size w W)
    (fun _ _ _ => False)
    (OwnFrom.and (OwnFrom.and (Own.from (holdsRow_own (w.heap.size + 1) (w.heap.size + 1 + 1) 24 3 1 (fun pre : List Int => pre.length) (fun pre => pre.map (Value.int .i64)) (fun _ _ => True)) _) (Own.from (boxed_own w.heap.size 3 (fun _ => .int .i64 most)) _)) (ownFrom_below (Nat.le_refl _) (by simp; omega)))
    (fun _ _ _ _ _ hs _ _ => hs)
    ⟨⟨⟨_, (bO.alloc _).alloc _, ((rO.alloc _).alloc _).alloc _, trivial⟩, (((bM.alloc _).alloc _).alloc _).alloc _⟩, hB0⟩
    ?a1 ?assign ?body ?done ?stop
  case assign =>
    intro l x W K hK
    gi_wp2
    exact hK
  case body =>
    rintro l pre x W ⟨⟨⟨v, hv, hrow, _⟩, hm⟩, hB⟩ hlt
    obtain ⟨A, c, rfl⟩ := own_slice hrow
    have hc := hv.cell
    have hcm := hm.cell
    have hne : ((pre.length : Int) == most) = false := by simp; omega
    gi_wp2_with (gi_at_builtin; refine wpListIn_append_own _ rfl _ _ 24 rfl (w.heap.size + 1) 3 i0 (.int .i64 0) 1 8 Try.underlying24 hi hz0 hz1 hz2 rfl (by decide) _ _ _ rfl (hrow.alloc _) ⟨W.heap.size, 0, none⟩ 1 1 [.int .i64 x] rfl rfl (cell_one_new _ _ _) (by simp [Value.oneCell']) (by unfold maxLen; omega) (by omega) (by have := hm.lt; simp; omega) ?_; intro v' w1 hown' hgrow _; obtain ⟨g', cap', rfl⟩ := ownsRow_succ hown'; obtain ⟨hv1, hv2, hr2, hk2, hb2⟩ := hv.appended (by decide) hrow (by have := hm.lt; omega) (by omega) hown' hgrow; have hc1 := hv1.cell; have hf1 := hv1.frozen)
    exact ⟨hk2.from _, hb2.mono (by omega), ⟨⟨_, hv2, by simpa using hr2, trivial⟩, boxed_below hb2 hm (by omega)⟩, hB.trans (hb2.mono (by omega))⟩
  case done =>
    rintro D ys W hD rfl ⟨⟨⟨v, hv, hrow, _⟩, _⟩, hB⟩ hK
    have hc := hv.cell
    gi_wp2
    refine ⟨by simp, .inl ⟨_, _, rfl, run_takeDeferred hK, ?_⟩⟩
    exact ⟨_, results_tmp rfl _ _ _, v, rfl, own_lower (by simpa [ways_length] using ownsRow_putObj hrow _ hK rfl) (by omega), hB.trans (belowK_b (w := w) (Nat.le_refl _) W D _ _ (by simp at hD; omega) hK rfl rfl)⟩
  case stop =>
    rintro D c pre W _ _ h _
    exact h.elim
end Go.Proofs.YtcmebpihaaibaaaRRRR
