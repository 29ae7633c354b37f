/-
  sprocketlaw24.RetireActs returns true for every site, every list of kept boxes and every list of answers.
  Conditions: the variable desk.bounds holds what the program's text lays (the card ties it).
-/
import Derived.Test.YtaclkachohkenaaDoorCards
import Derived.Test.YtaclkachohkenaaDoorTie
import Derived.Test.YtaclkachohkenaaDoorRetX
import Derived.WalkKit
import Derived.ProofKit
import Derived.OpenShut
import Derived.ChangeOld
import Derived.ChangeSlices
import Derived.Below
import Derived.LaidMore
import Derived.Lay
import Derived.SevenTiedAt
namespace Go.Proofs.YtaclkachohkenaaDoor.retireActs
open Go.ChangeShapes Go.WideShapes Go.ChangeAt Go.RowKit
set_option linter.unusedVariables false
set_option linter.unusedSimpArgs false

theorem own : ownKnob Tryd.prog.godebug = none := by kernel_rfl
theorem laidOut : laidOutB Tryd.prog = true := by kernel_rfl
theorem gBounds : Tryd.prog.globalNamed "sprocket/desk.bounds" = some 0 := by kernel_rfl
theorem tBounds : (Tryd.prog.globals[(0 : Nat)]?).map (·.type) = some 57 := by kernel_rfl

/-- A slice of numbers that came in. -/
theorem arg_words {H : Type} {enc : TypeId × Value → H} {P : Program} {W : World} {base b0 : Nat} {held : Bool} {t e : TypeId} {k : IntKind} {v : Value} {d : DataW H} {p : List MemPlace} (ht : P.underlying t = some (.slice e)) (he : P.underlying e = some (.int k)) (hc : P.cellsOf e = 1)
    (hv : Value.okWide P W .any base t v) (h : DataW.Trod enc P W b0 (fun _ => true) held t v d p) (hz : ∀ els sp, d = .slice els sp → (els.length + sp.length) * P.bytesOf e ≤ reachBytes) (hby : 1 ≤ P.bytesOf e) :
    ∃ a n cp zs, v = .slice a n cp ∧ n ≤ cp ∧ Rd W k v zs ∧ (∀ g, v.ownBlock = some g → g < W.heap.size) ∧ ∀ z ∈ zs, (Lit.int k z).wf = true := by
  obtain ⟨fuel, hf⟩ := h
  obtain ⟨a, n, cp, rfl⟩ := okWide_slice ht hv
  rcases open_ints ht he hc hf with ⟨h1, _⟩ | ⟨a', n', c', zs, h1, _, hle, hmax, hlen, hx, hcell, hwf⟩
  · simp only [Value.cells, Array.toList, List.cons.injEq, and_true] at h1
    injection h1 with e1 e2 e3
    subst e1 e2 e3
    exact ⟨none, 0, 0, [], rfl, Nat.le_refl _, Rd.nil _ _ _ _, fun g hg => by simp [Value.ownBlock] at hg, by simp⟩
  · simp only [Value.cells, Array.toList, List.cons.injEq, and_true] at h1
    injection h1 with e1 e2 e3
    subst e1 e2 e3
    have hsh : a'.spot = none ∧ a'.block < W.heap.size := by
      unfold Value.okWide at hv
      rw [ht] at hv
      simp only [Cell.okWide, ht, Cell.ok] at hv
      obtain ⟨_, _, _, hs, row, cells, hsh, _⟩ := hv
      refine ⟨hs, ?_⟩
      unfold World.shape? at hsh
      rcases hh : W.heap[a'.block]? with _ | o
      · simp [hh] at hsh
      · exact (Array.getElem?_eq_some_iff.1 hh).1
    obtain ⟨b, off, r⟩ := a'
    obtain ⟨hs, hb⟩ := hsh
    simp only at hs hb
    subst hs
    simp only [if_true] at hlen
    have hreach : n ≤ 140737488355328 := by
      simp only [Prod.mk.injEq] at hx
      have h1 := hz _ _ hx.1
      simp only [lits, List.length_map, List.length_take, List.length_drop] at h1
      have h2 := Nat.mul_le_mul_left (min n zs.length + (zs.length - n)) hby
      unfold reachBytes at h1
      omega
    refine ⟨_, n, cp, zs.take n, rfl, hle, ⟨_, n, cp, rfl, by simp; omega, hreach, fun _ => ⟨b, off, rfl, fun j hj => ?_⟩⟩, fun g hg => by simp [Value.ownBlock] at hg; omega, fun z hz => hwf z (List.mem_of_mem_take hz)⟩
    have := hcell j (by omega)
    rw [List.getElem?_take_of_lt hj]
    rw [Addr.add_lit] at this
    rw [this]
    simp [List.getD_eq_getElem?_getD]

theorem open_site {H : Type} {enc : TypeId × Value → H} {W : World} {base b0 : Nat} {sp : Nat → Bool} {held : Bool} {v : Value} {d : DataW H} {p : List MemPlace} (hv : Value.okWide Tryd.prog W .any base 24 v) (h : DataW.Trod enc Tryd.prog W b0 sp held 24 v d p) :
    ∃ D th T K sd, v = siteV D th T K sd ∧ (Lit.int .u64 D).wf = true := by
  obtain ⟨cs, rfl, hsz⟩ := okWide_struct Tryd.underlying24 hv
  have hC : Tryd.prog.cellsOf 24 = 5 := by kernel_rfl
  have c3 : Tryd.prog.cellsOf 3 = 1 := by kernel_rfl
  have c2 : Tryd.prog.cellsOf 22 = 1 := by kernel_rfl
  obtain ⟨l⟩ := cs
  rw [hC] at hsz
  obtain ⟨fuel, hf⟩ := h
  obtain ⟨xs, n, _, _, _, hlen, hfl⟩ := DataW.trod_struct Tryd.underlying24 hf
  match l, hsz with
  | [x0, x1, x2, x3, x4], _ =>
    match xs, hlen with
    | [y0, y1, y2, y3, y4], _ =>
      have h0 : DataW.trod enc Tryd.prog W b0 sp held n 22 [x0] = some y0 := by simpa [c2, Value.cells] using hfl 0 _ rfl
      have h1 : DataW.trod enc Tryd.prog W b0 sp held n 3 [x1] = some y1 := by simpa [c3, Value.cells] using hfl 1 _ rfl
      have h2 : DataW.trod enc Tryd.prog W b0 sp held n 3 [x2] = some y2 := by simpa [c3, Value.cells] using hfl 2 _ rfl
      have h3 : DataW.trod enc Tryd.prog W b0 sp held n 3 [x3] = some y3 := by simpa [c3, Value.cells] using hfl 3 _ rfl
      have h4 : DataW.trod enc Tryd.prog W b0 sp held n 22 [x4] = some y4 := by simpa [c2, Value.cells] using hfl 4 _ rfl
      obtain ⟨D, e0, _, w0⟩ := DataW.trod_int Tryd.underlying22 h0
      obtain ⟨th, e1, _⟩ := DataW.trod_int Tryd.underlying3 h1
      obtain ⟨T, e2, _⟩ := DataW.trod_int Tryd.underlying3 h2
      obtain ⟨K, e3, _⟩ := DataW.trod_int Tryd.underlying3 h3
      obtain ⟨sd, e4, _⟩ := DataW.trod_int Tryd.underlying22 h4
      simp only [List.cons.injEq, and_true] at e0 e1 e2 e3 e4
      subst e0 e1 e2 e3 e4
      exact ⟨D, th, T, K, sd, rfl, w0⟩

abbrev laid {H : Type} : List (String × DataW H) := [("sprocket/desk.bounds", Rows.laid_sprocket_desk_bounds)]

theorem of_laid {W : World} (h : laidMetH Tryd.prog laid W) : Bd W := by
  rw [MakeChecks.laidMetH_plain _ _ _ (by kernel_rfl)] at h
  obtain ⟨ps, ⟨g0, t0, cs0, f0, p0, q0, hg0, ht0, hv0, hd0, _⟩, _, _⟩ := h
  obtain rfl := Option.some.inj (gBounds.symm.trans hg0)
  obtain rfl := Option.some.inj (tBounds.symm.trans ht0)
  have c57 : Tryd.prog.cellsOf 57 = 4 := by kernel_rfl
  have c56 : Tryd.prog.cellsOf 56 = 2 := by kernel_rfl
  have c3 : Tryd.prog.cellsOf 3 = 1 := by kernel_rfl
  have hvc := fun i => World.var?_cell hg0 hv0 i
  obtain ⟨l⟩ := cs0
  obtain ⟨xs, m1, rfl, hx1, hlen, hn2, hel⟩ := DataW.trod_array Tryd.underlying57 hd0
  rw [c57] at hlen
  simp only [Prod.mk.injEq] at hx1
  match l, hlen with
  | [x0, x1, x2, x3], _ =>
    match xs, hn2 with
    | [y0, y1], _ =>
      have k0 := hel 0 (by omega)
      have k1 := hel 1 (by omega)
      rw [c56] at k0 k1
      obtain ⟨a0, b0, n0, rfl, _, ha0, hb0⟩ := trod_struct2 (cs := [x0, x1]) (x := y0) Tryd.underlying56 k0
      obtain ⟨a1, b1, n1, rfl, _, ha1, hb1⟩ := trod_struct2 (cs := [x2, x3]) (x := y1) Tryd.underlying56 k1
      simp only [c3] at ha0 hb0 ha1 hb1
      obtain ⟨z0, e0, rfl, _⟩ := DataW.trod_int (cs := [x0]) Tryd.underlying3 ha0
      obtain ⟨z1, e1, rfl, _⟩ := DataW.trod_int (cs := [x1]) Tryd.underlying3 hb0
      obtain ⟨z2, e2, rfl, _⟩ := DataW.trod_int (cs := [x2]) Tryd.underlying3 ha1
      obtain ⟨z3, e3, rfl, _⟩ := DataW.trod_int (cs := [x3]) Tryd.underlying3 hb1
      simp only [List.cons.injEq, and_true] at e0 e1 e2 e3
      subst e0 e1 e2 e3
      have hx := hx1.1
      simp [Rows.laid_sprocket_desk_bounds] at hx
      obtain ⟨⟨rfl, rfl⟩, rfl, rfl⟩ := hx
      exact ⟨by simpa using hvc 0, by simpa using hvc 1, by simpa using hvc 2, by simpa using hvc 3⟩

set_option maxRecDepth 100000 in
theorem lifted (os : Os) (started : os.Started) (H : Type) (enc : TypeId × Value → H) :
    ReturnsInHanded {} Tryd.checked os 3 .any (fun w args => (Rows.retireActsSpec.pre enc Tryd.prog Tryd.f3 [] false w args ∧ laidMetH Tryd.prog laid w) ∧ sizedMet enc Tryd.prog Tryd.f3 (OpenSpec.ofChange Rows.retireActsSpec) false w args)
      (Rows.retireActsSpec.post enc Tryd.prog Tryd.f3 false true false false) := by
  refine returnsInHanded_of_change_and (C := Tryd.checked) (X := fun w _ => laidMetH Tryd.prog laid w) (fun _ _ _ hh h => h.of_heap hh) own started (by kernel_rfl) Tryd.func3
    (ChangeSpec.witness_shaped (enc := enc) (C := Tryd.checked) (os := os) (X := fun w _ => laidMetH Tryd.prog laid w) false (World.laidAll Tryd.prog os laid) #[siteV 0 0 0 0 0, .slice none 0 0, .slice none 0 0] 8 (World.laidAll_os _ _ _)
      (World.shaped_of_ZipB (by kernel_rfl) (by kernel_rfl)) (by kernel_rfl) (by kernel_rfl) (by kernel_rfl)
      (by rw [MakeChecks.laidMetH_plain _ _ _ (by kernel_rfl)]; exact laidMet_laidAll _ (by kernel_rfl) (by kernel_rfl))) ?_
  intro W base args ds gs before hval0 hW _ hsz hL _
  have hval : ∀ (j : Nat) t v, Tryd.f3.params[j]? = some t → args[j]? = some v → Value.okWide Tryd.prog W .any base t v := hval0
  have hW' := hW
  obtain ⟨p, q, hA0, hV, rfl, hfz, hnd⟩ := hW
  have hA : DataW.TrodAll enc Tryd.prog W 0 (fun _ => true) true Tryd.f3.params.toList args.toList ds p := hA0
  rw [Tryd.params3] at hA hval hsz
  obtain ⟨v0, vs0, d0, ds0, p0, q0, hargs, rfl, rfl, h0, r0⟩ := trodAll_cons hA
  obtain ⟨v1, vs1, d1, ds1, p1, q1, rfl, rfl, rfl, h1, r1⟩ := trodAll_cons r0
  obtain ⟨v2, vs2, d2, ds2, p2, q2, rfl, rfl, rfl, h2, r2⟩ := trodAll_cons r1
  obtain ⟨rfl, rfl, rfl⟩ := trodAll_nil r2
  obtain rfl : args = #[v0, v1, v2] := by cases args; simp_all
  obtain ⟨rfl, rfl⟩ := trodVars_none hV
  have lt0 : ∀ x ∈ p0, x.block < W.heap.size := by obtain ⟨m, hm⟩ := h0; exact DataW.trod_lt m _ _ _ hm
  have lt1 : ∀ x ∈ p1, x.block < W.heap.size := by obtain ⟨m, hm⟩ := h1; exact DataW.trod_lt m _ _ _ hm
  have lt2 : ∀ x ∈ p2, x.block < W.heap.size := by obtain ⟨m, hm⟩ := h2; exact DataW.trod_lt m _ _ _ hm
  obtain ⟨D, th, T, K, sd, rfl, wD⟩ := open_site (hval 0 24 v0 rfl rfl) h0
  have c1 : Tryd.prog.cellsOf 22 = 1 := by kernel_rfl
  have c8 : Tryd.prog.bytesOf 22 = 8 := by kernel_rfl
  obtain ⟨a1, n1, m1, ks, rfl, _, hk, hkn, hkw⟩ := arg_words Tryd.underlying25 Tryd.underlying22 c1 (hval 1 25 v1 rfl rfl) h1 (fun els sp e => sized_slice hsz (j := 1) (t := 25) (e := 22) rfl (by rw [e]; rfl) Tryd.underlying25) (by omega)
  obtain ⟨a2, n2, m2, gs2, rfl, hcp, hg, hgn, hgw⟩ := arg_words Tryd.underlying25 Tryd.underlying22 c1 (hval 2 25 v2 rfl rfl) h2 (fun els sp e => sized_slice hsz (j := 2) (t := 25) (e := 22) rfl (by rw [e]; rfl) Tryd.underlying25) (by omega)
  have w64 : ∀ z : Int, (Lit.int .u64 z).wf = true → 0 ≤ z ∧ z < 18446744073709551616 := fun z hz => by
    simp [Lit.wf, IntKind.min, IntKind.max, IntKind.signed, IntKind.bits] at hz; omega
  clear hA0 hval0
  refine (retireActs_any D th T K sd (w64 _ wD).1 _ ks gs2 a2 n2 m2 W (of_laid hL) hk hkn (fun u hu => w64 u (hkw u hu)) hg hcp hgn (fun u hu => w64 u (hgw u hu))).mono fun e W' ⟨he, bel⟩ => ?_
  subst he
  exact ⟨_, rfl, _, _, _, [], _, [], hW', trodAll_mk1 (shut_bool Tryd.underlying4 _), (trodAll_cons_mk (Below.trod laidOut (by kernel_rfl) (of_decide_eq_true (by kernel_rfl)) h0 bel lt0) (trodAll_cons_mk (Below.trod laidOut (by kernel_rfl) (of_decide_eq_true (by kernel_rfl)) h1 bel lt1) (trodAll_cons_mk (Below.trod laidOut (by kernel_rfl) (of_decide_eq_true (by kernel_rfl)) h2 bel lt2) trodAll_mk0))), rfl, bel.frame _, fun h => by cases h⟩

theorem holds : Rows.RetireActsSaid :=
  OpenClaim.holds_of_wide 3 Tryd.f3 rfl rfl rfl rfl rfl rfl rfl ⟨rfl, rfl, rfl, rfl, rfl⟩ rfl rfl rfl rfl rfl (by kernel_rfl) Tryd.func3 (by kernel_rfl)
    (of_decide_eq_true (by kernel_rfl)) (by unfold Func.isWrapper; first | (rw [if_pos (by decide +kernel)]; kernel_rfl) | (rw [if_neg (by decide +kernel)]; exact ⟨rfl, rfl⟩))
    (fun os started H enc _ => lifted os started H enc)

theorem proved : Rows.RetireActsCardSaid :=
  Claim7.holds_tied_plain_at .later [] [.data] true Rows.retireActsCard.stood.harness false holds (fun _ h => by cases h) (by kernel_rfl) (fun _ h => by cases h) retireActs_row_tie rfl ⟨rfl, rfl⟩ (by kernel_rfl) rfl
    (fun f fn hf hfn => by
      obtain rfl : f = 3 := Option.some.inj ((show Tryd.prog.funcNamed "sprocket/sprocketlaw24.RetireActs" = some 3 by kernel_rfl).symm.trans hf) |>.symm
      obtain rfl : fn = Tryd.f3 := (Option.some.inj (Tryd.func3.symm.trans hfn)).symm
      exact ⟨by kernel_rfl, fun j t ht => by
        rw [Tryd.params3] at ht
        have hm : t ∈ [24, 25, 25] := by simpa using Array.mem_of_getElem? ht
        have hall : ([24, 25, 25].all fun u => !Tryd.prog.wantsStandIn u) = true := by kernel_rfl
        exact (show Tryd.prog.wantsStandIn t = false by simpa using List.all_eq_true.1 hall t hm)⟩)
    (by kernel_rfl)
#print axioms proved
end Go.Proofs.YtaclkachohkenaaDoor.retireActs
