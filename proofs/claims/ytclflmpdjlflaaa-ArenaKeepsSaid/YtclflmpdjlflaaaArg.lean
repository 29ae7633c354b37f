import Derived.Test.YtclflmpdjlflaaaMem
import Derived.WalkKit
import Derived.ProofKit
import Derived.OpenShut
import Derived.ChangeOld
import Derived.ChangeSlices
import Derived.SizedLaws
import Derived.Below
namespace Go.Proofs.Ytclflmpdjlflaaa
open Go.ChangeShapes Go.WideShapes Go.ChangeAt Go.RowKit
set_option linter.unusedVariables false
set_option linter.unusedSimpArgs false

/-- A slice of numbers that came in. -/
theorem arg_words {H : Type} {enc : TypeId × Value → H} {P : Program} {W : World} {base b0 : Nat} {held : Bool} {t e : TypeId} {k : IntKind} {v : Value} {d : DataW H} {p : List MemPlace} (ht : P.underlying t = some (.slice e)) (he : P.underlying e = some (.int k)) (hc : P.cellsOf e = 1)
    (hv : Value.okWide P W .any base t v) (h : DataW.Trod enc P W b0 (fun _ => true) held t v d p) (hz : ∀ els sp, d = .slice els sp → (els.length + sp.length) * P.bytesOf e ≤ reachBytes) (hby : 1 ≤ P.bytesOf e) :
    ∃ a n cp zs, v = .slice a n cp ∧ n ≤ cp ∧ Rd W k v zs ∧ (∀ g, v.ownBlock = some g → g < W.heap.size) ∧ ∀ z ∈ zs, (Lit.int k z).wf = true := by
  obtain ⟨fuel, hf⟩ := h
  obtain ⟨a, n, cp, rfl⟩ := okWide_slice ht hv
  rcases open_ints ht he hc hf with ⟨h1, _⟩ | ⟨a', n', c', zs, h1, _, hle, hmax, hlen, hx, hcell, hwf⟩
  · simp only [Value.cells, Array.toList, List.cons.injEq, and_true] at h1
    injection h1 with e1 e2 e3
    subst e1 e2 e3
    exact ⟨none, 0, 0, [], rfl, Nat.le_refl _, Rd.nil _ _ _ _, fun g hg => by simp [Value.ownBlock] at hg, by simp⟩
  · simp only [Value.cells, Array.toList, List.cons.injEq, and_true] at h1
    injection h1 with e1 e2 e3
    subst e1 e2 e3
    have hsh : a'.spot = none ∧ a'.block < W.heap.size := by
      unfold Value.okWide at hv
      rw [ht] at hv
      simp only [Cell.okWide, ht, Cell.ok] at hv
      obtain ⟨_, _, _, hs, row, cells, hsh, _⟩ := hv
      refine ⟨hs, ?_⟩
      unfold World.shape? at hsh
      rcases hh : W.heap[a'.block]? with _ | o
      · simp [hh] at hsh
      · exact (Array.getElem?_eq_some_iff.1 hh).1
    obtain ⟨b, off, r⟩ := a'
    obtain ⟨hs, hb⟩ := hsh
    simp only at hs hb
    subst hs
    simp only [if_true] at hlen
    have hreach : n ≤ 140737488355328 := by
      simp only [Prod.mk.injEq] at hx
      have h1 := hz _ _ hx.1
      simp only [lits, List.length_map, List.length_take, List.length_drop] at h1
      have h2 := Nat.mul_le_mul_left (min n zs.length + (zs.length - n)) hby
      unfold reachBytes at h1
      omega
    refine ⟨_, n, cp, zs.take n, rfl, hle, ⟨_, n, cp, rfl, by simp; omega, hreach, fun _ => ⟨b, off, rfl, fun j hj => ?_⟩⟩, fun g hg => by simp [Value.ownBlock] at hg; omega, fun z hz => hwf z (List.mem_of_mem_take hz)⟩
    have := hcell j (by omega)
    rw [List.getElem?_take_of_lt hj]
    rw [Addr.add_lit] at this
    rw [this]
    simp [List.getD_eq_getElem?_getD]


/-- An array of three numbers that came in. -/
theorem open_arr3 {H : Type} {enc : TypeId × Value → H} {P : Program} {W : World} {base b0 : Nat} {sp : Nat → Bool} {held : Bool} {t e : TypeId} {k : IntKind} {v : Value} {d : DataW H} {p : List MemPlace} (ht : P.underlying t = some (.array 3 e)) (he : P.underlying e = some (.int k)) (hc : P.cellsOf e = 1) (hC : P.cellsOf t = 3)
    (hv : Value.okWide P W .any base t v) (h : DataW.Trod enc P W b0 sp held t v d p) : ∃ x y z, v = .agg #[.int k x, .int k y, .int k z] ∧ (Lit.int k x).wf = true ∧ (Lit.int k y).wf = true ∧ (Lit.int k z).wf = true := by
  simp only [Value.okWide, ht] at hv
  obtain ⟨cs, rfl, hsz, _⟩ := hv
  obtain ⟨l⟩ := cs
  rw [hC] at hsz
  obtain ⟨fuel, hf⟩ := h
  obtain ⟨xs, n, _, _, _, hlen, hel⟩ := DataW.trod_array ht hf
  match l, hsz with
  | [x0, x1, x2], _ =>
    match xs, hlen with
    | [y0, y1, y2], _ =>
      have h0 := hel 0 (by omega)
      have h1 := hel 1 (by omega)
      have h2 := hel 2 (by omega)
      rw [hc] at h0 h1 h2
      obtain ⟨z0, e0, _, w0⟩ := DataW.trod_int (cs := [x0]) (x := y0) he h0
      obtain ⟨z1, e1, _, w1⟩ := DataW.trod_int (cs := [x1]) (x := y1) he h1
      obtain ⟨z2, e2, _, w2⟩ := DataW.trod_int (cs := [x2]) (x := y2) he h2
      simp only [List.cons.injEq, and_true] at e0 e1 e2
      subst e0 e1 e2
      exact ⟨z0, z1, z2, rfl, w0, w1, w2⟩
theorem wf_u8 {z : Int} (hz : (Lit.int .u8 z).wf = true) : 0 ≤ z ∧ z < 256 := by
  simp [Lit.wf, IntKind.min, IntKind.max, IntKind.signed, IntKind.bits] at hz; omega
theorem wf_u64 {z : Int} (hz : (Lit.int .u64 z).wf = true) : 0 ≤ z ∧ z < 18446744073709551616 := by
  simp [Lit.wf, IntKind.min, IntKind.max, IntKind.signed, IntKind.bits] at hz; omega
theorem wf_i64 {z : Int} (hz : (Lit.int .i64 z).wf = true) : -9223372036854775808 ≤ z ∧ z < 9223372036854775808 := by
  simp [Lit.wf, IntKind.min, IntKind.max, IntKind.signed, IntKind.bits] at hz; omega
end Go.Proofs.Ytclflmpdjlflaaa
