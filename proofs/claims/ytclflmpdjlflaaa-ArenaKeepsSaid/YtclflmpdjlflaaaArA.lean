import Derived.Test.YtclflmpdjlflaaaMem
import Derived.Test.YtclflmpdjlflaaaArP
import Derived.Deep.OwnRows
set_option linter.unusedVariables false
set_option linter.unusedSimpArgs false
namespace Go.Proofs.Ytclflmpdjlflaaa
open Go.RowKit Go.Maps

/-- How an element of the arena's map reads: nil, or the block and the length of a whole row. -/
def rowR : Value → Option (DataW Unit × List MemPlace)
  | .slice none 0 0 => some (.nil, [])
  | .slice (some ⟨g, 0, none⟩) n c => if n = c then some (.agg [.lit (.int .u64 g), .lit (.int .u64 n)], []) else none
  | _ => none
def encR (g n : Nat) : DataW Unit := .agg [.lit (.int .u64 g), .lit (.int .u64 n)]
theorem rowR_mk (g n : Nat) : rowR (.slice (some ⟨g, 0, none⟩) n n) = some (encR g n, []) := by simp [rowR, encR]
theorem rowR_nil {v : Value} {ps : List MemPlace} (h : rowR v = some (.nil, ps)) : v = .slice none 0 0 := by
  unfold rowR at h
  split at h
  · rfl
  · split at h <;> simp at h
  · cases h
theorem rowR_enc {v : Value} {g n : Nat} {ps : List MemPlace} (h : rowR v = some (encR g n, ps)) : v = .slice (some ⟨g, 0, none⟩) n n := by
  unfold rowR encR at h
  split at h
  · simp at h
  · split at h
    · rename_i e
      subst e
      simp at h
      obtain ⟨⟨h1, h2⟩, _⟩ := h
      have h1' := Int.ofNat.inj h1
      have h2' := Int.ofNat.inj h2
      subst h1' h2'
      rfl
    · cases h
  · cases h

/-- Block g holds just these words. -/
def RowAt (w : World) (g : Nat) (ws : List Int) : Prop := g < w.heap.size ∧ ∀ i, i < ws.length → w.cell? ⟨g, i, none⟩ = some (.int .u64 (ws[i]?.getD 0)) ∧ w.frozen? ⟨g, i, none⟩ = false
theorem RowAt.but {T : Nat → Prop} {w w' : World} {g : Nat} {ws : List Int} (hb : But T w w') (h : RowAt w g ws) (hn : ¬ T g) : RowAt w' g ws :=
  ⟨Nat.lt_of_lt_of_le h.1 hb.size, fun i hi => ⟨hb.cell (h.2 i hi).1 hn, hb.free (h.2 i hi).2 h.1 hn⟩⟩
theorem RowAt.set {w : World} {g : Nat} {ws : List Int} (h : RowAt w g ws) {i : Nat} (hi : i < ws.length) (v : Int) : RowAt (w.setCell ⟨g, i, none⟩ (.int .u64 v)) g (ws.set i v) := by
  refine ⟨by simpa using h.1, fun j hj => ?_⟩
  rw [List.length_set] at hj
  obtain ⟨h1, h2⟩ := h.2 j hj
  obtain ⟨k1, k2⟩ := h.2 i hi
  by_cases e : i = j
  · subst e
    refine ⟨?_, by simpa [go_sem] using h2⟩
    rw [List.getElem?_set_self hi]
    simp [go_sem, k1]
  · refine ⟨?_, by simpa [go_sem] using h2⟩
    rw [List.getElem?_set_ne e]
    simp [go_sem, h1, e]

theorem keyU64 : Keyed Try.prog 24 := int_keyed Try.underlying24
theorem u64_wf {g : Int} (h : U64 g) : (Lit.int .u64 g).wf = true := by
  simp [Lit.wf, IntKind.min, IntKind.max, IntKind.signed, IntKind.bits]; unfold U64 at h; omega
theorem keyOf_u64 {g : Int} (h : U64 g) : keyOf Try.prog 24 (.int .u64 g) = some (.int .u64 g) := keyOf_int_mk Try.underlying24 (u64_wf h)
theorem infoU64 : (Try.prog.info? 24).map (fun i => (i.zero, i.size, i.bytes)) = some (some (.int .u64 0), 1, 8) := by kernel_rfl
theorem zeroRow (w : World) : (zeroValue 28).run Try.prog w = .ok (.slice none 0 0) w := by kernel_rfl

/-- The arena in block A, its map in block B; the rows of its blocks. -/
structure AIn (w : World) (A B : Nat) (rows : Int → Nat) (n : Nat) (D : DataW Unit) (S : Nat → Prop) (st : AR) : Prop where
  cs : Cs w A 0 [.int .i64 st.cells, .int .i64 (totB st.L), .int .i64 st.faults, .int .u64 st.last, .map (some B)]
  mp : w.ownsMap Try.prog 24 rowR B n D
  nn : (n : Int) ≤ st.last
  at1 : ∀ b, U64 b → D.atKey (.int .u64 b) .nil = match getB st.L b with | some ws => encR (rows b) ws.length | none => .nil
  has1 : ∀ b, U64 b → Maps.has D (.int .u64 b) = (getB st.L b).isSome
  row : ∀ b ws, getB st.L b = some ws → RowAt w (rows b) ws
  sep : ∀ b ws, getB st.L b = some ws → rows b ≠ A ∧ rows b ≠ B ∧ S (rows b)
  one : ∀ b c ws us, getB st.L b = some ws → getB st.L c = some us → rows b = rows c → b = c
  ne : A ≠ B
  sa : S A
  sb : S B
  lt : ∀ x, S x → x < w.heap.size
/-- The arena in block A; what it owns is S. -/
def AI (w : World) (A : Nat) (S : Nat → Prop) (st : AR) : Prop := ∃ B rows n D, AIn w A B rows n D S st

theorem AIn.but {T S : Nat → Prop} {w w' : World} {A B : Nat} {rows : Int → Nat} {n : Nat} {D : DataW Unit} {st : AR} (hb : But T w w') (h : AIn w A B rows n D S st) (hn : ∀ x, S x → ¬ T x) : AIn w' A B rows n D S st :=
  ⟨h.cs.but hb (hn _ h.sa), hb.map h.mp (hn _ h.sb), h.nn, h.at1, h.has1, fun b ws e => (h.row b ws e).but hb (hn _ (h.sep b ws e).2.2), h.sep, h.one, h.ne, h.sa, h.sb, fun x hx => Nat.lt_of_lt_of_le (h.lt x hx) hb.size⟩
theorem AI.but {T S : Nat → Prop} {w w' : World} {A : Nat} {st : AR} (hb : But T w w') (h : AI w A S st) (hn : ∀ x, S x → ¬ T x) : AI w' A S st := by
  obtain ⟨B, rows, n, D, h⟩ := h
  exact ⟨B, rows, n, D, h.but hb hn⟩
theorem AI.below {S : Nat → Prop} {w w' : World} {A : Nat} {st : AR} (hb : Below w.heap.size w w') (h : AI w A S st) : AI w' A S st :=
  h.but (T := fun _ => False) (But.of_below hb) (fun _ _ q => q)
theorem AI.lt {S : Nat → Prop} {w : World} {A : Nat} {st : AR} (h : AI w A S st) : ∀ x, S x → x < w.heap.size := by
  obtain ⟨B, rows, n, D, h⟩ := h
  exact h.lt
theorem AI.self {S : Nat → Prop} {w : World} {A : Nat} {st : AR} (h : AI w A S st) : S A := by
  obtain ⟨B, rows, n, D, h⟩ := h
  exact h.sa

/-- What a call on the arena leaves. -/
def ArPost (A : Nat) (S : Nat → Prop) (st : AR) (v : Value) (w : World) (e : Ending) (w' : World) : Prop :=
  e = .returned v ∧ But S w w' ∧ ∃ S', AI w' A S' st ∧ (∀ x, S x → S' x) ∧ ∀ x, S' x → S x ∨ w.heap.size ≤ x

theorem AIn.look {w : World} {A B : Nat} {rows : Int → Nat} {n : Nat} {D : DataW Unit} {S : Nat → Prop} {st : AR} (h : AIn w A B rows n D S st) {b : Int} (hb : U64 b) :
    (Instr.lookup 45 (.map (some B)) (.int .u64 b) true).run Try.prog w = .ok (.tuple #[(match getB st.L b with | some ws => .slice (some ⟨rows b, 0, none⟩) ws.length ws.length | none => .slice none 0 0), .bool (getB st.L b).isSome]) w := by
  obtain ⟨v, ps, hrun, hv⟩ := h.mp.look_ok keyU64 Try.underlying45 (zeroRow w) (zd := .nil) (zp := []) rfl (keyOf_u64 hb)
  rw [h.has1 b hb] at hrun
  rw [h.at1 b hb] at hv
  rw [hrun]
  cases hg : getB st.L b with
  | none =>
    rw [hg] at hv
    rw [rowR_nil hv]
  | some ws =>
    rw [hg] at hv
    rw [rowR_enc hv]
theorem AIn.look1 {w : World} {A B : Nat} {rows : Int → Nat} {n : Nat} {D : DataW Unit} {S : Nat → Prop} {st : AR} (h : AIn w A B rows n D S st) {b : Int} (hb : U64 b) :
    (Instr.lookup 45 (.map (some B)) (.int .u64 b) false).run Try.prog w = .ok (match getB st.L b with | some ws => .slice (some ⟨rows b, 0, none⟩) ws.length ws.length | none => .slice none 0 0) w := by
  obtain ⟨v, ps, hrun, hv⟩ := h.mp.lookup keyU64 Try.underlying45 (zeroRow w) (zd := .nil) (zp := []) rfl (keyOf_u64 hb)
  rw [h.at1 b hb] at hv
  rw [hrun]
  cases hg : getB st.L b with
  | none =>
    rw [hg] at hv
    rw [rowR_nil hv]
  | some ws =>
    rw [hg] at hv
    rw [rowR_enc hv]

/-- A word is put. -/
theorem AIn.put {w : World} {A B : Nat} {rows : Int → Nat} {n : Nat} {D : DataW Unit} {S : Nat → Prop} {st : AR} (h : AIn w A B rows n D S st) {b : Int} {ws : List Int} (hg : getB st.L b = some ws) {i : Int} (hi : 0 ≤ i ∧ i < ws.length) (v : Int) :
    AIn (w.setCell ⟨rows b, i.toNat, none⟩ (.int .u64 v)) A B rows n D S (st.put b i v) := by
  have hb : But (fun x => x = rows b) w (w.setCell ⟨rows b, i.toNat, none⟩ (.int .u64 v)) := (But.refl (fun x => x = rows b) w).setCell (fun _ => rfl) _
  obtain ⟨s1, s2, s3⟩ := h.sep b ws hg
  have key : ∀ c us, getB (setB st.L b i.toNat v) c = some us → ∃ us', getB st.L c = some us' ∧ us = (if c = b then us'.set i.toNat v else us') := by
    intro c us hc
    rw [getB_set] at hc
    split at hc
    · rename_i e
      subst e
      rw [hg] at hc
      simp only [Option.map_some, Option.some.injEq] at hc
      exact ⟨ws, hg, by simp [← hc]⟩
    · rename_i e
      exact ⟨us, hc, by simp [e]⟩
  refine ⟨?_, hb.map h.mp (fun q => s2 q.symm), h.nn, ?_, ?_, ?_, ?_, ?_, h.ne, h.sa, h.sb, fun x hx => by simpa using h.lt x hx⟩
  · have := h.cs.but hb (fun q => s1 q.symm)
    simpa only [AR.put, totB_set] using this
  · intro c hc
    rw [h.at1 c hc]
    simp only [AR.put, getB_set]
    by_cases e : c = b
    · subst e
      simp [hg]
    · simp [e]
  · intro c hc
    rw [h.has1 c hc]
    simp only [AR.put, getB_set]
    by_cases e : c = b
    · subst e
      simp [hg]
    · simp [e]
  · intro c us hc
    obtain ⟨us', h1, rfl⟩ := key c us hc
    by_cases e : c = b
    · subst e
      rw [hg] at h1
      cases h1
      simp only [if_true]
      exact (h.row c ws hg).set (by omega) v
    · simp only [e, if_false]
      exact (h.row c us' h1).but hb (fun q => e (h.one c b us' ws h1 hg q))
  · intro c us hc
    obtain ⟨us', h1, _⟩ := key c us hc
    exact h.sep c us' h1
  · intro c d us vs hc hd hr
    obtain ⟨us', h1, _⟩ := key c us hc
    obtain ⟨vs', h2, _⟩ := key d vs hd
    exact h.one c d us' vs' h1 h2 hr
end Go.Proofs.Ytclflmpdjlflaaa
