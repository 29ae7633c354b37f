import Derived.Test.YtclflmpdjlflaaaOwn
set_option linter.unusedVariables false
set_option linter.unusedSimpArgs false
namespace Go.Proofs.Ytclflmpdjlflaaa
open Go.RowKit Go.Maps

/-- An arena that is new since w0; what is of X is not the arena's. -/
structure AC (w0 w : World) (A : Nat) (st : AR) (K : Nat) (X : Nat → Prop) : Prop where
  ar : ∃ S, AI w A S st ∧ ∀ x, S x → w0.heap.size ≤ x ∧ ¬ X x
  ok : st.Ok K
  below : Below w0.heap.size w0 w
  xlt : ∀ x, X x → x < w.heap.size

def AcPost (w0 : World) (A : Nat) (st : AR) (K : Nat) (X : Nat → Prop) (v : Value) (w : World) (e : Ending) (w' : World) : Prop :=
  e = .returned v ∧ AC w0 w' A st K X ∧ But (fun x => ¬ X x) w w'

section
variable {w0 w w' : World} {A : Nat} {st : AR} {K : Nat} {X X' : Nat → Prop}

theorem AC.mono (h : AC w0 w A st K X) {K' : Nat} (hk : K ≤ K') : AC w0 w A st K' X := ⟨h.ar, h.ok.mono hk, h.below, h.xlt⟩
/-- The client goes on: it writes what is its own, and makes more. -/
theorem AC.go (h : AC w0 w A st K X) {T : Nat → Prop} (hb : But T w w') (hT : ∀ x, T x → w0.heap.size ≤ x ∧ X x) (h1 : ∀ x, X' x → X x ∨ w.heap.size ≤ x) (h2 : ∀ x, X' x → x < w'.heap.size) : AC w0 w' A st K X' := by
  obtain ⟨S, hS, hx⟩ := h.ar
  refine ⟨⟨S, hS.but hb (fun x q t => (hx x q).2 (hT x t).2), fun x q => ⟨(hx x q).1, fun k => ?_⟩⟩, h.ok, h.below.trans (hb.below h.below.size (fun x t => (hT x t).1)), h2⟩
  rcases h1 x k with k | k
  · exact (hx x q).2 k
  · have := hS.lt x q; omega
theorem AC.later (h : AC w0 w A st K X) (hb : Below w.heap.size w w') : AC w0 w' A st K X :=
  h.go (T := fun _ => False) (But.of_below hb) (fun _ q => q.elim) (fun _ q => .inl q) (fun x q => Nat.lt_of_lt_of_le (h.xlt x q) hb.size)
theorem AC.of_post {v : Value} {e : Ending} {S : Nat → Prop} {st' : AR} {K' : Nat} (h : AC w0 w A st K X) (hx : ∀ x, S x → w0.heap.size ≤ x ∧ ¬ X x) (ok : st'.Ok K') (p : ArPost A S st' v w e w') : AcPost w0 A st' K' X v w e w' := by
  obtain ⟨he, hb, S', hS', h1, h2⟩ := p
  refine ⟨he, ⟨⟨S', hS', fun x q => ?_⟩, ok, h.below.trans (hb.below h.below.size (fun x q => (hx x q).1)), fun x q => Nat.lt_of_lt_of_le (h.xlt x q) hb.size⟩, hb.mono (fun x _ q => (hx x q).2)⟩
  rcases h2 x q with k | k
  · exact hx x k
  · exact ⟨by have := h.below.size; omega, fun q => by have := h.xlt x q; omega⟩

theorem ac_alloc (h : AC w0 w A st K X) (hK : K < 1000000000) (n : Int) : Calls Try.prog 11 #[.pointer (some ⟨A, 0, none⟩), .int .i64 n] w (AcPost w0 A (st.alloc n).2 (K + 1) X (.int .u64 (st.alloc n).1) w) := by
  obtain ⟨S, hS, hx⟩ := h.ar
  exact (alloc_any hS h.ok hK).mono fun e w' p => h.of_post hx (h.ok.alloc n) p
theorem ac_free (h : AC w0 w A st K X) (hK : K < 1000000000) {b : Int} (hb : U64 b) : Calls Try.prog 14 #[.pointer (some ⟨A, 0, none⟩), .int .u64 b] w (AcPost w0 A (st.free b).2 (K + 1) X (.int .i64 (st.free b).1) w) := by
  obtain ⟨S, hS, hx⟩ := h.ar
  exact (free_any hS h.ok hK hb).mono fun e w' p => h.of_post hx (h.ok.free b) p
theorem ac_load (h : AC w0 w A st K X) (hK : K < 1000000000) {b i : Int} (hb : U64 b) (hi : -9223372036854775808 ≤ i ∧ i < 9223372036854775808) :
    Calls Try.prog 13 #[.pointer (some ⟨A, 0, none⟩), .int .u64 b, .int .i64 i] w (AcPost w0 A (st.load b i).2 (K + 1) X (.tuple #[.int .u64 (st.load b i).1.1, .int .i64 (st.load b i).1.2]) w) := by
  obtain ⟨S, hS, hx⟩ := h.ar
  exact (load_any hS h.ok hK hb hi).mono fun e w' p => h.of_post hx (h.ok.load b i) p
/-- A load that is no fault. -/
theorem ac_load_ok (h : AC w0 w A st K X) (hK : K < 1000000000) {b i : Int} (hb : U64 b) (hi : -9223372036854775808 ≤ i ∧ i < 9223372036854775808) (hf : st.fault b i = 0) :
    Calls Try.prog 13 #[.pointer (some ⟨A, 0, none⟩), .int .u64 b, .int .i64 i] w (AcPost w0 A st K X (.tuple #[.int .u64 (st.word b i), .int .i64 0]) w) := by
  obtain ⟨S, hS, hx⟩ := h.ar
  have e : st.load b i = ((st.word b i, 0), st) := by unfold AR.load; rw [if_pos hf]
  have := load_any hS h.ok hK hb hi
  rw [e] at this
  exact this.mono fun e w' p => h.of_post hx h.ok p
theorem ac_store (h : AC w0 w A st K X) (hK : K < 1000000000) {b i v : Int} (hb : U64 b) (hi : -9223372036854775808 ≤ i ∧ i < 9223372036854775808) (hv : U64 v) :
    Calls Try.prog 12 #[.pointer (some ⟨A, 0, none⟩), .int .u64 b, .int .i64 i, .int .u64 v] w (AcPost w0 A (st.store b i v).2 (K + 1) X (.int .i64 (st.store b i v).1) w) := by
  obtain ⟨S, hS, hx⟩ := h.ar
  exact (store_any v hS h.ok hK hb hi).mono fun e w' p => h.of_post hx (h.ok.store b i hv) p
theorem ac_cas (h : AC w0 w A st K X) (hK : K < 1000000000) {b i v : Int} (old : Int) (hb : U64 b) (hi : -9223372036854775808 ≤ i ∧ i < 9223372036854775808) (hv : U64 v) :
    Calls Try.prog 34 #[.pointer (some ⟨A, 0, none⟩), .int .u64 b, .int .i64 i, .int .u64 old, .int .u64 v] w (AcPost w0 A (st.cas b i old v).2 (K + 1) X (.tuple #[.int .u64 (st.cas b i old v).1.1, .int .i64 (st.cas b i old v).1.2]) w) := by
  obtain ⟨S, hS, hx⟩ := h.ar
  exact (cas_any old v hS h.ok hK hb hi).mono fun e w' p => h.of_post hx (h.ok.cas b i old hv) p
theorem ac_add (h : AC w0 w A st K X) (hK : K < 1000000000) {b i d : Int} (hb : U64 b) (hi : -9223372036854775808 ≤ i ∧ i < 9223372036854775808) (hd : U64 d) :
    Calls Try.prog 35 #[.pointer (some ⟨A, 0, none⟩), .int .u64 b, .int .i64 i, .int .u64 d] w (AcPost w0 A (st.add b i d).2 (K + 1) X (.tuple #[.int .u64 (st.add b i d).1.1, .int .i64 (st.add b i d).1.2]) w) := by
  obtain ⟨S, hS, hx⟩ := h.ar
  exact (add_any d hS h.ok hK hb hi hd).mono fun e w' p => h.of_post hx (h.ok.add b i d) p
theorem ac_used (h : AC w0 w A st K X) : Calls Try.prog 15 #[.pointer (some ⟨A, 0, none⟩)] w fun e w' => e = .returned (.int .i64 (totB st.L)) ∧ w = w' := by
  obtain ⟨S, hS, hx⟩ := h.ar
  exact used_any hS
theorem ac_faults (h : AC w0 w A st K X) : Calls Try.prog 19 #[.pointer (some ⟨A, 0, none⟩)] w fun e w' => e = .returned (.int .i64 st.faults) ∧ w = w' := by
  obtain ⟨S, hS, hx⟩ := h.ar
  exact faults_any hS
theorem ac_size (h : AC w0 w A st K X) {b : Int} (hb : U64 b) : Calls Try.prog 16 #[.pointer (some ⟨A, 0, none⟩), .int .u64 b] w fun e w' => e = .returned (.int .i64 (st.size b)) ∧ w = w' := by
  obtain ⟨S, hS, hx⟩ := h.ar
  exact size_any hS hb
end

def AcNew (w0 : World) (c : Int) (X : Nat → Prop) (w : World) (e : Ending) (w' : World) : Prop :=
  ∃ A, e = .returned (.pointer (some ⟨A, 0, none⟩)) ∧ Below w.heap.size w w' ∧ AC w0 w' A (AR.start c) 0 X
theorem ac_new {w0 w : World} {X : Nat → Prop} (c : Int) (hc : 1 ≤ c ∧ c ≤ 65536) (hb : Below w0.heap.size w0 w) (hX : ∀ x, X x → x < w.heap.size) : Calls Try.prog 10 #[.int .i64 c] w (AcNew w0 c X w) := by
  refine (new_yes c hc w).mono fun e w' ⟨A, S, he, hb1, hS, hx⟩ => ⟨A, he, hb1, ⟨S, hS, fun x q => ⟨by have := hx x q; have := hb.size; omega, fun k => by have := hx x q; have := hX x k; omega⟩⟩, AR.Ok.start hc 0, hb.trans (hb1.mono hb.size), fun x q => Nat.lt_of_lt_of_le (hX x q) hb1.size⟩
end Go.Proofs.Ytclflmpdjlflaaa
