import Derived.Test.YtclflmpdjlflaaaLib
import Derived.Maps.OwnSet
import Derived.Deep.RegionHeld3
import Derived.Deep.CutRange
import Derived.Deep.CutBlock
set_option linter.unusedVariables false
set_option linter.unusedSimpArgs false
namespace Go.Proofs.Ytclflmpdjlflaaa
open Go.RowKit

/-- w' is w but for the blocks of S; it may be longer. -/
structure But (S : Nat → Prop) (w w' : World) : Prop where
  os : w'.os = w.os
  tape : w'.tape = w.tape
  output : w'.output = w.output
  size : w.heap.size ≤ w'.heap.size
  block : ∀ k, k < w.heap.size → ¬ S k → w'.heap[k]? = w.heap[k]?
theorem But.refl (S : Nat → Prop) (w : World) : But S w w := ⟨rfl, rfl, rfl, Nat.le_refl _, fun _ _ _ => rfl⟩
theorem But.trans {S : Nat → Prop} {a b c : World} (h : But S a b) (k : But S b c) : But S a c :=
  ⟨k.os.trans h.os, k.tape.trans h.tape, k.output.trans h.output, Nat.le_trans h.size k.size, fun i hi hn => (k.block i (Nat.lt_of_lt_of_le hi h.size) hn).trans (h.block i hi hn)⟩
/-- The step behind may write what is new in it. -/
theorem But.then {S S' : Nat → Prop} {a b c : World} (h : But S a b) (k : But S' b c) (hs : ∀ i, i < a.heap.size → S' i → S i) : But S a c :=
  ⟨k.os.trans h.os, k.tape.trans h.tape, k.output.trans h.output, Nat.le_trans h.size k.size, fun i hi hn => (k.block i (Nat.lt_of_lt_of_le hi h.size) (fun q => hn (hs i hi q))).trans (h.block i hi hn)⟩
theorem But.mono {S S' : Nat → Prop} {a b : World} (h : But S a b) (hs : ∀ i, i < a.heap.size → S i → S' i) : But S' a b :=
  ⟨h.os, h.tape, h.output, h.size, fun i hi hn => h.block i hi (fun q => hn (hs i hi q))⟩
theorem But.of_below {S : Nat → Prop} {a b : World} (h : Below a.heap.size a b) : But S a b := ⟨h.os, h.tape, h.output, h.size, fun i hi _ => h.block i hi⟩
theorem But.of_grown {S : Nat → Prop} {a b : World} {row : Option Nat} (h : a.grownBy b row) (hr : ∀ k, row = some k → k < a.heap.size → S k) : But S a b :=
  ⟨h.os, h.tape, h.output, h.size, fun i hi hn => h.block i hi (fun e => hn (hr i e.symm hi))⟩
theorem But.alloc {S : Nat → Prop} {a w : World} (h : But S a w) (o : Obj) : But S a (w.alloc o) :=
  h.then (S' := fun _ => False) (But.of_below ⟨rfl, rfl, rfl, by simp, fun k hk => Below.heap_alloc _ _ _ hk⟩) (fun _ _ q => q.elim)
theorem But.drew {S : Nat → Prop} {a w : World} (h : But S a w) : But S a w.drew := ⟨h.os, h.tape, h.output, h.size, h.block⟩
theorem But.drewN {S : Nat → Prop} {a w : World} (h : But S a w) (n : Nat) : But S a (w.drewN n) := ⟨h.os, h.tape, h.output, h.size, h.block⟩
theorem But.setCell {S : Nat → Prop} {a w : World} (h : But S a w) {p : Addr} (hp : p.block < a.heap.size → S p.block) (u : Value) : But S a (w.setCell p u) :=
  ⟨h.os, h.tape, h.output, by have := h.size; simp only [World.size_setCell]; exact this, fun i hi hn => by
    rw [Below.heap_setCell _ _ _ _ (fun e => hn (by subst e; exact hp hi))]
    exact h.block i hi hn⟩
/-- All of S is new for an elder world. -/
theorem But.below {S : Nat → Prop} {B : Nat} {a b : World} (h : But S a b) (hB : B ≤ a.heap.size) (hs : ∀ i, S i → B ≤ i) : Below B a b :=
  ⟨h.os, h.tape, h.output, h.size, fun i hi => h.block i (by omega) (fun q => by have := hs i q; omega)⟩
theorem But.cell {S : Nat → Prop} {a b : World} (h : But S a b) {p : Addr} {v : Value} (hc : a.cell? p = some v) (hn : ¬ S p.block) : b.cell? p = some v :=
  (World.cell?_of_block (h.block p.block (World.block_lt_of_cell? a p hc) hn)).trans hc
theorem But.free {S : Nat → Prop} {a b : World} (h : But S a b) {p : Addr} (hf : a.frozen? p = false) (hl : p.block < a.heap.size) (hn : ¬ S p.block) : b.frozen? p = false :=
  (World.frozen?_of_block (h.block p.block hl hn)).trans hf
theorem But.row {S : Nat → Prop} {w w' : World} (hb : But S w w') {base n : Nat} {e : TypeId} {size : Nat} {v : Value} {xs : List Value} (h : w.ownsRow base e size v n xs) (hn : ∀ g, v.ownBlock = some g → ¬ S g) : w'.ownsRow base e size v n xs := by
  refine ⟨h.1, ?_⟩
  rcases h.2 with k | ⟨g, cap, cur, rfl, hg, hh, r⟩
  · exact .inl k
  · refine .inr ⟨g, cap, cur, rfl, hg, ?_, r⟩
    rw [hb.block g (Array.getElem?_eq_some_iff.1 hh).1 (hn g (by simp [Value.ownBlock]))]
    exact hh
theorem But.map {S : Nat → Prop} {w w' : World} (hb : But S w w') {P : Program} {k : TypeId} {R : Value → Option (DataW Unit × List MemPlace)} {b n : Nat} {D : DataW Unit} (h : w.ownsMap P k R b n D) (hn : ¬ S b) : w'.ownsMap P k R b n D := by
  have hlt := h.lt
  obtain ⟨es, clock, he, F, hs, hD⟩ := h
  exact ⟨es, clock, (hb.block b hlt hn).trans he, F, hs, hD⟩

/-- The cells of block b from i on. -/
def Cs (w : World) (b : Nat) : Nat → List Value → Prop
  | _, [] => True
  | i, v :: r => w.cell? ⟨b, i, none⟩ = some v ∧ w.frozen? ⟨b, i, none⟩ = false ∧ Cs w b (i + 1) r
theorem Cs.but {S : Nat → Prop} {w w' : World} (hb : But S w w') {b : Nat} (hn : ¬ S b) : ∀ {l : List Value} {i : Nat}, Cs w b i l → Cs w' b i l
  | [], _, _ => trivial
  | v :: r, i, ⟨h1, h2, h3⟩ => ⟨hb.cell h1 hn, hb.free h2 (World.block_lt_of_cell? w _ h1) hn, Cs.but hb hn h3⟩
theorem Cs.below {B : Nat} {w w' : World} (hb : Below B w w') {b : Nat} (hn : b < B) : ∀ {l : List Value} {i : Nat}, Cs w b i l → Cs w' b i l
  | [], _, _ => trivial
  | v :: r, i, ⟨h1, h2, h3⟩ => ⟨(hb.cell (p := ⟨b, i, none⟩) hn).trans h1, (hb.frozen (p := ⟨b, i, none⟩) hn).trans h2, Cs.below hb hn h3⟩
theorem Cs.lt {w : World} {b i : Nat} {v : Value} {r : List Value} (h : Cs w b i (v :: r)) : b < w.heap.size := World.block_lt_of_cell? w _ h.1
/-- A block that was laid just ahead. -/
theorem Cs.new {w w1 : World} {cs : Array Value} {t : TypeId} (hb : Below (w.alloc (.cells cs t)).heap.size (w.alloc (.cells cs t)) w1) (l : List Value) (hl : cs.toList = l) : Cs w1 w.heap.size 0 l := by
  have key : ∀ (r : List Value) (i : Nat), cs.toList.drop i = r → Cs w1 w.heap.size i r := by
    intro r
    induction r with
    | nil => intro i _; exact trivial
    | cons v r ih =>
      intro i hi
      have hget : cs[i]? = some v := by
        have := congrArg (fun l : List Value => l[0]?) hi
        simpa using this
      refine ⟨slot_cell hb i v hget, slot_free hb i, ih (i + 1) ?_⟩
      have := congrArg List.tail hi
      simpa using this
  exact key l 0 (by simpa using hl)

theorem Rd.but {S : Nat → Prop} {w w' : World} (hb : But S w w') {k : IntKind} {v : Value} {xs : List Int} (h : Rd w k v xs) (hn : ∀ g, v.ownBlock = some g → ¬ S g) : Rd w' k v xs := by
  obtain ⟨a, n, c, h1, h2, h3, h4⟩ := h
  refine ⟨a, n, c, h1, h2, h3, fun hp => ?_⟩
  obtain ⟨b, off, rfl, hc⟩ := h4 hp
  subst h1
  exact ⟨b, off, rfl, fun j hj => hb.cell (hc j hj) (hn b (by simp [Value.ownBlock]))⟩
/-- A slice of no number reads so wherever it leads. -/
theorem Rd.nil (w : World) (k : IntKind) (a : Option Addr) (c : Nat) : Rd w k (.slice a 0 c) [] := ⟨a, 0, c, rfl, rfl, by omega, fun h => absurd h (by omega)⟩
/-- The world under a name, with what is to be known of it. -/
theorem wp_world {P : Program} {c : Code} {Q : Exit → Act → World → Prop} {a : Act} {w : World} (F : World → Prop) (hF : F w) (h : ∀ W, F W → c.wp P Q a W) : c.wp P Q a w := h w hF
end Go.Proofs.Ytclflmpdjlflaaa
