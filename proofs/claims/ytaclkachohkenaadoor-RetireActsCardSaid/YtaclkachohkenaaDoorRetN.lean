import Derived.Test.YtaclkachohkenaaDoorRetM
set_option linter.unusedVariables false
set_option linter.unusedSimpArgs false
namespace Go.Proofs.YtaclkachohkenaaDoor
open Go.RowKit Go.Maps

theorem XB.below {w w' : World} {X M B0 : Nat} {D th T K sd : Int} {wv : Value} {ws : List Int} {lk : Bool} {n : Nat} {G : DataW Unit} {ds : List Int} (h : XB w X M B0 D th T K sd wv ws lk n G ds) (hb : Below w.heap.size w w') : XB w' X M B0 D th T K sd wv ws lk n G ds :=
  have b0 : But (fun _ => False) w w' := But.of_below hb
  ⟨h.cs.but b0 id, h.own.but b0 (fun _ _ q => q), b0.map h.mp id, h.at1, h.ne, h.wx, h.xb, h.mb⟩
theorem XB.app {w w' : World} {X M B0 : Nat} {D th T K sd : Int} {wv wv' : Value} {ws ws' : List Int} {lk : Bool} {n : Nat} {G : DataW Unit} {ds : List Int} (h : XB w X M B0 D th T K sd wv ws lk n G ds)
    (hb : But (fun b => b = X ∨ wv.ownBlock = some b) w w')
    (hcs : Cs w' X 0 [.int .u64 D, .int .i64 th, .int .i64 T, .int .i64 K, .int .u64 sd, .bool true, .bool lk, .int .i64 0, wv', .int .i64 0, .map (some M), .slice none 0 0])
    (hown : Own B0 w' wv' ws') (hx : ∀ g, wv'.ownBlock = some g → g ≠ X ∧ g ≠ M) : XB w' X M B0 D th T K sd wv' ws' lk n G ds :=
  ⟨hcs, hown, hb.map h.mp (fun q => by rcases q with q | q; exact h.ne q.symm; exact (h.wx M q).2 rfl), h.at1, h.ne, hx, h.xb, h.mb⟩
theorem XB.done {w w' : World} {X M B0 : Nat} {D th T K sd : Int} {wv rv : Value} {ws rs : List Int} {lk0 lk : Bool} {n : Nat} {G : DataW Unit} (h : XB w X M B0 D th T K sd wv ws lk0 n G ws)
    (hb : But (fun b => b = X) w w')
    (hcs : Cs w' X 0 [.int .u64 D, .int .i64 th, .int .i64 T, .int .i64 K, .int .u64 sd, .bool true, .bool lk, .int .i64 (0 : Nat), wv, .int .i64 (0 : Nat), .map (some M), rv])
    (hr : (lk = true ∧ rv = .slice none 0 0 ∧ rs = []) ∨ (lk = false ∧ rv = wv ∧ rs = ws) ∨ (lk = false ∧ rv = .slice none 0 0 ∧ rs = [])) (hl : ws.length ≤ 100) (hwf : ∀ u ∈ ws, 0 ≤ u ∧ u < 18446744073709551616) :
    XS w' X M w'.heap.size D th T K sd wv rv ws rs [] lk 0 0 := by
  have hX := h.cs.lt
  have hM := h.mp.lt
  have hs := hb.size
  have hown : Own B0 w' wv ws := h.own.but hb (fun g hg q => (h.wx g hg).1 q)
  refine ⟨hcs, hown.rd (by omega), fun g hg => ⟨(hown.base g hg).2, h.wx g hg⟩, ⟨n, G, hb.map h.mp (fun q => h.ne q.symm), fun u hu => by rw [h.at1 u hu]; simp [inB]⟩, ?_, h.ne, by omega, by omega, Nat.le_refl _, hwf, hl, ?_⟩
  · rcases hr with ⟨a, b, c⟩ | q | q
    · exact .inl ⟨a, by rw [b, c]; exact Own.nil _ _⟩
    · exact .inr (.inl q)
    · exact .inr (.inr q)
  · rcases hr with ⟨_, _, c⟩ | ⟨_, _, c⟩ | ⟨_, _, c⟩ <;> simp [c]

theorem XS.rebase {w : World} {X M base base' : Nat} {D th T K sd : Int} {wv rv : Value} {ws rs td : List Int} {lk : Bool} {i p : Nat} (h : XS w X M base D th T K sd wv rv ws rs td lk i p) (hb : base ≤ base') (hs : base' ≤ w.heap.size) (hr : lk = true → rv = .slice none 0 0) :
    XS w X M base' D th T K sd wv rv ws rs td lk i p := by
  have h1 := h.xb
  have h2 := h.mb
  refine ⟨h.cs, h.wait, fun g hg => ⟨by have := (h.wvn g hg).1; omega, (h.wvn g hg).2⟩, h.mp, ?_, h.ne, by omega, by omega, hs, h.wf, h.len, h.rlen⟩
  rcases h.rest with ⟨h0, h1⟩ | h1 | h1
  · have hn := hr h0
    subst hn
    rcases h1.2 with ⟨_, hx⟩ | ⟨_, _, _, hv, _⟩
    · have hrs : rs = [] := by simpa using hx
      subst hrs
      exact .inl ⟨h0, Own.nil _ _⟩
    · cases hv
  · exact .inr (.inl h1)
  · exact .inr (.inr h1)
theorem XS.but {S : Nat → Prop} {w w' : World} {X M base : Nat} {D th T K sd : Int} {wv rv : Value} {ws rs td : List Int} {lk : Bool} {i p : Nat} (h : XS w X M base D th T K sd wv rv ws rs td lk i p) (hb : But S w w') (hX : ¬ S X) (hM : ¬ S M) (hw : ∀ g, wv.ownBlock = some g → ¬ S g)
    (hr : ∀ g, rv.ownBlock = some g → ¬ S g) : XS w' X M base D th T K sd wv rv ws rs td lk i p := by
  obtain ⟨n, G, hG, hat⟩ := h.mp
  refine ⟨h.cs.but hb hX, h.wait.but hb hw, h.wvn, ⟨n, G, hb.map hG hM, hat⟩, ?_, h.ne, h.xb, h.mb, Nat.le_trans h.sz hb.size, h.wf, h.len, h.rlen⟩
  rcases h.rest with ⟨h0, h1⟩ | h1 | h1
  · exact .inl ⟨h0, h1.but hb hr⟩
  · exact .inr (.inl h1)
  · exact .inr (.inr h1)

def NewPost (D th T K sd : Int) (ws : List Int) (lk : Bool) (w : World) (e : Ending) (w' : World) : Prop :=
  ∃ X M wv rv, e = .returned (.pointer (some ⟨X, 0, none⟩)) ∧ Below w.heap.size w w' ∧ XS w' X M w'.heap.size D th T K sd wv rv ws (if lk then [] else ws) [] lk 0 0 ∧ w.heap.size ≤ X ∧ w.heap.size ≤ M ∧ (lk = true → rv = .slice none 0 0)
end Go.Proofs.YtaclkachohkenaaDoor
