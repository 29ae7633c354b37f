import Derived.Test.YtclflmpdjlflaaaProg
set_option linter.unusedVariables false
set_option linter.unusedSimpArgs false
namespace Go.Proofs.Ytclflmpdjlflaaa

/-- An arena, by definition: the blocks that are there, with their numbers, in the order of their making. -/
structure AR where
  cells : Int
  faults : Int
  last : Int
  L : List (Int × List Int)

def getB : List (Int × List Int) → Int → Option (List Int)
  | [], _ => none
  | p :: r, b => if p.1 = b then some p.2 else getB r b
def totB : List (Int × List Int) → Nat
  | [] => 0
  | p :: r => p.2.length + totB r
def dropB (L : List (Int × List Int)) (b : Int) : List (Int × List Int) := L.filter fun p => !decide (p.1 = b)
def setB (L : List (Int × List Int)) (b : Int) (i : Nat) (v : Int) : List (Int × List Int) := L.map fun p => if p.1 = b then (p.1, p.2.set i v) else p

theorem getB_append (L M : List (Int × List Int)) (b : Int) : getB (L ++ M) b = (getB L b).orElse fun _ => getB M b := by
  induction L with
  | nil => rfl
  | cons p r ih =>
    simp only [List.cons_append, getB]
    split
    · rfl
    · exact ih
theorem getB_drop (L : List (Int × List Int)) (b c : Int) : getB (dropB L b) c = if c = b then none else getB L c := by
  induction L with
  | nil => simp [dropB, getB]
  | cons p r ih =>
    unfold dropB at ih ⊢
    by_cases h : p.1 = b
    · simp only [List.filter_cons, h, decide_true, Bool.not_true, Bool.false_eq_true, if_false, ih]
      by_cases hc : c = b
      · simp [hc]
      · simp only [hc, if_false, getB]
        rw [if_neg (by omega)]
    · simp only [List.filter_cons, h, decide_false, Bool.not_false, if_true, getB, ih]
      by_cases hc : c = b
      · subst hc; simp [h]
      · simp only [hc, if_false]
theorem getB_set (L : List (Int × List Int)) (b : Int) (i : Nat) (v c : Int) : getB (setB L b i v) c = if c = b then (getB L b).map (fun ws => ws.set i v) else getB L c := by
  induction L with
  | nil => simp [setB, getB]
  | cons p r ih =>
    unfold setB at ih ⊢
    by_cases h : p.1 = b
    · simp only [List.map_cons, h, if_true, getB, ih]
      by_cases hc : c = b
      · simp [hc]
      · simp only [hc, if_false]
        rw [if_neg (by omega), if_neg (by omega)]
    · simp only [List.map_cons, h, if_false, getB, ih]
      by_cases hc : c = b
      · subst hc; simp [h]
      · simp only [hc, if_false]
theorem getB_mem {L : List (Int × List Int)} {b : Int} {ws : List Int} (h : getB L b = some ws) : (b, ws) ∈ L := by
  induction L with
  | nil => simp [getB] at h
  | cons p r ih =>
    simp only [getB] at h
    split at h
    · rename_i e
      cases h
      subst e
      exact List.mem_cons_self ..
    · exact List.mem_cons_of_mem _ (ih h)
theorem getB_none {L : List (Int × List Int)} {b : Int} (h : ∀ p ∈ L, p.1 ≠ b) : getB L b = none := by
  induction L with
  | nil => rfl
  | cons p r ih =>
    simp only [getB]
    rw [if_neg (h p (List.mem_cons_self ..))]
    exact ih fun q hq => h q (List.mem_cons_of_mem _ hq)
theorem getB_of_mem {L : List (Int × List Int)} (ha : L.Pairwise (fun p q => p.1 < q.1)) {p : Int × List Int} (h : p ∈ L) : getB L p.1 = some p.2 := by
  induction L with
  | nil => simp at h
  | cons q r ih =>
    obtain ⟨h1, h2⟩ := List.pairwise_cons.1 ha
    simp only [getB]
    rcases List.mem_cons.1 h with rfl | h
    · rw [if_pos rfl]
    · have := h1 p h
      rw [if_neg (by omega)]
      exact ih h2 h
theorem totB_append (L M : List (Int × List Int)) : totB (L ++ M) = totB L + totB M := by
  induction L with
  | nil => simp [totB]
  | cons p r ih => simp only [List.cons_append, totB, ih]; omega
theorem totB_set (L : List (Int × List Int)) (b : Int) (i : Nat) (v : Int) : totB (setB L b i v) = totB L := by
  induction L with
  | nil => rfl
  | cons p r ih =>
    unfold setB at ih ⊢
    simp only [List.map_cons, totB, ih]
    split <;> simp
theorem totB_mem {L : List (Int × List Int)} {p : Int × List Int} (h : p ∈ L) : p.2.length ≤ totB L := by
  induction L with
  | nil => simp at h
  | cons q r ih =>
    simp only [totB]
    rcases List.mem_cons.1 h with rfl | h
    · omega
    · have := ih h; omega
theorem dropB_none {L : List (Int × List Int)} {b : Int} (h : ∀ p ∈ L, p.1 ≠ b) : dropB L b = L := by
  unfold dropB
  rw [List.filter_eq_self]
  intro p hp
  simp [h p hp]
theorem totB_drop {L : List (Int × List Int)} {b : Int} (ha : L.Pairwise (fun p q => p.1 < q.1)) {ws : List Int} (h : getB L b = some ws) : totB (dropB L b) + ws.length = totB L := by
  induction L with
  | nil => simp [getB] at h
  | cons q r ih =>
    obtain ⟨h1, h2⟩ := List.pairwise_cons.1 ha
    simp only [getB] at h
    split at h
    · rename_i e
      cases h
      have hd : dropB r b = r := dropB_none fun p hp => by have := h1 p hp; omega
      have : dropB (q :: r) b = r := by
        have hq : dropB (q :: r) b = dropB r b := by
          unfold dropB
          simp [List.filter_cons, e]
        rw [hq, hd]
      rw [this]
      simp only [totB]; omega
    · rename_i e
      have hq : dropB (q :: r) b = q :: dropB r b := by
        unfold dropB
        simp [List.filter_cons, e]
      rw [hq]
      have := ih h2 h
      simp only [totB]; omega

def AR.alloc (st : AR) (n : Int) : Int × AR :=
  if n < 1 ∨ st.cells - totB st.L < n then (0, st) else (st.last + 1, { st with last := st.last + 1, L := st.L ++ [(st.last + 1, List.replicate n.toNat 0)] })
def AR.miss (st : AR) : AR := { st with faults := st.faults + 1 }
def AR.free (st : AR) (b : Int) : Int × AR := match getB st.L b with
  | none => (13, st.miss)
  | some _ => (0, { st with L := dropB st.L b })
def AR.fault (st : AR) (b i : Int) : Int := match getB st.L b with
  | none => 13
  | some ws => if 0 ≤ i ∧ i < ws.length then 0 else 14
def AR.word (st : AR) (b i : Int) : Int := ((getB st.L b).getD [])[i.toNat]?.getD 0
def AR.put (st : AR) (b i v : Int) : AR := { st with L := setB st.L b i.toNat v }
def AR.load (st : AR) (b i : Int) : (Int × Int) × AR := if st.fault b i = 0 then ((st.word b i, 0), st) else ((0, st.fault b i), st.miss)
def AR.store (st : AR) (b i v : Int) : Int × AR := if st.fault b i = 0 then (0, st.put b i v) else (st.fault b i, st.miss)
def AR.cas (st : AR) (b i old new : Int) : (Int × Int) × AR :=
  if st.fault b i = 0 then ((st.word b i, 0), if st.word b i = old then st.put b i new else st) else ((0, st.fault b i), st.miss)
def AR.add (st : AR) (b i d : Int) : (Int × Int) × AR :=
  if st.fault b i = 0 then ((st.word b i, 0), st.put b i ((st.word b i + d) % 18446744073709551616)) else ((0, st.fault b i), st.miss)
def AR.size (st : AR) (b : Int) : Int := ((getB st.L b).getD []).length
def AR.start (cells : Int) : AR := ⟨cells, 0, 0, []⟩

abbrev U64 (v : Int) : Prop := 0 ≤ v ∧ v < 18446744073709551616

/-- An arena that may be, behind at most K acts. -/
structure AR.Ok (st : AR) (K : Nat) : Prop where
  cells : 1 ≤ st.cells ∧ st.cells ≤ 65536
  faults : 0 ≤ st.faults ∧ st.faults ≤ K
  last : 0 ≤ st.last ∧ st.last ≤ K
  each : ∀ p ∈ st.L, 1 ≤ p.1 ∧ p.1 ≤ st.last ∧ 1 ≤ p.2.length ∧ ∀ u ∈ p.2, U64 u
  apart : st.L.Pairwise (fun p q => p.1 < q.1)
  room : (totB st.L : Int) ≤ st.cells

theorem AR.Ok.mono {st : AR} {K K' : Nat} (h : st.Ok K) (hk : K ≤ K') : st.Ok K' :=
  ⟨h.cells, ⟨h.faults.1, by have := h.faults.2; omega⟩, ⟨h.last.1, by have := h.last.2; omega⟩, h.each, h.apart, h.room⟩
theorem AR.Ok.start {cells : Int} (h : 1 ≤ cells ∧ cells ≤ 65536) (K : Nat) : (AR.start cells).Ok K :=
  ⟨h, ⟨Int.le_refl _, by simp [AR.start]⟩, ⟨Int.le_refl _, by simp [AR.start]⟩, by simp [AR.start], by simp [AR.start], by simp [AR.start, totB]; omega⟩
theorem AR.Ok.miss {st : AR} {K : Nat} (h : st.Ok K) : st.miss.Ok (K + 1) :=
  ⟨h.cells, ⟨by have := h.faults.1; simp only [AR.miss]; omega, by have := h.faults.2; simp only [AR.miss]; omega⟩, ⟨h.last.1, by have := h.last.2; simp only [AR.miss]; omega⟩, h.each, h.apart, h.room⟩
theorem AR.Ok.alloc {st : AR} {K : Nat} (h : st.Ok K) (n : Int) : (st.alloc n).2.Ok (K + 1) := by
  unfold AR.alloc
  split
  · exact h.mono (by omega)
  · rename_i hn
    have hl := h.last
    have hc := h.room
    refine ⟨h.cells, ⟨h.faults.1, by have := h.faults.2; simp only; omega⟩, ⟨by simp only; omega, by simp only; omega⟩, ?_, ?_, ?_⟩
    · intro p hp
      rcases List.mem_append.1 hp with q | q
      · obtain ⟨h1, h2, h3⟩ := h.each p q
        exact ⟨h1, by simp only; omega, h3⟩
      · have := List.mem_singleton.1 q
        subst this
        refine ⟨by simp only; omega, by simp only; omega, by simp; omega, fun u hu => ?_⟩
        have := (List.mem_replicate.1 hu).2
        unfold U64; omega
    · rw [List.pairwise_append]
      refine ⟨h.apart, by simp, fun p hp q hq => ?_⟩
      have := List.mem_singleton.1 hq
      subst this
      have := (h.each p hp).2.1
      simp only; omega
    · simp only [totB_append, totB, List.length_replicate]
      omega
theorem AR.Ok.free {st : AR} {K : Nat} (h : st.Ok K) (b : Int) : (st.free b).2.Ok (K + 1) := by
  unfold AR.free
  split
  · exact h.miss
  · rename_i ws hws
    have h2 := totB_drop h.apart hws
    exact ⟨h.cells, ⟨h.faults.1, by have := h.faults.2; simp only; omega⟩, ⟨h.last.1, by have := h.last.2; simp only; omega⟩, fun p hp => h.each p (List.mem_filter.1 hp).1, h.apart.filter _, by have := h.room; simp only; omega⟩
theorem AR.Ok.put {st : AR} {K : Nat} (h : st.Ok K) (b i : Int) {v : Int} (hv : U64 v) : (st.put b i v).Ok K := by
  refine ⟨h.cells, h.faults, h.last, ?_, ?_, ?_⟩
  · intro p hp
    obtain ⟨q, hq, rfl⟩ := List.mem_map.1 hp
    obtain ⟨h1, h2, h3, h4⟩ := h.each q hq
    by_cases e : q.1 = b
    · simp only [e, if_true]
      refine ⟨by omega, by simp only [AR.put]; omega, by simpa using h3, fun u hu => ?_⟩
      rcases List.mem_or_eq_of_mem_set hu with k | k
      · exact h4 u k
      · rw [k]; exact hv
    · simp only [e, if_false]
      exact ⟨h1, h2, h3, h4⟩
  · have := h.apart
    simp only [AR.put, setB]
    rw [List.pairwise_map]
    refine this.imp fun {p q} hpq => ?_
    split <;> split <;> exact hpq
  · simp only [AR.put, totB_set]; exact h.room
theorem AR.Ok.word {st : AR} {K : Nat} (h : st.Ok K) (b i : Int) : U64 (st.word b i) := by
  unfold AR.word
  cases hg : getB st.L b with
  | none => simp [U64]
  | some ws =>
    simp only [Option.getD_some]
    have h4 := (h.each _ (getB_mem hg)).2.2.2
    by_cases hi : i.toNat < ws.length
    · rw [List.getElem?_eq_getElem hi]
      exact h4 _ (List.getElem_mem hi)
    · rw [List.getElem?_eq_none (by omega)]
      simp [U64]
theorem AR.Ok.load {st : AR} {K : Nat} (h : st.Ok K) (b i : Int) : (st.load b i).2.Ok (K + 1) := by
  unfold AR.load
  split
  · exact h.mono (by omega)
  · exact h.miss
theorem AR.Ok.store {st : AR} {K : Nat} (h : st.Ok K) (b i : Int) {v : Int} (hv : U64 v) : (st.store b i v).2.Ok (K + 1) := by
  unfold AR.store
  split
  · exact (h.put b i hv).mono (by omega)
  · exact h.miss
theorem AR.Ok.cas {st : AR} {K : Nat} (h : st.Ok K) (b i old : Int) {v : Int} (hv : U64 v) : (st.cas b i old v).2.Ok (K + 1) := by
  unfold AR.cas
  split
  · simp only
    split
    · exact (h.put b i hv).mono (by omega)
    · exact h.mono (by omega)
  · exact h.miss
theorem AR.Ok.add {st : AR} {K : Nat} (h : st.Ok K) (b i d : Int) : (st.add b i d).2.Ok (K + 1) := by
  unfold AR.add
  split
  · exact (h.put b i ⟨by omega, by omega⟩).mono (by omega)
  · exact h.miss
/-- No block has a number that was not yet given. -/
theorem AR.Ok.fresh {st : AR} {K : Nat} (h : st.Ok K) {b : Int} (hb : st.last < b ∨ b < 1) : getB st.L b = none :=
  getB_none fun p hp => by have := h.each p hp; omega
end Go.Proofs.Ytclflmpdjlflaaa
