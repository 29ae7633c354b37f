import Derived.Test.YtaclkachohkenaaDoorRetO
set_option linter.unusedVariables false
set_option linter.unusedSimpArgs false
namespace Go.Proofs.YtaclkachohkenaaDoor

abbrev TS.zero : TS := ⟨0, false, A5.nil⟩
theorem loads_few {gs : List Int} {D : Int} : ∀ {i : Nat}, i ≤ gs.length → loads gs D TS.zero i = (gs.take i, ⟨i, false, A5.nil⟩)
  | 0, _ => rfl
  | i + 1, h => by
    have ih := loads_few (gs := gs) (D := D) (i := i) (by omega)
    simp only [loads, ih]
    rw [step_more (by omega), List.take_succ_eq_append_getElem (by omega), List.getElem?_eq_getElem (by omega)]
    rfl
theorem loads_over {gs : List Int} {D : Int} : ∀ {i : Nat}, gs.length < i → (loads gs D TS.zero i).2 = ⟨gs.length, true, ⟨1, D, (3 + 2 * gs.length : Nat), 0, 0⟩⟩
  | 0, h => by omega
  | i + 1, h => by
    by_cases e : gs.length = i
    · have ih := loads_few (gs := gs) (D := D) (i := i) (by omega)
      simp only [loads, ih]
      rw [step_end (by omega), e]
    · have ih := loads_over (gs := gs) (D := D) (i := i) (by omega)
      simp only [loads, ih]
      rw [step_over]
theorem frees_over {gs td ks : List Int} {j : Nat} {a : A5} : ∀ i : Nat, (frees gs td ks ⟨j, true, a⟩ i).2 = ⟨j, true, a⟩
  | 0 => rfl
  | i + 1 => by
    simp only [frees]
    split
    · exact frees_over i
    · rw [frees_over i, step_over]
theorem frees_few {gs td ks : List Int} {T p : Nat} (hT : T ≤ gs.length) (hs : Stands td ks (gs.length - T) p) : ∀ {i : Nat}, i ≤ p → frees gs td ks ⟨T, false, A5.nil⟩ i = (kepts td ks i, ⟨T + untold td ks i, false, A5.nil⟩)
  | 0, _ => rfl
  | i + 1, h => by
    have hl := hs.le
    have hi : i < ks.length := by omega
    have ih := frees_few hT hs (i := i) (by omega)
    simp only [frees, ih]
    rw [kepts_step hi, untold_step hi, List.getD_eq_getElem?_getD]
    cases hin : inB td (ks[i]?.getD 0) with
    | true => simp
    | false =>
      have := hs.less (i := i) (by omega) (by rw [List.getD_eq_getElem?_getD]; exact hin)
      simp only [Bool.false_eq_true, ↓reduceIte, List.append_nil]
      rw [step_more (by omega)]
      simp only [Nat.add_assoc]
theorem frees_end {gs td ks : List Int} {T p : Nat} (hT : T ≤ gs.length) (hs : Stands td ks (gs.length - T) p) : ∀ {i : Nat}, p < i → i ≤ ks.length → (frees gs td ks ⟨T, false, A5.nil⟩ i).2 = ⟨gs.length, true, ⟨6, ks[p]?.getD 0, 0, 0, 0⟩⟩
  | 0, h, _ => by omega
  | i + 1, h, hl => by
    by_cases e : p = i
    · subst e
      rcases hs with ⟨h1, h2, h3⟩ | ⟨h1, _⟩
      · have ih := frees_few (i := p) hT (.inl ⟨h1, h2, h3⟩) (Nat.le_refl _)
        simp only [frees, ih]
        rw [List.getD_eq_getElem?_getD] at h2
        have e : T + (gs.length - T) = gs.length := by omega
        rw [h2, h3, e]
        simp only [Bool.false_eq_true, ↓reduceIte]
        rw [step_end (Nat.lt_irrefl _)]
      · omega
    · simp only [frees]
      have ih := frees_end hT hs (i := i) (by omega) (by omega)
      split
      · exact ih
      · rw [ih, step_over]
end Go.Proofs.YtaclkachohkenaaDoor
