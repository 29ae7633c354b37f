import Derived.Test.YtaclkachohkenaaDoorProg
set_option linter.unusedVariables false
set_option linter.unusedSimpArgs false
namespace Go.Proofs.YtaclkachohkenaaDoor

/-- Is it told? -/
def inB (td : List Int) (u : Int) : Bool := td.contains u
/-- How many of the first i are not told. -/
def untold (td ws : List Int) (i : Nat) : Nat := ((ws.take i).filter (fun u => !inB td u)).length
/-- Those of the first i that are told. -/
def kepts (td ws : List Int) (i : Nat) : List Int := (ws.take i).filter (fun u => inB td u)

theorem take_step {ws : List Int} {i : Nat} (h : i < ws.length) : ws.take (i + 1) = ws.take i ++ [ws.getD i 0] := by
  rw [List.take_succ_eq_append_getElem h]
  simp [List.getElem?_eq_getElem h]
theorem untold_zero (td ws : List Int) : untold td ws 0 = 0 := rfl
theorem kepts_zero (td ws : List Int) : kepts td ws 0 = [] := rfl
theorem untold_step {td ws : List Int} {i : Nat} (h : i < ws.length) : untold td ws (i + 1) = untold td ws i + (if inB td (ws.getD i 0) then 0 else 1) := by
  unfold untold
  rw [take_step h, List.filter_append]
  by_cases k : inB td (ws.getD i 0) <;> simp [k, -List.getD_eq_getElem?_getD]
theorem kepts_step {td ws : List Int} {i : Nat} (h : i < ws.length) : kepts td ws (i + 1) = kepts td ws i ++ (if inB td (ws.getD i 0) then [ws.getD i 0] else []) := by
  unfold kepts
  rw [take_step h, List.filter_append]
  by_cases k : inB td (ws.getD i 0) <;> simp [k, -List.getD_eq_getElem?_getD]
theorem untold_mono {td ws : List Int} {i k : Nat} (h : i ≤ k) : untold td ws i ≤ untold td ws k := by
  unfold untold
  have : ws.take i = (ws.take k).take i := by rw [List.take_take, Nat.min_eq_left h]
  rw [this]
  exact (((ws.take k).take_sublist i).filter _).length_le
theorem untold_end {td ws : List Int} {i : Nat} (h : ws.length ≤ i) : untold td ws i = untold td ws ws.length := by
  unfold untold
  rw [List.take_of_length_le h, List.take_of_length_le (Nat.le_refl _)]
theorem kepts_len (td ws : List Int) (i : Nat) : (kepts td ws i).length ≤ ws.length := by
  unfold kepts
  exact Nat.le_trans (List.length_filter_le _ _) (by simp; omega)
theorem kepts_le (td ws : List Int) (i : Nat) : (kepts td ws i).length ≤ i := by
  unfold kepts
  exact Nat.le_trans (List.length_filter_le _ _) (by simp; omega)

/-- Behind j that were freed the next one to be freed stands at p. -/
def Stands (td ws : List Int) (j p : Nat) : Prop := (p < ws.length ∧ inB td (ws.getD p 0) = false ∧ untold td ws p = j) ∨ (p = ws.length ∧ untold td ws p ≤ j)
theorem Stands.le {td ws : List Int} {j p : Nat} (h : Stands td ws j p) : p ≤ ws.length := by rcases h with h | h <;> omega
theorem Stands.one {td ws : List Int} {j p q : Nat} (h : Stands td ws j p) (k : Stands td ws j q) : p = q := by
  have key : ∀ {p q : Nat}, Stands td ws j p → Stands td ws j q → ¬ p < q := by
    intro p q h k hlt
    have hq := k.le
    rcases h with ⟨h1, h2, h3⟩ | ⟨h1, h2⟩
    · have e := untold_step (td := td) h1
      rw [h2] at e
      have m := untold_mono (td := td) (ws := ws) (i := p + 1) (k := q) hlt
      simp at e
      rcases k with ⟨_, _, k3⟩ | ⟨_, k2⟩ <;> omega
    · omega
  have a := key h k
  have b := key k h
  omega
/-- One freed, and those that are told passed. -/
theorem Stands.more {td ws : List Int} {j p : Nat} (h : Stands td ws j p) (hp : p = ws.length) : Stands td ws (j + 1) p := by
  rcases h with ⟨h1, _⟩ | ⟨h1, h2⟩
  · omega
  · exact .inr ⟨h1, by omega⟩
theorem Stands.under {td ws : List Int} {j p i : Nat} (h : Stands td ws j p) (hi : i ≤ p) : untold td ws i ≤ j := by
  have := untold_mono (td := td) (ws := ws) hi
  rcases h with ⟨_, _, h3⟩ | ⟨_, h2⟩ <;> omega
theorem Stands.less {td ws : List Int} {j p i : Nat} (h : Stands td ws j p) (hi : i < p) (hu : inB td (ws.getD i 0) = false) : untold td ws i < j := by
  have hl := h.le
  have e := untold_step (td := td) (ws := ws) (i := i) (by omega)
  rw [hu] at e
  simp at e
  have := h.under (i := i + 1) hi
  omega
end Go.Proofs.YtaclkachohkenaaDoor
