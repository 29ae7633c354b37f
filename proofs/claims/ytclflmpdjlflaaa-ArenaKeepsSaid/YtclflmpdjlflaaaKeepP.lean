import Derived.Test.YtclflmpdjlflaaaArP
set_option linter.unusedVariables false
set_option linter.unusedSimpArgs false
namespace Go.Proofs.Ytclflmpdjlflaaa

def kz (zs : List Int) (j : Nat) : Int := (zs[j]?.getD 0) % 16 + 1
theorem kz_bd (zs : List Int) (j : Nat) : 1 ≤ kz zs j ∧ kz zs j ≤ 16 := by unfold kz; omega
def kL (zs : List Int) (i : Nat) : List (Int × List Int) := (List.range i).map fun (j : Nat) => ((j : Int) + 1, List.replicate (kz zs j).toNat 0)
def kst (zs : List Int) (i : Nat) : AR := ⟨10000, 0, i, kL zs i⟩
def nums (i : Nat) : List Int := (List.range i).map fun (j : Nat) => (j : Int) + 1
theorem nums_len (i : Nat) : (nums i).length = i := by simp [nums]
theorem nums_succ (i : Nat) : nums (i + 1) = nums i ++ [(i : Int) + 1] := by simp [nums, List.range_succ]
theorem nums_at {i j : Nat} (h : j < i) : (nums i)[j]?.getD 0 = (j : Int) + 1 := by simp [nums, h]
theorem kL_succ (zs : List Int) (i : Nat) : kL zs (i + 1) = kL zs i ++ [((i : Int) + 1, List.replicate (kz zs i).toNat 0)] := by simp [kL, List.range_succ]
theorem kL_tot (zs : List Int) (i : Nat) : totB (kL zs i) ≤ 16 * i := by
  induction i with
  | zero => simp [kL, totB]
  | succ i ih =>
    have := kz_bd zs i
    rw [kL_succ, totB_append]
    simp only [totB, List.length_replicate]
    omega
theorem kst_alloc (zs : List Int) (i : Nat) (h : i < 100) : (kst zs i).alloc (kz zs i) = ((i : Int) + 1, kst zs (i + 1)) := by
  have h1 := kL_tot zs i
  have h2 := kz_bd zs i
  unfold AR.alloc
  rw [if_neg (by simp only [kst]; omega)]
  simp only [kst, kL_succ]
  simp
theorem kL_get {zs : List Int} {m j : Nat} (h : j < m) : getB (kL zs m) ((j : Int) + 1) = some (List.replicate (kz zs j).toNat 0) := by
  induction m with
  | zero => omega
  | succ m ih =>
    rw [kL_succ, getB_append]
    by_cases e : j < m
    · rw [ih e]; rfl
    · obtain rfl : j = m := by omega
      have hn : getB (kL zs j) ((j : Int) + 1) = none := getB_none fun p hp => by
        obtain ⟨x, hx, rfl⟩ := List.mem_map.1 hp
        have := List.mem_range.1 hx
        simp only; omega
      rw [hn]
      simp [getB]

section
variable {zs : List Int} {m k o : Nat} {c v : Int}

/-- Behind the store. -/
def kS (zs : List Int) (m k : Nat) (c v : Int) : AR := (kst zs m).put ((k : Int) + 1) c v
def kW (zs : List Int) (k j : Nat) (c v : Int) : List Int := if j = k then (List.replicate (kz zs j).toNat 0).set c.toNat v else List.replicate (kz zs j).toNat 0
theorem kW_len (zs : List Int) (k j : Nat) (c v : Int) : ((kW zs k j c v).length : Int) = kz zs j := by
  have := kz_bd zs j
  unfold kW
  split <;> simp <;> omega
theorem kS_get {j : Nat} (h : j < m) : getB (kS zs m k c v).L ((j : Int) + 1) = some (kW zs k j c v) := by
  have h2 := kL_get (zs := zs) h
  unfold kS AR.put
  simp only [kst, getB_set]
  unfold kW
  by_cases e : j = k
  · subst e
    simp [h2]
  · rw [if_neg (by omega), if_neg e, h2]
theorem kst_store (hk : k < m) (hc : 0 ≤ c ∧ c < kz zs k) : (kst zs m).store ((k : Int) + 1) c v = (0, kS zs m k c v) := by
  have h2 := kL_get (zs := zs) hk
  have hf : (kst zs m).fault ((k : Int) + 1) c = 0 := by
    unfold AR.fault
    simp only [kst, h2]
    rw [if_pos (by simp; omega)]
  unfold AR.store
  rw [if_pos hf]
  rfl
theorem kS_fault {j : Nat} {i : Int} (h : j < m) (hi : 0 ≤ i ∧ i < kz zs j) : (kS zs m k c v).fault ((j : Int) + 1) i = 0 := by
  have := kW_len zs k j c v
  unfold AR.fault
  rw [kS_get h]
  simp only
  rw [if_pos (by omega)]
theorem kS_word {j : Nat} {i : Int} (h : j < m) (hi : 0 ≤ i ∧ i < kz zs j) (hc : 0 ≤ c) : (kS zs m k c v).word ((j : Int) + 1) i = if j = k ∧ i = c then v else 0 := by
  unfold AR.word
  rw [kS_get h]
  simp only [Option.getD_some, kW]
  by_cases e : j = k
  · subst e
    simp only [if_true, true_and]
    by_cases e2 : i = c
    · subst e2
      rw [List.getElem?_set_self (by simp; omega)]
      simp
    · rw [List.getElem?_set_ne (by omega)]
      simp [e2, List.getElem?_replicate]
      split <;> simp
  · simp [e, List.getElem?_replicate]
    split <;> simp

/-- Behind the frees. -/
def kF (zs : List Int) (m k o : Nat) (c v : Int) : AR := { kS zs m k c v with L := dropB (kS zs m k c v).L ((o : Int) + 1) }
theorem kS_free (ho : o < m) : (kS zs m k c v).free ((o : Int) + 1) = (0, kF zs m k o c v) := by
  unfold AR.free
  rw [kS_get ho]
  rfl
theorem kF_free : (kF zs m k o c v).free ((o : Int) + 1) = (13, (kF zs m k o c v).miss) := by
  unfold AR.free
  have : getB (kF zs m k o c v).L ((o : Int) + 1) = none := by
    unfold kF
    simp only [getB_drop, if_true]
  rw [this]
/-- One more block. -/
def kG (zs : List Int) (m k o : Nat) (c v : Int) : AR := ⟨10000, 1, (m : Int) + 1, (kF zs m k o c v).L ++ [((m : Int) + 1, [0])]⟩
theorem kF_alloc (hm : m < 100) : (kF zs m k o c v).miss.alloc 1 = ((m : Int) + 1, kG zs m k o c v) := by
  have h1 := kL_tot zs m
  have h2 : totB (kF zs m k o c v).L ≤ totB (kL zs m) := by
    unfold kF kS AR.put kst
    simp only
    have : ∀ L : List (Int × List Int), totB (dropB L ((o : Int) + 1)) ≤ totB L := by
      intro L
      induction L with
      | nil => simp [dropB, totB]
      | cons p r ih =>
        unfold dropB at ih ⊢
        simp only [List.filter_cons]
        split <;> simp only [totB] <;> omega
    refine Nat.le_trans (this _) ?_
    rw [totB_set]
    exact Nat.le_refl _
  unfold AR.alloc
  rw [if_neg (by simp only [AR.miss, kF, kS, AR.put, kst] at *; omega)]
  rfl
theorem kG_get {j : Nat} (h : j < m) : getB (kG zs m k o c v).L ((j : Int) + 1) = if j = o then none else some (kW zs k j c v) := by
  unfold kG kF
  simp only [getB_append, getB_drop]
  by_cases e : j = o
  · subst e
    simp [getB]
    omega
  · rw [if_neg (by omega), if_neg e, kS_get h]
    rfl
theorem kG_load_o (ho : o < m) (i : Int) : (kG zs m k o c v).load ((o : Int) + 1) i = ((0, 13), (kG zs m k o c v).miss) := by
  have hf : (kG zs m k o c v).fault ((o : Int) + 1) i = 13 := by
    unfold AR.fault
    rw [kG_get ho, if_pos rfl]
  unfold AR.load
  rw [hf, if_neg (by omega)]
theorem kG_load_same (hk : k < m) (hko : k = o) (i : Int) : (kG zs m k o c v).miss.load ((k : Int) + 1) i = ((0, 13), (kG zs m k o c v).miss.miss) := by
  have hf : (kG zs m k o c v).miss.fault ((k : Int) + 1) i = 13 := by
    unfold AR.fault AR.miss
    simp only
    rw [kG_get hk, if_pos hko]
  unfold AR.load
  rw [hf, if_neg (by omega)]
theorem kG_load_other (hk : k < m) (hko : k ≠ o) (hc : 0 ≤ c ∧ c < kz zs k) : (kG zs m k o c v).miss.load ((k : Int) + 1) c = ((v, 0), (kG zs m k o c v).miss) := by
  have hl := kW_len zs k k c v
  have hf : (kG zs m k o c v).miss.fault ((k : Int) + 1) c = 0 := by
    unfold AR.fault AR.miss
    simp only
    rw [kG_get hk, if_neg hko]
    simp only
    rw [if_pos (by omega)]
  have hw : (kG zs m k o c v).miss.word ((k : Int) + 1) c = v := by
    unfold AR.word AR.miss
    simp only
    rw [kG_get hk, if_neg hko]
    simp only [Option.getD_some, kW, if_true]
    rw [List.getElem?_set_self (by simp; omega)]
    rfl
  unfold AR.load
  rw [if_pos hf, hw]
theorem kG_store_o {st : AR} (ho : getB st.L ((o : Int) + 1) = none) (i u : Int) : st.store ((o : Int) + 1) i u = (13, st.miss) := by
  have hf : st.fault ((o : Int) + 1) i = 13 := by
    unfold AR.fault
    rw [ho]
  unfold AR.store
  rw [hf, if_neg (by omega)]
end
end Go.Proofs.Ytclflmpdjlflaaa
