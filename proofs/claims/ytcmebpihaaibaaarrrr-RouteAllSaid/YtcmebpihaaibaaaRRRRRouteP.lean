import Derived.Test.YtcmebpihaaibaaaRRRRRouteA
set_option linter.unusedVariables false
set_option linter.unusedSimpArgs false
namespace Go.Proofs.YtcmebpihaaibaaaRRRR

def tri : Nat → Nat
  | 0 => 0
  | i + 1 => tri i + (i + 1)
theorem way_tri (n s : Int) (j : Nat) : way n s j = (s + (tri j : Int)) % n := by
  induction j with
  | zero => simp [way, tri]
  | succ j ih =>
    simp only [way, tri, ih]
    rw [Int.emod_add_emod]
    congr 1
    push_cast
    omega
def triB (k : Nat) : Bool := (List.range (2 ^ k)).all fun j => (List.range j).all fun i => tri' i % 2 ^ k != tri' j % 2 ^ k
where tri' (i : Nat) : Nat := i * (i + 1) / 2
theorem triB_all : ∀ k, k ≤ 9 → triB k = true := by decide +kernel
theorem tri_is (i : Nat) : tri i = triB.tri' i := by
  have h : 2 * tri i = i * (i + 1) := by
    induction i with
    | zero => rfl
    | succ i ih =>
      simp only [tri, Nat.mul_add, Nat.add_mul] at ih ⊢
      omega
  unfold triB.tri'
  omega
theorem way_ne {k : Nat} (hk : k ≤ 9) {n : Int} (hn : n = 2 ^ k) (s : Int) {i j : Nat} (hij : i < j) (hj : (j : Int) < n) : way n s i ≠ way n s j := by
  subst hn
  have hj' : j < 2 ^ k := by exact_mod_cast hj
  have h := triB_all k hk
  unfold triB at h
  rw [List.all_eq_true] at h
  have h1 := h j (List.mem_range.2 hj')
  rw [List.all_eq_true] at h1
  have h2 := h1 i (List.mem_range.2 hij)
  rw [← tri_is, ← tri_is] at h2
  simp only [bne_iff_ne, ne_eq] at h2
  rw [way_tri, way_tri]
  intro e
  apply h2
  have e2 : ((tri i : Int)) % 2 ^ k = (tri j : Int) % 2 ^ k := by
    have := Int.emod_emod_of_dvd
    have h3 := congrArg (fun x => (x - s) % (2 : Int) ^ k) e
    simp only [Int.emod_sub_emod] at h3
    rwa [show s + (tri i : Int) - s = tri i by omega, show s + (tri j : Int) - s = tri j by omega] at h3
  exact_mod_cast e2
end Go.Proofs.YtcmebpihaaibaaaRRRR
