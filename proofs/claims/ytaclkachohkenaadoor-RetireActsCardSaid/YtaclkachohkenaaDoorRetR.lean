import Derived.Test.YtaclkachohkenaaDoorRetQ
set_option linter.unusedVariables false
set_option linter.unusedSimpArgs false
namespace Go.Proofs.YtaclkachohkenaaDoor
open Go.RowKit Go.Maps

/-- Where x is behind n answers. -/
structure St (gs ws : List Int) (T : Nat) (lk : Bool) (n : Nat) (td rs : List Int) (i p : Nat) : Prop where
  idle : lk = false → i = 0 ∧ p = 0 ∧ rs = ws
  few : lk = true → n < T → i = n ∧ p = 0 ∧ rs = [] ∧ td = gs.take n
  done : lk = true → T ≤ n → i = T ∧ td = gs.take T ∧ Stands td ws (n - T) p ∧ rs = kepts td ws p

section
variable {w w' : World} {X M base : Nat} {D th K sd : Int} {T : Nat} {wv rv : Value} {gs ws rs td : List Int} {lk : Bool} {i p n : Nat}

def StPost (X M base : Nat) (D th : Int) (T : Nat) (K sd : Int) (wv : Value) (gs ws : List Int) (lk : Bool) (n : Nat) (w : World) (e : Ending) (w' : World) : Prop :=
  e = .returned (.tuple #[]) ∧ But (SX X M base) w w' ∧ ∃ rv td rs i p, XS w' X M base D th T K sd wv rv ws rs td lk i p ∧ St gs ws T lk n td rs i p

theorem takeSt (h : XS w X M base D th T K sd wv rv ws rs td lk i p) (hs : St gs ws T lk n td rs i p) (hT : T ≤ 64) (hn : n < gs.length) (hwf : ∀ u ∈ gs, 0 ≤ u ∧ u < 18446744073709551616) :
    Calls Tryd.prog 11 #[.pointer (some ⟨X, 0, none⟩), .int .u64 (gs[n]?.getD 0)] w (StPost X M base D th T K sd wv gs ws lk (n + 1) w) := by
  have hmem : gs[n]?.getD 0 ∈ gs := by rw [List.getElem?_eq_getElem hn]; exact List.getElem_mem hn
  have hg := hwf _ hmem
  have hT' : (T : Int) ≤ 64 := by omega
  cases lk with
  | false =>
    refine (take_idle h hT' (by simp [xact]) _).mono fun e w1 ⟨he, hb⟩ => ⟨he, sx_below hb, rv, td, rs, i, p, h.below hb, ?_⟩
    exact ⟨hs.idle, fun q => (by cases q), fun q => (by cases q)⟩
  | true =>
    by_cases h1 : n < T
    · obtain ⟨rfl, rfl, rfl, rfl⟩ := hs.few rfl h1
      have htk : gs.take i ++ [gs[i]?.getD 0] = gs.take (i + 1) := by rw [take_step hn, List.getD_eq_getElem?_getD]
      by_cases h2 : i + 1 < T
      · refine (take_load h hT' (by omega) _ hg).mono fun e w1 ⟨he, hb, rv', hx⟩ => ⟨he, hb, rv', _, _, _, _, hx, ?_⟩
        exact ⟨fun q => (by cases q), fun _ _ => ⟨rfl, rfl, rfl, htk⟩, fun _ q => by omega⟩
      · refine (take_last h hT' (by omega) rfl rfl _ hg).mono fun e w1 ⟨he, hb, rv', q, hx, hst⟩ => ⟨he, hb, rv', _, _, _, _, hx, ?_⟩
        have e1 : i + 1 = T := by omega
        exact ⟨fun q => (by cases q), fun _ q => by omega, fun _ _ => ⟨e1, by rw [htk, e1], by rw [e1, Nat.sub_self]; exact hst, rfl⟩⟩
    · obtain ⟨rfl, htd, hst, hrs⟩ := hs.done rfl (by omega)
      by_cases hp : p < ws.length
      · rcases hst with ⟨_, h2, h3⟩ | ⟨h2, _⟩
        · refine (take_free h hT' (by omega) hp (n - i) hrs h2 h3 _).mono fun e w1 ⟨he, hb, rv', q, hx, hst⟩ => ⟨he, hb, rv', _, _, _, _, hx, ?_⟩
          exact ⟨fun q => (by cases q), fun _ q => by omega, fun _ _ => ⟨rfl, htd, by rw [show n + 1 - i = n - i + 1 by omega]; exact hst, rfl⟩⟩
        · omega
      · have hx : (xact D (i : Int) ws true i p).2 = false := by unfold xact; rw [if_neg (by simp), if_neg (by omega), if_neg hp]
        refine (take_idle h hT' hx _).mono fun e w1 ⟨he, hb⟩ => ⟨he, sx_below hb, rv, td, rs, i, p, h.below hb, ?_⟩
        exact ⟨fun q => (by cases q), fun _ q => by omega, fun _ _ => ⟨rfl, htd, by rw [show n + 1 - i = n - i + 1 by omega]; exact hst.more (by have := hst.le; omega), hrs⟩⟩
end
end Go.Proofs.YtaclkachohkenaaDoor
