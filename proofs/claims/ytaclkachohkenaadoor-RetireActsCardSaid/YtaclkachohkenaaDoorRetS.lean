import Derived.Test.YtaclkachohkenaaDoorRetR
set_option linter.unusedVariables false
set_option linter.unusedSimpArgs false
namespace Go.Proofs.YtaclkachohkenaaDoor
open Go.RowKit Go.Maps

/-- What the document's answer says, beside what x does. -/
def Agree (t : Nat) (gv : Value) (z rs : List Int) (r : A5 × Bool) (w : World) (e : Ending) (w' : World) : Prop :=
  ∃ v want s, e = .returned v ∧ But (fun b => b = t) w w' ∧ Own w.heap.size w' v want ∧ Tape w' t gv z s ∧ s.over = r.2 ∧ s.act = r.1 ∧ (r.2 = false → want = rs) ∧ want.length ≤ 200

theorem agree {t : Nat} {gv : Value} {gs ws td rs : List Int} {D : Int} {T : Nat} {lk : Bool} {n i p : Nat} {w w' : World} {e : Ending} (hst : St gs ws T lk n td rs i p) (hn : n ≤ gs.length) (hT1 : 1 ≤ T) (hws : lk = true → ws ≠ []) (hl : ws.length ≤ 100)
    (h : AllPost t gv (gs.take n) D T lk ws TS.zero w e w') : Agree t gv (gs.take n) rs (xact D T ws lk i p) w e w' := by
  have hzl : (gs.take n).length = n := by simp; omega
  cases lk with
  | false =>
    obtain ⟨v, he, hb, hown, ht⟩ := h
    have := (hst.idle rfl).2.2
    refine ⟨v, ws, _, he, hb, hown, ht, rfl, rfl, fun _ => this.symm, by omega⟩
  | true =>
    obtain ⟨v, he, hb, hown, ht⟩ := h
    have hnl : nload ws T = T := if_neg (hws rfl)
    rw [hnl] at hown ht
    have hlen : (frees (gs.take n) (loads (gs.take n) D TS.zero T).1 ws (loads (gs.take n) D TS.zero T).2 ws.length).1.length ≤ 200 := Nat.le_trans (frees_len _ _ _ _ _) (by omega)
    by_cases h1 : n < T
    · obtain ⟨rfl, rfl, rfl, rfl⟩ := hst.few rfl h1
      have hx : xact D (T : Int) ws true i 0 = (⟨1, D, (3 + 2 * i : Nat), 0, 0⟩, true) := by unfold xact; rw [if_neg (by simp), if_pos (by omega)]
      have hlo := loads_over (gs := gs.take i) (D := D) (i := T) (by omega)
      rw [hzl] at hlo
      rw [hlo, frees_over] at ht
      exact ⟨v, _, _, he, hb, hown, ht, by rw [hx], by rw [hx], fun q => (by rw [hx] at q; cases q), hlen⟩
    · obtain ⟨rfl, rfl, hs, rfl⟩ := hst.done rfl (by omega)
      have hfe := loads_few (gs := gs.take n) (D := D) (i := i) (by omega)
      have htt : (gs.take n).take i = gs.take i := by rw [List.take_take, Nat.min_eq_left (by omega)]
      rw [htt] at hfe
      rw [hfe] at hown ht hlen
      simp only at hown ht hlen
      have hs' : Stands (gs.take i) ws ((gs.take n).length - i) p := by rw [hzl]; exact hs
      by_cases hp : p < ws.length
      · have hx : xact D (i : Int) ws true i p = (⟨6, ws[p]?.getD 0, 0, 0, 0⟩, true) := by unfold xact; rw [if_neg (by simp), if_neg (by omega), if_pos hp]
        rw [frees_end (by omega) hs' hp (Nat.le_refl _)] at ht
        exact ⟨v, _, _, he, hb, hown, ht, by rw [hx], by rw [hx], fun q => (by rw [hx] at q; cases q), hlen⟩
      · have hpe : p = ws.length := by have := hs.le; omega
        have hx : xact D (i : Int) ws true i p = (A5.nil, false) := by unfold xact; rw [if_neg (by simp), if_neg (by omega), if_neg hp]
        have hf := frees_few (ks := ws) (by omega) hs' (i := ws.length) (by omega)
        rw [hf] at hown ht hlen
        exact ⟨v, _, _, he, hb, hown, ht, by rw [hx], by rw [hx], fun _ => by rw [hpe], hlen⟩
end Go.Proofs.YtaclkachohkenaaDoor
