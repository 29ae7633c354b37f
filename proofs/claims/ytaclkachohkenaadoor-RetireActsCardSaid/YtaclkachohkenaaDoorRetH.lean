import Derived.Test.YtaclkachohkenaaDoorRetG
set_option linter.unusedVariables false
set_option linter.unusedSimpArgs false
namespace Go.Proofs.YtaclkachohkenaaDoor
open Go.RowKit Go.Maps

section
variable {w w' : World} {X M base : Nat} {D th T K sd : Int} {wv rv : Value} {ws rs td : List Int} {lk : Bool} {i p : Nat}

theorem act_any (h : XS w X M base D th T K sd wv rv ws rs td lk i p) (hT : T ≤ 64) :
    Calls Tryd.prog 8 #[.pointer (some ⟨X, 0, none⟩)] w (Ret (.tuple #[(xact D T ws lk i p).1.val, .bool (xact D T ws lk i p).2]) w) := by
  have hcs := h.cs
  simp only [Cs, Nat.zero_add, Nat.reduceAdd] at hcs
  obtain ⟨c0, f0, c1, f1, c2, f2, c3, f3, c4, f4, c5, f5, c6, f6, c7, f7, c8, f8, c9, f9, c10, f10, c11, f11, _⟩ := hcs
  unfold xact
  cases lk with
  | false => exact act_none X w c6
  | true =>
    rw [if_neg (by simp)]
    by_cases hi : (i : Int) < T
    · rw [if_pos hi]
      exact act_load X D T i w c0 c2 c6 c7 (by omega) hi
    · rw [if_neg hi]
      obtain ⟨a, n, c, rfl, hn, hm, hc⟩ := h.wait
      by_cases hp : p < ws.length
      · rw [if_pos hp]
        obtain ⟨b, off, rfl, hcell⟩ := hc (by omega)
        exact act_free X T i (ws[p]?.getD 0) p n c b off w c2 c6 c7 c8 c9 (hcell p (by omega)) hi (by omega)
      · rw [if_neg hp]
        exact act_end X T i p n c a w c2 c6 c7 c8 c9 hi (by omega)

/-- What is kept reads so. -/
theorem XS.restRd (h : XS w X M base D th T K sd wv rv ws rs td lk i p) : Rd w .u64 rv rs := by
  have := h.len
  have := h.rlen
  rcases h.rest with ⟨_, h1⟩ | ⟨_, h1, h2⟩ | ⟨_, h1, h2⟩
  · exact h1.rd (by omega)
  · rw [h1, h2]; exact h.wait
  · rw [h1, h2]; exact Rd.nil _ _ _ _

def ResPost (done : Bool) (rs : List Int) (w : World) (e : Ending) (w' : World) : Prop :=
  ∃ v, e = .returned (.tuple #[v, .bool done]) ∧ Below w.heap.size w w' ∧ Own w.heap.size w' v rs

theorem result_nil (w : World) : Calls Tryd.prog 9 #[.pointer none] w (ResPost false [] w) := by
  go_enter Tryd.func9, Tryd.ntmps9
  go_wp2
  go_returns
  exact ⟨_, rfl, by (repeat' (first | (with_reducible exact Below.refl _ _) | (with_reducible assumption) | (with_reducible refine Below.alloc ?_ ?_ _) | (with_reducible refine Below.drew ?_) | (with_reducible refine bel_drewN ?_ _) | (with_reducible refine Below.setCell ?_ ?_ _) | (with_reducible refine bel_after ?_ (by assumption)) | (exact Below.size (by assumption)) | omega | (simp only [World.size_alloc, World.size_setCell, World.size_drew, size_drewN] at *; omega))), Own.nil _ _⟩
theorem result_none (X : Nat) (w : World) (h : w.cell? ⟨X, 5, none⟩ = some (.bool false)) : Calls Tryd.prog 9 #[.pointer (some ⟨X, 0, none⟩)] w (ResPost false [] w) := by
  go_enter Tryd.func9, Tryd.ntmps9
  go_wp2
  go_returns
  exact ⟨_, rfl, by (repeat' (first | (with_reducible exact Below.refl _ _) | (with_reducible assumption) | (with_reducible refine Below.alloc ?_ ?_ _) | (with_reducible refine Below.drew ?_) | (with_reducible refine bel_drewN ?_ _) | (with_reducible refine Below.setCell ?_ ?_ _) | (with_reducible refine bel_after ?_ (by assumption)) | (exact Below.size (by assumption)) | omega | (simp only [World.size_alloc, World.size_setCell, World.size_drew, size_drewN] at *; omega))), Own.nil _ _⟩

set_option maxHeartbeats 1000000 in
theorem result_any (h : XS w X M base D th T K sd wv rv ws rs td lk i p) (hT : T ≤ 64) :
    Calls Tryd.prog 9 #[.pointer (some ⟨X, 0, none⟩)] w (ResPost (!(xact D T ws lk i p).2) (if (xact D T ws lk i p).2 then [] else rs) w) := by
  have hA := act_any h hT
  have hR := h.restRd
  have hl := h.rlen
  have hl2 := h.len
  have hxs := h.xb
  have hsz := h.sz
  have hcs := h.cs
  simp only [Cs, Nat.zero_add, Nat.reduceAdd] at hcs
  obtain ⟨c0, f0, c1, f1, c2, f2, c3, f3, c4, f4, c5, f5, c6, f6, c7, f7, c8, f8, c9, f9, c10, f10, c11, f11, _⟩ := hcs
  clear c0 f0 c1 f1 c2 f2 c3 f3 c4 f4 f5 c6 f6 c7 f7 c8 f8 c9 f9 c10 f10 f11 h
  generalize xact D T ws lk i p = r at hA
  obtain ⟨⟨k, b, c, o, n⟩, more⟩ := r
  simp only [A5.val] at hA ⊢
  have HR : Hid (Rd w .u64 rv rs) := Lib.hid hR
  clear hR
  cases more with
  | true =>
    go_enter Tryd.func9, Tryd.ntmps9
    go_wp2_with fail
    (with_reducible refine hA.mono ?_)
    rintro e w1 ⟨rfl, hb1⟩
    go_wp2
    go_returns
    exact ⟨_, rfl, by (repeat' (first | (with_reducible exact Below.refl _ _) | (with_reducible assumption) | (with_reducible refine Below.alloc ?_ ?_ _) | (with_reducible refine Below.drew ?_) | (with_reducible refine bel_drewN ?_ _) | (with_reducible refine Below.setCell ?_ ?_ _) | (with_reducible refine bel_after ?_ (by assumption)) | (exact Below.size (by assumption)) | omega | (simp only [World.size_alloc, World.size_setCell, World.size_drew, size_drewN] at *; omega))), Own.nil _ _⟩
  | false =>
    have hXw : X < w.heap.size := by omega
    go_enter Tryd.func9, Tryd.ntmps9
    go_wp2_with fail
    (with_reducible refine hA.mono ?_)
    rintro e w1 ⟨rfl, hb1⟩
    have c11' : (w1.alloc (.cells #[.int .i64 k, .int .u64 b, .int .i64 c, .int .u64 o, .int .u64 n] 32)).cell? ⟨X, 11, none⟩ = some rv := bel_cell (Below.alloc (Below.refl _ _) (Nat.le_refl _) _) (bel_cell hb1 c11)
    have HC : Hid (Calls Tryd.prog 14 #[rv] (w1.alloc (.cells #[.int .i64 k, .int .u64 b, .int .i64 c, .int .u64 o, .int .u64 n] 32)) (Made rs (w1.alloc (.cells #[.int .i64 k, .int .u64 b, .int .i64 c, .int .u64 o, .int .u64 n] 32)))) :=
      Lib.hid (clone_any rv rs _ ((HR.out.below hb1).below (Below.alloc (Below.refl _ _) (Nat.le_refl _) _)) (by omega))
    go_wp2_with fail
    (with_reducible refine HC.out.mono ?_)
    rintro e w2 ⟨v, rfl, hown, hb2⟩
    go_wp2
    go_returns
    have hs := hb1.size
    refine ⟨v, rfl, bel_after (by (repeat' (first | (with_reducible exact Below.refl _ _) | (with_reducible assumption) | (with_reducible refine Below.alloc ?_ ?_ _) | (with_reducible refine Below.drew ?_) | (with_reducible refine bel_drewN ?_ _) | (with_reducible refine Below.setCell ?_ ?_ _) | (with_reducible refine bel_after ?_ (by assumption)) | (exact Below.size (by assumption)) | omega | (simp only [World.size_alloc, World.size_setCell, World.size_drew, size_drewN] at *; omega)))) hb2, ?_⟩
    exact Own.lower (base := (w1.alloc (.cells #[.int .i64 k, .int .u64 b, .int .i64 c, .int .u64 o, .int .u64 n] 32)).heap.size) hown (by simp; omega)
end
end Go.Proofs.YtaclkachohkenaaDoor
