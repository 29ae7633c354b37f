import Derived.Test.YtaclkachohkenaaDoorRetK
set_option linter.unusedVariables false
set_option linter.unusedSimpArgs false
namespace Go.Proofs.YtaclkachohkenaaDoor
open Go.RowKit Go.Maps

section
variable {w w' : World} {X M base : Nat} {D th T K sd : Int} {wv rv : Value} {ws rs td : List Int} {lk : Bool} {i p : Nat}

def TePost (X M base : Nat) (D th T K sd : Int) (wv rv : Value) (ws rs td : List Int) (i p : Nat) (w : World) (e : Ending) (w' : World) : Prop :=
  e = .returned (.tuple #[]) ∧ But (fun b => b = X) w w' ∧ XS w' X M base D th T K sd wv rv ws rs td true i p
/-- Take of the last free. -/
theorem take_end (h : XS w X M base D th T K sd wv rv ws rs td true i p) (hT : T ≤ 64) (hi : ¬ (i : Int) < T) (hp : p + 1 = ws.length) (g : Int) :
    Calls Tryd.prog 11 #[.pointer (some ⟨X, 0, none⟩), .int .u64 g] w (TePost X M base D th T K sd wv rv ws rs td i (p + 1) w) := by
  have hA := act_any h hT
  have hx : xact D T ws true i p = (⟨6, ws[p]?.getD 0, 0, 0, 0⟩, true) := by unfold xact; rw [if_neg (by simp), if_neg hi, if_pos (by omega)]
  rw [hx] at hA
  generalize ws[p]?.getD 0 = j0 at hA
  clear hx
  simp only [A5.val] at hA
  have HX : Hid (XS w X M base D th T K sd wv rv ws rs td true i p) := Lib.hid h
  have HPL : Hid (p + 1 = ws.length) := Lib.hid hp
  have hpb : p < 1000 := by have := h.len; omega
  clear h hp
  go_enter Tryd.func11, Tryd.ntmps11
  go_upto_region 2 with (first | (go_at_call 8; (with_reducible refine hA.mono ?_); rintro e w1 ⟨rfl, hb1⟩))
  refine wp_world (fun W => Below w.heap.size w W) (by (repeat' (first | (with_reducible exact Below.refl _ _) | (with_reducible assumption) | (with_reducible refine Below.alloc ?_ ?_ _) | (with_reducible refine Below.drew ?_) | (with_reducible refine bel_drewN ?_ _) | (with_reducible refine Below.setCell ?_ ?_ _) | (with_reducible refine bel_after ?_ (by assumption)) | (exact Below.size (by assumption)) | omega | (simp only [World.size_alloc, World.size_setCell, World.size_drew, size_drewN] at *; omega)))) ?_
  clear hb1
  intro W hb
  have h := HX.out.below hb
  have HB : Hid (Below w.heap.size w W) := Lib.hid hb
  have hcs := h.cs
  simp only [Cs, Nat.zero_add, Nat.reduceAdd] at hcs
  obtain ⟨c0, f0, c1, f1, c2, f2, c3, f3, c4, f4, c5, f5, c6, f6, c7, f7, c8, f8, c9, f9, c10, f10, c11, f11, _⟩ := hcs
  have H : Hid (XS W X M base D th T K sd wv rv ws rs td true i p) := Lib.hid h
  clear h hb hA
  go_quiet (fail)
  go_upto_region 6 with fail
  refine wp_world (fun W => But (fun b => b = X) w W ∧ XS W X M base D th T K sd wv rv ws rs td true i (p + 1)) ⟨?_, ?_⟩ ?_
  · exact But.setCell (S := fun b => b = X) ((But.of_below HB.out).drewN nq) (fun _ => rfl) _
  · exact H.out.again (((But.refl (fun b => b = X) W).drewN nq).setCell (fun _ => rfl) _) (by simp [Cs, go_sem, c0, f0, c1, f1, c2, f2, c3, f3, c4, f4, c5, f5, c6, f6, c7, f7, c8, f8, c9, f9, c10, f10, c11, f11])
  clear H HB c0 f0 c1 f1 c2 f2 c3 f3 c4 f4 c5 f5 c6 f6 c7 f7 c8 f8 c9 f9 c10 f10 c11 f11
  rintro W5 ⟨hb5, h⟩
  obtain ⟨q, HQ⟩ : ∃ q, Hid (p + 1 = q) := ⟨_, Lib.hid rfl⟩
  rw [HQ.out] at h
  have HB5 : Hid (But (fun b => b = X) w W5) := Lib.hid hb5
  have hcs := h.cs
  simp only [Cs, Nat.zero_add, Nat.reduceAdd] at hcs
  obtain ⟨c0, f0, c1, f1, c2, f2, c3, f3, c4, f4, c5, f5, c6, f6, c7, f7, c8, f8, c9, f9, c10, f10, c11, f11, _⟩ := hcs
  have H5 : Hid (XS W5 X M base D th T K sd wv rv ws rs td true i q) := Lib.hid h
  clear h hb5
  go_quiet (fail)
  go_wp2_with fail
  refine wp_world (fun W => But (fun b => b = X) w W ∧ XS W X M base D th T K sd wv rv ws rs td true i q) ⟨HB5.out.trans (But.of_below (by (repeat' (first | (with_reducible exact Below.refl _ _) | (with_reducible assumption) | (with_reducible refine Below.alloc ?_ ?_ _) | (with_reducible refine Below.drew ?_) | (with_reducible refine bel_drewN ?_ _) | (with_reducible refine Below.setCell ?_ ?_ _) | (with_reducible refine bel_after ?_ (by assumption)) | (exact Below.size (by assumption)) | omega | (simp only [World.size_alloc, World.size_setCell, World.size_drew, size_drewN] at *; omega))))), H5.out.below (by (repeat' (first | (with_reducible exact Below.refl _ _) | (with_reducible assumption) | (with_reducible refine Below.alloc ?_ ?_ _) | (with_reducible refine Below.drew ?_) | (with_reducible refine bel_drewN ?_ _) | (with_reducible refine Below.setCell ?_ ?_ _) | (with_reducible refine bel_after ?_ (by assumption)) | (exact Below.size (by assumption)) | omega | (simp only [World.size_alloc, World.size_setCell, World.size_drew, size_drewN] at *; omega))))⟩ ?_
  clear c0 f0 c1 f1 c2 f2 c3 f3 c4 f4 c5 f5 c6 f6 c7 f7 c8 f8 c9 f9 c10 f10 c11 f11
  rintro W6 ⟨hb6, h⟩
  have HB6 : Hid (But (fun b => b = X) w W6) := Lib.hid hb6
  have hcs := h.cs
  have hwt := h.wait
  simp only [Cs, Nat.zero_add, Nat.reduceAdd] at hcs
  obtain ⟨a, m, cp, rfl, hm, hm2, hc⟩ := hwt
  obtain ⟨c0, f0, c1, f1, c2, f2, c3, f3, c4, f4, c5, f5, c6, f6, c7, f7, c8, f8, c9, f9, c10, f10, c11, f11, _⟩ := hcs
  have H6 : Hid (XS W6 X M base D th T K sd (.slice a m cp) rv ws rs td true i q) := Lib.hid h
  have hpm : ¬ (q : Int) < (m : Int) := by have := HPL.out; have := HQ.out; omega
  have hpd : decide ((q : Int) < (m : Int)) = false := by simp; omega
  have hpd2 : decide (q < m) = false := by simp; omega
  clear hc hm h hb6
  refine wp_loop_rounds 1 ?_
  rw [rounds_succ]
  go_wp2_with fail
  go_quiet (fail)
  go_wp2
  go_returns
  exact ⟨rfl, HB6.out.trans (But.of_below (by (repeat' (first | (with_reducible exact Below.refl _ _) | (with_reducible assumption) | (with_reducible refine Below.alloc ?_ ?_ _) | (with_reducible refine Below.drew ?_) | (with_reducible refine bel_drewN ?_ _) | (with_reducible refine Below.setCell ?_ ?_ _) | (with_reducible refine bel_after ?_ (by assumption)) | (exact Below.size (by assumption)) | omega | (simp only [World.size_alloc, World.size_setCell, World.size_drew, size_drewN] at *; omega))))), by rw [HQ.out]; exact H6.out.below (by (repeat' (first | (with_reducible exact Below.refl _ _) | (with_reducible assumption) | (with_reducible refine Below.alloc ?_ ?_ _) | (with_reducible refine Below.drew ?_) | (with_reducible refine bel_drewN ?_ _) | (with_reducible refine Below.setCell ?_ ?_ _) | (with_reducible refine bel_after ?_ (by assumption)) | (exact Below.size (by assumption)) | omega | (simp only [World.size_alloc, World.size_setCell, World.size_drew, size_drewN] at *; omega))))⟩
end
end Go.Proofs.YtaclkachohkenaaDoor
