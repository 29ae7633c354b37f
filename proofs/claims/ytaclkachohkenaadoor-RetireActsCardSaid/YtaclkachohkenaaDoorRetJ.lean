import Derived.Test.YtaclkachohkenaaDoorRetI
import Derived.Deep.RegionLaw
set_option linter.unusedVariables false
set_option linter.unusedSimpArgs false
namespace Go.Proofs.YtaclkachohkenaaDoor
open Go.RowKit Go.Maps

theorem zeroInt (w : World) : (zeroValue 3).run Tryd.prog w = .ok (.int .i64 0) w := by kernel_rfl
def atOf (w : World) (X : Nat) : Nat := match w.cell? ⟨X, 9, none⟩ with | some v => (intOf v).toNat | none => 0
/-- The loop: q are passed. -/
def LP (X M base : Nat) (D th T K sd : Int) (wv : Value) (ws td : List Int) (i j q : Nat) (w wr : World) : Prop :=
  But (SX X M base) w wr ∧ ∃ rv, XS wr X M base D th T K sd wv rv ws (kepts td ws q) td true i q ∧ untold td ws q = j
def TlPost (X M base : Nat) (D th T K sd : Int) (wv : Value) (ws td : List Int) (i j : Nat) (w : World) (e : Ending) (w' : World) : Prop :=
  e = .returned (.tuple #[]) ∧ But (SX X M base) w w' ∧ ∃ rv q, XS w' X M base D th T K sd wv rv ws (kepts td ws q) td true i q ∧ Stands td ws j q

theorem grow_but {base k : Nat} {wr w4 : World} {o : Obj} {row : Option Nat} (hg : ((wr.drewN k).alloc o).grownBy w4 row) (hr : ∀ g, row = some g → base ≤ g) : But (fun b => base ≤ b) wr w4 :=
  (((But.refl (fun b => base ≤ b) wr).drewN k).alloc o).then (But.of_grown (S := fun b => base ≤ b) hg (fun g hg _ => hr g hg)) (fun _ _ q => q)

section
variable {w w' : World} {X M base : Nat} {D th T K sd : Int} {wv rv : Value} {ws rs td : List Int} {lk : Bool} {i p : Nat}

set_option maxHeartbeats 4000000 in
theorem take_last (h : XS w X M base D th T K sd wv rv ws rs td true i p) (hT : T ≤ 64) (hi : (i : Int) + 1 = T) (hp : p = 0) (hrs : rs = []) (g : Int) (hg : 0 ≤ g ∧ g < 18446744073709551616) :
    Calls Tryd.prog 11 #[.pointer (some ⟨X, 0, none⟩), .int .u64 g] w (TlPost X M base D th T K sd wv ws (td ++ [g]) (i + 1) 0 w) := by
  have HP : Hid (p = 0) := Lib.hid hp
  have HRS : Hid (rs = []) := Lib.hid hrs
  clear hp hrs
  have hiT : (i : Int) < T := by omega
  have HI : Hid ((i : Int) + 1 = T) := Lib.hid hi
  clear hi
  have hA := act_any h hT
  have hx : xact D T ws true i p = (⟨1, D, (3 + 2 * i : Nat), 0, 0⟩, true) := by unfold xact; rw [if_neg (by simp), if_pos (by omega)]
  rw [hx] at hA
  generalize ((3 + 2 * i : Nat) : Int) = j at hA
  clear hx
  simp only [A5.val] at hA
  have HX : Hid (XS w X M base D th T K sd wv rv ws rs td true i p) := Lib.hid h
  have hkey := keyOf_u64 hg
  clear h
  go_enter Tryd.func11, Tryd.ntmps11
  go_upto_region 2 with (first | (go_at_call 8; (with_reducible refine hA.mono ?_); rintro e w1 ⟨rfl, hb1⟩))
  refine wp_world (fun W => Below w.heap.size w W) (by (repeat' (first | (with_reducible exact Below.refl _ _) | (with_reducible assumption) | (with_reducible refine Below.alloc ?_ ?_ _) | (with_reducible refine Below.drew ?_) | (with_reducible refine bel_drewN ?_ _) | (with_reducible refine Below.setCell ?_ ?_ _) | (with_reducible refine bel_after ?_ (by assumption)) | (exact Below.size (by assumption)) | omega | (simp only [World.size_alloc, World.size_setCell, World.size_drew, size_drewN] at *; omega)))) ?_
  clear hb1
  intro W hb
  have h := HX.out.below hb
  have HB : Hid (Below w.heap.size w W) := Lib.hid hb
  have hcs := h.cs
  simp only [Cs, Nat.zero_add, Nat.reduceAdd] at hcs
  obtain ⟨c0, f0, c1, f1, c2, f2, c3, f3, c4, f4, c5, f5, c6, f6, c7, f7, c8, f8, c9, f9, c10, f10, c11, f11, _⟩ := hcs
  obtain ⟨n, G, hG, hat⟩ := h.mp
  have H : Hid (XS W X M base D th T K sd wv rv ws rs td true i p) := Lib.hid h
  have HAT : Hid (∀ u ∈ ws, G.atKey (.int .u64 u) (.lit (.int .i64 0)) = .lit (.int .i64 (if inB td u then 0 else 1))) := Lib.hid hat
  clear h hat hb hA
  have hi2 : (i : Int) < T := by omega
  go_quiet (fail)
  go_upto_region 4 with (first | (at_delete; refine wpList_delete_own _ rfl _ _ 41 22 rfl 3 keyU64 Tryd.underlying41 _ M n G rfl hG _ _ rfl hkey ?_; intro w3 hown3 hturn3))
  refine wp_world (Loaded X M base D th T K sd wv rv ws rs (td ++ [g]) i p w) ⟨?_, ?_⟩ ?_
  · exact ((sx_below HB.out).drewN nq).then (But.of_grown (S := fun b => b = M) hturn3.grown (fun k hk _ => (Option.some.inj hk).symm)) (fun i _ q => .inr (.inl q))
  · exact (H.out.below (bel_drewN (Below.refl _ _) nq)).told hturn3.grown HAT.out hown3
  clear hown3 hturn3 HAT H HB hG c0 f0 c1 f1 c2 f2 c3 f3 c4 f4 c5 f5 c6 f6 c7 f7 c8 f8 c9 f9 c10 f10 c11 f11
  rintro W4 ⟨hb4, h⟩
  have HB4 : Hid (But (SX X M base) w W4) := Lib.hid hb4
  have hcs := h.cs
  simp only [Cs, Nat.zero_add, Nat.reduceAdd] at hcs
  obtain ⟨c0, f0, c1, f1, c2, f2, c3, f3, c4, f4, c5, f5, c6, f6, c7, f7, c8, f8, c9, f9, c10, f10, c11, f11, _⟩ := hcs
  have H4 : Hid (XS W4 X M base D th T K sd wv rv ws rs (td ++ [g]) true i p) := Lib.hid h
  clear h hb4
  go_upto_region 6 with fail
  refine wp_world (Loaded X M base D th T K sd wv rv ws rs (td ++ [g]) (i + 1) p w) ⟨?_, ?_⟩ ?_
  · exact HB4.out.setCell (fun _ => .inl rfl) _
  · exact H4.out.again ((But.refl (fun b => b = X) W4).setCell (fun _ => rfl) _) (by simp [Cs, go_sem, c0, f0, c1, f1, c2, f2, c3, f3, c4, f4, c5, f5, c6, f6, c7, f7, c8, f8, c9, f9, c10, f10, c11, f11])
  clear H4 HB4 c0 f0 c1 f1 c2 f2 c3 f3 c4 f4 c5 f5 c6 f6 c7 f7 c8 f8 c9 f9 c10 f10 c11 f11
  rintro W5 ⟨hb5, h⟩
  have HB5 : Hid (But (SX X M base) w W5) := Lib.hid hb5
  have hcs := h.cs
  simp only [Cs, Nat.zero_add, Nat.reduceAdd] at hcs
  obtain ⟨c0, f0, c1, f1, c2, f2, c3, f3, c4, f4, c5, f5, c6, f6, c7, f7, c8, f8, c9, f9, c10, f10, c11, f11, _⟩ := hcs
  have H5 : Hid (XS W5 X M base D th T K sd wv rv ws rs (td ++ [g]) true (i + 1) p) := Lib.hid h
  clear h hb5
  have hi3 : ¬ (i : Int) + 1 < T := by have := HI.out; omega
  go_quiet (fail)
  go_wp2_with fail
  go_loopw [103] (fun _ wx => ∃ q : Nat, q ≤ ws.length ∧ LP X M base D th T K sd wv ws (td ++ [g]) (i + 1) (0) q w wx) (fun _ wx => ws.length - atOf wx X)
  case atStart => exact ⟨0, Nat.zero_le _, HB5.out.trans (But.of_below (by (repeat' (first | (with_reducible exact Below.refl _ _) | (with_reducible assumption) | (with_reducible refine Below.alloc ?_ ?_ _) | (with_reducible refine Below.drew ?_) | (with_reducible refine bel_drewN ?_ _) | (with_reducible refine Below.setCell ?_ ?_ _) | (with_reducible refine bel_after ?_ (by assumption)) | (exact Below.size (by assumption)) | omega | (simp only [World.size_alloc, World.size_setCell, World.size_drew, size_drewN] at *; omega))))), rv, (by have h := H5.out.below (w' := W5.drewN nq) (by (repeat' (first | (with_reducible exact Below.refl _ _) | (with_reducible assumption) | (with_reducible refine Below.alloc ?_ ?_ _) | (with_reducible refine Below.drew ?_) | (with_reducible refine bel_drewN ?_ _) | (with_reducible refine Below.setCell ?_ ?_ _) | (with_reducible refine bel_after ?_ (by assumption)) | (exact Below.size (by assumption)) | omega | (simp only [World.size_alloc, World.size_setCell, World.size_drew, size_drewN] at *; omega)))); rw [HP.out, HRS.out] at h; exact h), rfl⟩
  case round =>
    obtain ⟨q, hq, hb6, rv6, h, hj⟩ := hrel
    have hcs := h.cs
    have HCS : Hid (Cs wr X 0 [.int .u64 D, .int .i64 th, .int .i64 T, .int .i64 K, .int .u64 sd, .bool true, .bool true, .int .i64 (i + 1 : Nat), wv, .int .i64 q, .map (some M), rv6]) := Lib.hid hcs
    simp only [Cs, Nat.zero_add, Nat.reduceAdd] at hcs
    obtain ⟨c0, f0, c1, f1, c2, f2, c3, f3, c4, f4, c5, f5, c6, f6, c7, f7, c8, f8, c9, f9, c10, f10, c11, f11, _⟩ := hcs
    have H6 : Hid (XS wr X M base D th T K sd wv rv6 ws (kepts (td ++ [g]) ws q) (td ++ [g]) true (i + 1) q) := Lib.hid h
    have HB6 : Hid (But (SX X M base) w wr) := Lib.hid hb6
    have HJ : Hid (untold (td ++ [g]) ws q = 0) := Lib.hid hj
    have HQ : Hid (q ≤ ws.length) := Lib.hid hq
    obtain ⟨a, m, cp, rfl, hm, hm2, hc⟩ := h.wait
    have hwv := h.wvn
    have hxb := h.xb
    have hmb := h.mb
    have hbs := h.sz
    have hmp := h.mp
    have hwf := h.wf
    have hat9 : atOf wr X = q := by simp [atOf, c9, intOf]
    have HM : Hid (ws.length = m) := Lib.hid hm
    clear h hb6 hj
    by_cases hlt : q < ws.length
    · obtain ⟨b, off, rfl, hcell⟩ := hc (by omega)
      have d := hcell q (by omega)
      have hmem : ws[q]?.getD 0 ∈ ws := by rw [List.getElem?_eq_getElem hlt]; exact List.getElem_mem hlt
      obtain ⟨n, G, hG, hat⟩ := hmp
      have hu := hwf _ hmem
      have hval := hat _ hmem
      have hbx : b < base ∧ b ≠ X ∧ b ≠ M := hwv b rfl
      clear hc hcell hat hwf hwv
      generalize hug : ws[q]?.getD 0 = u at *
      have HU : Hid (ws[q]?.getD 0 = u) := Lib.hid hug
      clear hug
      have hrun : ∀ k, (Instr.lookup 41 (.map (some M)) (.int .u64 u) false).run Tryd.prog (wr.drewN k) = .ok (.int .i64 (if inB (td ++ [g]) u then 0 else 1)) (wr.drewN k) := by
        intro k
        obtain ⟨c, hrun, hat, _⟩ := World.ownsMap.lookup_int (w := wr.drewN k) hG keyU64 Tryd.underlying41 Tryd.underlying3 (zeroInt _) (keyOf_u64 hu)
        rw [hval] at hat
        injection hat with e
        injection e with e1 e2
        rw [hrun, e2]
      clear hG hval hmem
      have hqm : (q : Int) < (m : Int) := by omega
      have hq0 : (0 : Int) ≤ (q : Int) := by omega
      cases hin : inB (td ++ [g]) u with
      | false =>
        rw [hin] at hrun
        simp only [Bool.false_eq_true, ↓reduceIte] at hrun
        have HIN : Hid (inB (td ++ [g]) u = false) := Lib.hid hin
        clear hin
        go_wp2_with fail
        go_quiet (fail)
        go_wp2
        go_returns
        refine ⟨rfl, HB6.out.trans (But.of_below (by (repeat' (first | (with_reducible exact Below.refl _ _) | (with_reducible assumption) | (with_reducible refine Below.alloc ?_ ?_ _) | (with_reducible refine Below.drew ?_) | (with_reducible refine bel_drewN ?_ _) | (with_reducible refine Below.setCell ?_ ?_ _) | (with_reducible refine bel_after ?_ (by assumption)) | (exact Below.size (by assumption)) | omega | (simp only [World.size_alloc, World.size_setCell, World.size_drew, size_drewN] at *; omega))))), _, q, H6.out.below (by (repeat' (first | (with_reducible exact Below.refl _ _) | (with_reducible assumption) | (with_reducible refine Below.alloc ?_ ?_ _) | (with_reducible refine Below.drew ?_) | (with_reducible refine bel_drewN ?_ _) | (with_reducible refine Below.setCell ?_ ?_ _) | (with_reducible refine bel_after ?_ (by assumption)) | (exact Below.size (by assumption)) | omega | (simp only [World.size_alloc, World.size_setCell, World.size_drew, size_drewN] at *; omega)))), .inl ⟨hlt, ?_, HJ.out⟩⟩
        have := HIN.out
        rw [← HU.out] at this
        exact this
      | true =>
        rw [hin] at hrun
        simp only [↓reduceIte] at hrun
        have HIN : Hid (inB (td ++ [g]) u = true) := Lib.hid hin
        clear hin
        have hown : Own base wr rv6 (kepts (td ++ [g]) ws q) := by
          rcases H6.out.rest with ⟨_, h1⟩ | ⟨h0, _⟩ | ⟨h0, _⟩
          · exact h1
          · cases h0
          · cases h0
        have hkl := kepts_le (td ++ [g]) ws q
        have hwl := H6.out.len
        have HRB : Hid (∀ g, rv6.ownBlock = some g → base ≤ g) := Lib.hid fun g hg => (hown.base g hg).1
        have HO : Hid (∀ k o, Own base ((wr.drewN k).alloc o) rv6 (kepts (td ++ [g]) ws q)) := Lib.hid fun k o => (show Own base (wr.drewN k) rv6 (kepts (td ++ [g]) ws q) from hown).alloc o
        have HKA : Hid (∀ k o, ((wr.drewN k).alloc o).cell? ⟨X, 11, none⟩ = some rv6 ∧ ((wr.drewN k).alloc o).cell? ⟨X, 8, none⟩ = some (.slice (some ⟨b, off, none⟩) m cp) ∧ ((wr.drewN k).alloc o).cell? ⟨X, 9, none⟩ = some (.int .i64 q) ∧ ((wr.drewN k).alloc o).cell? ⟨b, off + q, none⟩ = some (.int .u64 u) ∧ ((wr.drewN k).alloc o).frozen? ⟨X, 11, none⟩ = false) := Lib.hid fun k o =>
          have B : Below (wr.drewN k).heap.size (wr.drewN k) ((wr.drewN k).alloc o) := Below.alloc (Below.refl _ _) (Nat.le_refl _) _
          ⟨bel_cell B c11, bel_cell B c8, bel_cell B c9, bel_cell B d, (B.frozen (p := ⟨X, 11, none⟩) (by simp only [size_drewN]; omega)).trans f11⟩
        have HK : Hid (∀ k o w4, ((wr.drewN k).alloc o).grownBy w4 rv6.ownBlock → w4.cell? ⟨X, 11, none⟩ = some rv6 ∧ w4.cell? ⟨X, 8, none⟩ = some (.slice (some ⟨b, off, none⟩) m cp) ∧ w4.cell? ⟨X, 9, none⟩ = some (.int .i64 q) ∧ w4.cell? ⟨b, off + q, none⟩ = some (.int .u64 u) ∧ w4.frozen? ⟨X, 11, none⟩ = false) := Lib.hid fun k o w4 hg =>
          have E := HKA.out k o
          have nx : ∀ z : Nat, z < base → some z ≠ rv6.ownBlock := fun z hz e => by have := HRB.out z e.symm; omega
          ⟨hg.cell E.1 (nx _ hxb), hg.cell E.2.1 (nx _ hxb), hg.cell E.2.2.1 (nx _ hxb), hg.cell E.2.2.2.1 (nx _ hbx.1), (World.frozen?_of_block (hg.block X (by simp only [World.size_alloc, size_drewN]; omega) (nx _ hxb))).trans E.2.2.2.2⟩
        clear hown
        have HKS : Hid (kepts (td ++ [g]) ws (q + 1) = kepts (td ++ [g]) ws q ++ [u]) := Lib.hid (by rw [kepts_step hlt, List.getD_eq_getElem?_getD, HU.out, if_pos HIN.out])
        have HUS : Hid (untold (td ++ [g]) ws (q + 1) = 0) := Lib.hid (by rw [untold_step hlt, List.getD_eq_getElem?_getD, HU.out, if_pos HIN.out]; exact HJ.out)
        go_wp2_with fail
        go_quiet (fail)
        go_wp2_with fail
        have hne6 : wr.heap.size ≠ X := by omega
        have hk11 := fun k o => (HKA.out k o).1
        go_region_law (first | (refine step_append_rd (by rfl) _ _ (by rfl) (HO.out _ _) (Rd.new _ .u64 [u] 22 (by simp)) (by rfl) (by rfl) (by simp only [World.size_alloc, size_drewN]; omega) (by simp only [List.length_singleton]; omega) ?_; intro v4 w4 hown4 hgr4 hat4; obtain ⟨A4, q4, rfl⟩ := own_slice hown4; have k11 := HK.out _ _ _ hgr4))
        all_goals (
          go_upto_region 9 with fail
          refine wp_world (fun W => But (SX X M base) w W ∧ XS W X M base D th T K sd (.slice (some ⟨b, off, none⟩) m cp) (.slice A4 ((kepts (td ++ [g]) ws q).length + 1) q4) ws (kepts (td ++ [g]) ws (q + 1)) (td ++ [g]) true (i + 1) q) ⟨?_, ?_⟩ ?_
          · exact (HB6.out.then (grow_but hgr4 HRB.out) (fun z _ hz => .inr (.inr hz))).setCell (fun _ => .inl rfl) _
          · have K4 := HCS.out.but (grow_but hgr4 HRB.out) (by omega)
            simp only [Cs, Nat.zero_add, Nat.reduceAdd] at K4
            obtain ⟨k0, l0, k1, l1, k2, l2, k3, l3, k4, l4, k5, l5, k6, l6, k7, l7, k8, l8, k9, l9, k10, l10, k11', l11, _⟩ := K4
            refine H6.out.grow (((But.refl (fun z => z = X ∨ base ≤ z) wr).then (grow_but hgr4 HRB.out) (fun z _ hz => .inr hz)).setCell (fun _ => .inl rfl) _) rfl (by simp [Cs, go_sem, k0, l0, k1, l1, k2, l2, k3, l3, k4, l4, k5, l5, k6, l6, k7, l7, k8, l8, k9, l9, k10, l10, k11', l11]) ?_ (kepts_len _ _ _)
            rw [HKS.out]
            exact Own.but (S := fun z => z = X) ((But.refl (fun z => z = X) w4).setCell (fun _ => rfl) _) (by simpa using hown4) (fun z hz q => by have := (hown4.base z (by simpa using hz)).1; omega)
          clear k11 hown4 hgr4 hat4 HK HKA HO hk11
          rintro W7 ⟨hb7, h7⟩
          have hcs := h7.cs
          simp only [Cs, Nat.zero_add, Nat.reduceAdd] at hcs
          clear c0 f0 c1 f1 c2 f2 c3 f3 c4 f4 c5 f5 c6 f6 c7 f7 c8 f8 c9 f9 c10 f10 c11 f11
          obtain ⟨c0, f0, c1, f1, c2, f2, c3, f3, c4, f4, c5, f5, c6, f6, c7, f7, c8, f8, c9, f9, c10, f10, c11, f11, _⟩ := hcs
          have H7 : Hid (XS W7 X M base D th T K sd (.slice (some ⟨b, off, none⟩) m cp) (.slice A4 ((kepts (td ++ [g]) ws q).length + 1) q4) ws (kepts (td ++ [g]) ws (q + 1)) (td ++ [g]) true (i + 1) q) := Lib.hid h7
          have HB7 : Hid (But (SX X M base) w W7) := Lib.hid hb7
          clear h7 hb7
          go_wp2_with fail
          go_roundw
          case rel => exact ⟨q + 1, by omega, HB7.out.setCell (fun _ => .inl rfl) _, _, H7.out.again ((But.refl (fun z => z = X) W7).setCell (fun _ => rfl) _) (by simp [Cs, go_sem, c0, f0, c1, f1, c2, f2, c3, f3, c4, f4, c5, f5, c6, f6, c7, f7, c8, f8, c9, f9, c10, f10, c11, f11]), HUS.out⟩
          case measure => rw [hat9]; simp [atOf, go_sem, c9, intOf]; omega)
    · have hqm : ¬ (q : Int) < (m : Int) := by have := HM.out; omega
      have hqe : q = ws.length := by omega
      clear hc hmp hwf hwv
      go_wp2_with fail
      go_quiet (fail)
      go_wp2
      go_returns
      exact ⟨rfl, HB6.out.trans (But.of_below (by (repeat' (first | (with_reducible exact Below.refl _ _) | (with_reducible assumption) | (with_reducible refine Below.alloc ?_ ?_ _) | (with_reducible refine Below.drew ?_) | (with_reducible refine bel_drewN ?_ _) | (with_reducible refine Below.setCell ?_ ?_ _) | (with_reducible refine bel_after ?_ (by assumption)) | (exact Below.size (by assumption)) | omega | (simp only [World.size_alloc, World.size_setCell, World.size_drew, size_drewN] at *; omega))))), _, q, H6.out.below (by (repeat' (first | (with_reducible exact Below.refl _ _) | (with_reducible assumption) | (with_reducible refine Below.alloc ?_ ?_ _) | (with_reducible refine Below.drew ?_) | (with_reducible refine bel_drewN ?_ _) | (with_reducible refine Below.setCell ?_ ?_ _) | (with_reducible refine bel_after ?_ (by assumption)) | (exact Below.size (by assumption)) | omega | (simp only [World.size_alloc, World.size_setCell, World.size_drew, size_drewN] at *; omega)))), .inr ⟨hqe, by have := HJ.out; omega⟩⟩
end
end Go.Proofs.YtaclkachohkenaaDoor
