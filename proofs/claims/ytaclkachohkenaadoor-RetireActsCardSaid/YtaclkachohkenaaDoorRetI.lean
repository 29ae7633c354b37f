import Derived.Test.YtaclkachohkenaaDoorRetH
set_option linter.unusedVariables false
set_option linter.unusedSimpArgs false
namespace Go.Proofs.YtaclkachohkenaaDoor
open Go.RowKit Go.Maps

theorem keyU64 : Keyed Tryd.prog 22 := int_keyed Tryd.underlying22
theorem u64_wf {g : Int} (h : 0 ≤ g ∧ g < 18446744073709551616) : (Lit.int .u64 g).wf = true := by
  simp [Lit.wf, IntKind.min, IntKind.max, IntKind.signed, IntKind.bits]; omega
theorem keyOf_u64 {g : Int} (h : 0 ≤ g ∧ g < 18446744073709551616) : keyOf Tryd.prog 22 (.int .u64 g) = some (.int .u64 g) := keyOf_int_mk Tryd.underlying22 (u64_wf h)
theorem inB_snoc (td : List Int) (g u : Int) : inB (td ++ [g]) u = (inB td u || decide (u = g)) := by
  unfold inB
  rw [List.contains_eq_mem, List.contains_eq_mem]
  by_cases h : u ∈ td <;> by_cases h2 : u = g <;> simp [h, h2]

/-- What Take may write. -/
def SX (X M base : Nat) (b : Nat) : Prop := b = X ∨ b = M ∨ base ≤ b

section
variable {w w' : World} {X M base : Nat} {D th T K sd : Int} {wv rv : Value} {ws rs td : List Int} {lk : Bool} {i p : Nat}

theorem XS.below (h : XS w X M base D th T K sd wv rv ws rs td lk i p) (hb : Below w.heap.size w w') : XS w' X M base D th T K sd wv rv ws rs td lk i p := by
  have hx := h.xb
  have hm := h.mb
  have hs := h.sz
  obtain ⟨n, G, hG, hat⟩ := h.mp
  have b0 : But (fun _ => False) w w' := But.of_below hb
  refine ⟨h.cs.but b0 id, h.wait.below hb, h.wvn, ⟨n, G, b0.map hG id, hat⟩, ?_, h.ne, hx, hm, Nat.le_trans hs hb.size, h.wf, h.len, h.rlen⟩
  rcases h.rest with ⟨h0, h1⟩ | h1 | h1
  · exact .inl ⟨h0, h1.but b0 (fun _ _ q => q)⟩
  · exact .inr (.inl h1)
  · exact .inr (.inr h1)
theorem XS.again (h : XS w X M base D th T K sd wv rv ws rs td lk i p) (hb : But (fun b => b = X) w w') {i' p' : Nat}
    (hcs : Cs w' X 0 [.int .u64 D, .int .i64 th, .int .i64 T, .int .i64 K, .int .u64 sd, .bool true, .bool lk, .int .i64 i', wv, .int .i64 p', .map (some M), rv]) : XS w' X M base D th T K sd wv rv ws rs td lk i' p' := by
  have hx := h.xb
  have hs := h.sz
  obtain ⟨n, G, hG, hat⟩ := h.mp
  refine ⟨hcs, h.wait.but hb (fun g hg q => (h.wvn g hg).2.1 q), h.wvn, ⟨n, G, hb.map hG (fun q => h.ne q.symm), hat⟩, ?_, h.ne, hx, h.mb, Nat.le_trans hs hb.size, h.wf, h.len, h.rlen⟩
  rcases h.rest with ⟨h0, h1⟩ | h1 | h1
  · exact .inl ⟨h0, h1.but hb (fun g hg q => by have := (h1.base g hg).1; omega)⟩
  · exact .inr (.inl h1)
  · exact .inr (.inr h1)
theorem XS.told (h : XS w X M base D th T K sd wv rv ws rs td lk i p) (hb : w.grownBy w' (some M)) {g : Int} {n : Nat} {G : DataW Unit}
    (hat : ∀ u ∈ ws, G.atKey (.int .u64 u) (.lit (.int .i64 0)) = .lit (.int .i64 (if inB td u then 0 else 1)))
    (hG : w'.ownsMap Tryd.prog 22 (plainElem (H := Unit) Tryd.prog 3) M n (G.del (.int .u64 g))) : XS w' X M base D th T K sd wv rv ws rs (td ++ [g]) lk i p := by
  have hm := h.mb
  have b0 : But (fun b => b = M) w w' := But.of_grown hb (fun k hk _ => (Option.some.inj hk).symm)
  refine ⟨h.cs.but b0 h.ne, h.wait.but b0 (fun g hg q => (h.wvn g hg).2.2 q), h.wvn, ⟨n, _, hG, fun u hu => ?_⟩, ?_, h.ne, h.xb, hm, Nat.le_trans h.sz hb.size, h.wf, h.len, h.rlen⟩
  · rw [inB_snoc]
    by_cases e : u = g
    · subst e
      rw [atKey_del_same]
      simp
    · rw [atKey_del_other (by simp; exact e), hat u hu]
      simp [e]
  · rcases h.rest with ⟨h0, h1⟩ | h1 | h1
    · exact .inl ⟨h0, h1.but b0 (fun g hg q => by have := (h1.base g hg).1; omega)⟩
    · exact .inr (.inl h1)
    · exact .inr (.inr h1)
theorem XS.grow (h : XS w X M base D th T K sd wv rv ws rs td lk i p) (hb : But (fun b => b = X ∨ base ≤ b) w w') {rv' : Value} {rs' : List Int} (hl : lk = true)
    (hcs : Cs w' X 0 [.int .u64 D, .int .i64 th, .int .i64 T, .int .i64 K, .int .u64 sd, .bool true, .bool lk, .int .i64 i, wv, .int .i64 p, .map (some M), rv'])
    (hown : Own base w' rv' rs') (hr : rs'.length ≤ ws.length) : XS w' X M base D th T K sd wv rv' ws rs' td lk i p := by
  have hm := h.mb
  obtain ⟨n, G, hG, hat⟩ := h.mp
  exact ⟨hcs, h.wait.but hb (fun g hg q => by have := h.wvn g hg; omega), h.wvn, ⟨n, G, hb.map hG (fun q => by rcases q with q | q; exact h.ne q.symm; omega), hat⟩, .inl ⟨hl, hown⟩, h.ne, h.xb, hm, Nat.le_trans h.sz hb.size, h.wf, h.len, hr⟩

def TkPost (X M base : Nat) (D th T K sd : Int) (wv : Value) (ws rs td : List Int) (i p : Nat) (w : World) (e : Ending) (w' : World) : Prop :=
  e = .returned (.tuple #[]) ∧ But (SX X M base) w w' ∧ ∃ rv, XS w' X M base D th T K sd wv rv ws rs td true i p

theorem take_nil (g : Int) (w : World) : Calls Tryd.prog 11 #[.pointer none, .int .u64 g] w (Ret (.tuple #[]) w) := by
  have hA := act_nil w
  simp only [A5.val] at hA
  go_enter Tryd.func11, Tryd.ntmps11
  go_wp2_with fail
  (with_reducible refine hA.mono ?_)
  rintro e w1 ⟨rfl, hb1⟩
  go_wp2
  go_returns
  exact Ret.mk' rfl (by (repeat' (first | (with_reducible exact Below.refl _ _) | (with_reducible assumption) | (with_reducible refine Below.alloc ?_ ?_ _) | (with_reducible refine Below.drew ?_) | (with_reducible refine bel_drewN ?_ _) | (with_reducible refine Below.setCell ?_ ?_ _) | (with_reducible refine bel_after ?_ (by assumption)) | (exact Below.size (by assumption)) | omega | (simp only [World.size_alloc, World.size_setCell, World.size_drew, size_drewN] at *; omega))))

theorem take_idle (h : XS w X M base D th T K sd wv rv ws rs td lk i p) (hT : T ≤ 64) (hx : (xact D T ws lk i p).2 = false) (g : Int) :
    Calls Tryd.prog 11 #[.pointer (some ⟨X, 0, none⟩), .int .u64 g] w (Ret (.tuple #[]) w) := by
  have hA := act_any h hT
  rw [hx] at hA
  clear h hx
  generalize (xact D T ws lk i p).1 = r at hA
  obtain ⟨k, b, c, o, n⟩ := r
  simp only [A5.val] at hA
  go_enter Tryd.func11, Tryd.ntmps11
  go_wp2_with fail
  (with_reducible refine hA.mono ?_)
  rintro e w1 ⟨rfl, hb1⟩
  go_wp2
  go_returns
  exact Ret.mk' rfl (by (repeat' (first | (with_reducible exact Below.refl _ _) | (with_reducible assumption) | (with_reducible refine Below.alloc ?_ ?_ _) | (with_reducible refine Below.drew ?_) | (with_reducible refine bel_drewN ?_ _) | (with_reducible refine Below.setCell ?_ ?_ _) | (with_reducible refine bel_after ?_ (by assumption)) | (exact Below.size (by assumption)) | omega | (simp only [World.size_alloc, World.size_setCell, World.size_drew, size_drewN] at *; omega))))

/-- The first steps of a load's answer. -/
def Loaded (X M base : Nat) (D th T K sd : Int) (wv rv : Value) (ws rs td : List Int) (i p : Nat) (w W : World) : Prop := But (SX X M base) w W ∧ XS W X M base D th T K sd wv rv ws rs td true i p
theorem sx_below {w w' : World} (hb : Below w.heap.size w w') : But (SX X M base) w w' := But.of_below hb

set_option maxHeartbeats 2000000 in
theorem take_load (h : XS w X M base D th T K sd wv rv ws rs td true i p) (hT : T ≤ 64) (hi : (i : Int) + 1 < T) (g : Int) (hg : 0 ≤ g ∧ g < 18446744073709551616) :
    Calls Tryd.prog 11 #[.pointer (some ⟨X, 0, none⟩), .int .u64 g] w (TkPost X M base D th T K sd wv ws rs (td ++ [g]) (i + 1) p w) := by
  have hA := act_any h hT
  have hx : xact D T ws true i p = (⟨1, D, (3 + 2 * i : Nat), 0, 0⟩, true) := by unfold xact; rw [if_neg (by simp), if_pos (by omega)]
  rw [hx] at hA
  generalize ((3 + 2 * i : Nat) : Int) = j at hA
  clear hx
  simp only [A5.val] at hA
  have HX : Hid (XS w X M base D th T K sd wv rv ws rs td true i p) := Lib.hid h
  have hkey := keyOf_u64 hg
  clear h
  go_enter Tryd.func11, Tryd.ntmps11
  go_upto_region 2 with (first | (go_at_call 8; (with_reducible refine hA.mono ?_); rintro e w1 ⟨rfl, hb1⟩))
  refine wp_world (fun W => Below w.heap.size w W) (by (repeat' (first | (with_reducible exact Below.refl _ _) | (with_reducible assumption) | (with_reducible refine Below.alloc ?_ ?_ _) | (with_reducible refine Below.drew ?_) | (with_reducible refine bel_drewN ?_ _) | (with_reducible refine Below.setCell ?_ ?_ _) | (with_reducible refine bel_after ?_ (by assumption)) | (exact Below.size (by assumption)) | omega | (simp only [World.size_alloc, World.size_setCell, World.size_drew, size_drewN] at *; omega)))) ?_
  clear hb1
  intro W hb
  have h := HX.out.below hb
  have HB : Hid (Below w.heap.size w W) := Lib.hid hb
  have hcs := h.cs
  simp only [Cs, Nat.zero_add, Nat.reduceAdd] at hcs
  obtain ⟨c0, f0, c1, f1, c2, f2, c3, f3, c4, f4, c5, f5, c6, f6, c7, f7, c8, f8, c9, f9, c10, f10, c11, f11, _⟩ := hcs
  obtain ⟨n, G, hG, hat⟩ := h.mp
  have H : Hid (XS W X M base D th T K sd wv rv ws rs td true i p) := Lib.hid h
  have HAT : Hid (∀ u ∈ ws, G.atKey (.int .u64 u) (.lit (.int .i64 0)) = .lit (.int .i64 (if inB td u then 0 else 1))) := Lib.hid hat
  clear h hat hb hA
  have hi2 : (i : Int) < T := by omega
  go_quiet (fail)
  go_upto_region 4 with (first | (at_delete; refine wpList_delete_own _ rfl _ _ 41 22 rfl 3 keyU64 Tryd.underlying41 _ M n G rfl hG _ _ rfl hkey ?_; intro w3 hown3 hturn3))
  refine wp_world (Loaded X M base D th T K sd wv rv ws rs (td ++ [g]) i p w) ⟨?_, ?_⟩ ?_
  · exact ((sx_below HB.out).drewN nq).then (But.of_grown (S := fun b => b = M) hturn3.grown (fun k hk _ => (Option.some.inj hk).symm)) (fun i _ q => .inr (.inl q))
  · exact (H.out.below (bel_drewN (Below.refl _ _) nq)).told hturn3.grown HAT.out hown3
  clear hown3 hturn3 HAT H HB hG c0 f0 c1 f1 c2 f2 c3 f3 c4 f4 c5 f5 c6 f6 c7 f7 c8 f8 c9 f9 c10 f10 c11 f11
  rintro W4 ⟨hb4, h⟩
  have HB4 : Hid (But (SX X M base) w W4) := Lib.hid hb4
  have hcs := h.cs
  simp only [Cs, Nat.zero_add, Nat.reduceAdd] at hcs
  obtain ⟨c0, f0, c1, f1, c2, f2, c3, f3, c4, f4, c5, f5, c6, f6, c7, f7, c8, f8, c9, f9, c10, f10, c11, f11, _⟩ := hcs
  have H4 : Hid (XS W4 X M base D th T K sd wv rv ws rs (td ++ [g]) true i p) := Lib.hid h
  clear h hb4
  go_upto_region 6 with fail
  refine wp_world (Loaded X M base D th T K sd wv rv ws rs (td ++ [g]) (i + 1) p w) ⟨?_, ?_⟩ ?_
  · exact HB4.out.setCell (fun _ => .inl rfl) _
  · exact H4.out.again ((But.refl (fun b => b = X) W4).setCell (fun _ => rfl) _) (by simp [Cs, go_sem, c0, f0, c1, f1, c2, f2, c3, f3, c4, f4, c5, f5, c6, f6, c7, f7, c8, f8, c9, f9, c10, f10, c11, f11])
  clear H4 HB4 c0 f0 c1 f1 c2 f2 c3 f3 c4 f4 c5 f5 c6 f6 c7 f7 c8 f8 c9 f9 c10 f10 c11 f11
  rintro W5 ⟨hb5, h⟩
  have HB5 : Hid (But (SX X M base) w W5) := Lib.hid hb5
  have hcs := h.cs
  simp only [Cs, Nat.zero_add, Nat.reduceAdd] at hcs
  obtain ⟨c0, f0, c1, f1, c2, f2, c3, f3, c4, f4, c5, f5, c6, f6, c7, f7, c8, f8, c9, f9, c10, f10, c11, f11, _⟩ := hcs
  have H5 : Hid (XS W5 X M base D th T K sd wv rv ws rs (td ++ [g]) true (i + 1) p) := Lib.hid h
  clear h hb5
  go_quiet (fail)
  go_wp2
  go_returns
  exact ⟨rfl, (HB5.out.trans (But.of_below (by (repeat' (first | (with_reducible exact Below.refl _ _) | (with_reducible assumption) | (with_reducible refine Below.alloc ?_ ?_ _) | (with_reducible refine Below.drew ?_) | (with_reducible refine bel_drewN ?_ _) | (with_reducible refine Below.setCell ?_ ?_ _) | (with_reducible refine bel_after ?_ (by assumption)) | (exact Below.size (by assumption)) | omega | (simp only [World.size_alloc, World.size_setCell, World.size_drew, size_drewN] at *; omega)))))), rv, H5.out.below (by (repeat' (first | (with_reducible exact Below.refl _ _) | (with_reducible assumption) | (with_reducible refine Below.alloc ?_ ?_ _) | (with_reducible refine Below.drew ?_) | (with_reducible refine bel_drewN ?_ _) | (with_reducible refine Below.setCell ?_ ?_ _) | (with_reducible refine bel_after ?_ (by assumption)) | (exact Below.size (by assumption)) | omega | (simp only [World.size_alloc, World.size_setCell, World.size_drew, size_drewN] at *; omega))))⟩
end
end Go.Proofs.YtaclkachohkenaaDoor
