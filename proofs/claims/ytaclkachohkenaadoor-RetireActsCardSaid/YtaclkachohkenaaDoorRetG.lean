import Derived.Test.YtaclkachohkenaaDoorRetF
set_option linter.unusedVariables false
set_option linter.unusedSimpArgs false
namespace Go.Proofs.YtaclkachohkenaaDoor
open Go.RowKit Go.Maps

/-- One who hands boxes back: what is in its block X, its map M; what is new to it lies from base on. -/
structure XS (w : World) (X M base : Nat) (D th T K sd : Int) (wv rv : Value) (ws rs td : List Int) (lk : Bool) (i p : Nat) : Prop where
  cs : Cs w X 0 [.int .u64 D, .int .i64 th, .int .i64 T, .int .i64 K, .int .u64 sd, .bool true, .bool lk, .int .i64 i, wv, .int .i64 p, .map (some M), rv]
  wait : Rd w .u64 wv ws
  wvn : ∀ g, wv.ownBlock = some g → g < base ∧ g ≠ X ∧ g ≠ M
  mp : ∃ n G, w.ownsMap Tryd.prog 22 (plainElem (H := Unit) Tryd.prog 3) M n G ∧ ∀ u ∈ ws, G.atKey (.int .u64 u) (.lit (.int .i64 0)) = .lit (.int .i64 (if inB td u then 0 else 1))
  rest : (lk = true ∧ Own base w rv rs) ∨ (lk = false ∧ rv = wv ∧ rs = ws) ∨ (lk = false ∧ rv = .slice none 0 0 ∧ rs = [])
  ne : X ≠ M
  xb : X < base
  mb : M < base
  sz : base ≤ w.heap.size
  wf : ∀ u ∈ ws, 0 ≤ u ∧ u < 18446744073709551616
  len : ws.length ≤ 100
  rlen : rs.length ≤ ws.length

/-- Not made. -/
def XN (w : World) (X : Nat) : Prop := w.cell? ⟨X, 5, none⟩ = some (.bool false) ∧ w.cell? ⟨X, 6, none⟩ = some (.bool false)

def xact (D T : Int) (ws : List Int) (lk : Bool) (i p : Nat) : A5 × Bool :=
  if lk = false then (A5.nil, false) else if (i : Int) < T then (⟨1, D, (3 + 2 * i : Nat), 0, 0⟩, true) else if p < ws.length then (⟨6, ws[p]?.getD 0, 0, 0, 0⟩, true) else (A5.nil, false)

abbrev zeroAct : Array Value := #[.int .i64 0, .int .u64 0, .int .i64 0, .int .u64 0, .int .u64 0]

theorem act_nil (w : World) : Calls Tryd.prog 8 #[.pointer none] w (Ret (.tuple #[A5.nil.val, .bool false]) w) := by
  go_enter Tryd.func8, Tryd.ntmps8
  go_wp2
  go_returns
  exact Ret.mk' rfl (by (repeat' (first | (with_reducible exact Below.refl _ _) | (with_reducible assumption) | (with_reducible refine Below.alloc ?_ ?_ _) | (with_reducible refine Below.drew ?_) | (with_reducible refine bel_drewN ?_ _) | (with_reducible refine Below.setCell ?_ ?_ _) | (with_reducible refine bel_after ?_ (by assumption)) | (exact Below.size (by assumption)) | omega | (simp only [World.size_alloc, World.size_setCell, World.size_drew, size_drewN] at *; omega))))

theorem act_none (X : Nat) (w : World) (h : w.cell? ⟨X, 6, none⟩ = some (.bool false)) : Calls Tryd.prog 8 #[.pointer (some ⟨X, 0, none⟩)] w (Ret (.tuple #[A5.nil.val, .bool false]) w) := by
  have hx := World.block_lt_of_cell? w _ h
  have hne : w.heap.size ≠ X := by simp only at hx; omega
  go_enter Tryd.func8, Tryd.ntmps8
  go_wp2
  go_returns
  exact Ret.mk' rfl (by (repeat' (first | (with_reducible exact Below.refl _ _) | (with_reducible assumption) | (with_reducible refine Below.alloc ?_ ?_ _) | (with_reducible refine Below.drew ?_) | (with_reducible refine bel_drewN ?_ _) | (with_reducible refine Below.setCell ?_ ?_ _) | (with_reducible refine bel_after ?_ (by assumption)) | (exact Below.size (by assumption)) | omega | (simp only [World.size_alloc, World.size_setCell, World.size_drew, size_drewN] at *; omega))))

set_option maxHeartbeats 1000000 in
theorem act_load (X : Nat) (D T : Int) (i : Nat) (w : World) (h0 : w.cell? ⟨X, 0, none⟩ = some (.int .u64 D)) (h2 : w.cell? ⟨X, 2, none⟩ = some (.int .i64 T)) (h6 : w.cell? ⟨X, 6, none⟩ = some (.bool true)) (h7 : w.cell? ⟨X, 7, none⟩ = some (.int .i64 i))
    (hi : i < 64) (hT : (i : Int) < T) :
    Calls Tryd.prog 8 #[.pointer (some ⟨X, 0, none⟩)] w (Ret (.tuple #[A5.val ⟨1, D, (3 + 2 * i : Nat), 0, 0⟩, .bool true]) w) := by
  have hx := World.block_lt_of_cell? w _ h0
  have hne : w.heap.size ≠ X := by simp only at hx; omega
  have hB := fun w => deskBox_any i hi w
  generalize hj : ((3 + 2 * i : Nat) : Int) = j at hB
  have HJ : Hid (((3 + 2 * i : Nat) : Int) = j) := Lib.hid hj
  clear hj
  go_enter Tryd.func8, Tryd.ntmps8
  go_wp2_with fail
  go_quiet (fail)
  go_wp2_with fail
  go_region_held3 (fun w' => w'.cell? ⟨X, 0, none⟩ = some (.int .u64 D) ∧ w'.cell? ⟨X, 7, none⟩ = some (.int .i64 i)) (go_keep) (first | (go_at_call 15; (with_reducible refine (hB _).mono ?_); rintro e w' ⟨rfl, rfl⟩))
  go_wp2
  go_returns
  exact Ret.mk' rfl (by (repeat' (first | (with_reducible exact Below.refl _ _) | (with_reducible assumption) | (with_reducible refine Below.alloc ?_ ?_ _) | (with_reducible refine Below.drew ?_) | (with_reducible refine bel_drewN ?_ _) | (with_reducible refine Below.setCell ?_ ?_ _) | (with_reducible refine bel_after ?_ (by assumption)) | (exact Below.size (by assumption)) | omega | (simp only [World.size_alloc, World.size_setCell, World.size_drew, size_drewN] at *; omega))))

set_option maxHeartbeats 1000000 in
theorem act_free (X : Nat) (T i u : Int) (p n c b off : Nat) (w : World) (h2 : w.cell? ⟨X, 2, none⟩ = some (.int .i64 T)) (h6 : w.cell? ⟨X, 6, none⟩ = some (.bool true)) (h7 : w.cell? ⟨X, 7, none⟩ = some (.int .i64 i))
    (h8 : w.cell? ⟨X, 8, none⟩ = some (.slice (some ⟨b, off, none⟩) n c)) (h9 : w.cell? ⟨X, 9, none⟩ = some (.int .i64 p)) (ha : w.cell? ⟨b, off + p, none⟩ = some (.int .u64 u)) (hT : ¬ i < T) (hp : (p : Int) < (n : Int)) :
    Calls Tryd.prog 8 #[.pointer (some ⟨X, 0, none⟩)] w (Ret (.tuple #[A5.val ⟨6, u, 0, 0, 0⟩, .bool true]) w) := by
  have hx := World.block_lt_of_cell? w _ h2
  have hne : w.heap.size ≠ X := by simp only at hx; omega
  have hx2 := World.block_lt_of_cell? w _ ha
  have hne2 : w.heap.size ≠ b := by simp only at hx2; omega
  have hp0 : (0 : Int) ≤ (p : Int) := by omega
  go_enter Tryd.func8, Tryd.ntmps8
  go_wp2_with fail
  go_quiet (fail)
  go_wp2_with fail
  go_quiet (fail)
  go_wp2_with fail
  go_region_held3 (fun w' => w'.cell? ⟨X, 8, none⟩ = some (.slice (some ⟨b, off, none⟩) n c) ∧ w'.cell? ⟨X, 9, none⟩ = some (.int .i64 p) ∧ w'.cell? ⟨b, off + p, none⟩ = some (.int .u64 u)) (go_keep) (fail)
  go_wp2
  go_returns
  exact Ret.mk' rfl (by (repeat' (first | (with_reducible exact Below.refl _ _) | (with_reducible assumption) | (with_reducible refine Below.alloc ?_ ?_ _) | (with_reducible refine Below.drew ?_) | (with_reducible refine bel_drewN ?_ _) | (with_reducible refine Below.setCell ?_ ?_ _) | (with_reducible refine bel_after ?_ (by assumption)) | (exact Below.size (by assumption)) | omega | (simp only [World.size_alloc, World.size_setCell, World.size_drew, size_drewN] at *; omega))))

set_option maxHeartbeats 1000000 in
theorem act_end (X : Nat) (T i : Int) (p n c : Nat) (A : Option Addr) (w : World) (h2 : w.cell? ⟨X, 2, none⟩ = some (.int .i64 T)) (h6 : w.cell? ⟨X, 6, none⟩ = some (.bool true)) (h7 : w.cell? ⟨X, 7, none⟩ = some (.int .i64 i))
    (h8 : w.cell? ⟨X, 8, none⟩ = some (.slice A n c)) (h9 : w.cell? ⟨X, 9, none⟩ = some (.int .i64 p)) (hT : ¬ i < T) (hp : ¬ (p : Int) < (n : Int)) :
    Calls Tryd.prog 8 #[.pointer (some ⟨X, 0, none⟩)] w (Ret (.tuple #[A5.nil.val, .bool false]) w) := by
  have hx := World.block_lt_of_cell? w _ h2
  have hne : w.heap.size ≠ X := by simp only at hx; omega
  go_enter Tryd.func8, Tryd.ntmps8
  go_wp2_with fail
  go_quiet (fail)
  go_wp2_with fail
  go_quiet (fail)
  go_wp2_with fail
  go_returns
  exact Ret.mk' rfl (by (repeat' (first | (with_reducible exact Below.refl _ _) | (with_reducible assumption) | (with_reducible refine Below.alloc ?_ ?_ _) | (with_reducible refine Below.drew ?_) | (with_reducible refine bel_drewN ?_ _) | (with_reducible refine Below.setCell ?_ ?_ _) | (with_reducible refine bel_after ?_ (by assumption)) | (exact Below.size (by assumption)) | omega | (simp only [World.size_alloc, World.size_setCell, World.size_drew, size_drewN] at *; omega))))
end Go.Proofs.YtaclkachohkenaaDoor
