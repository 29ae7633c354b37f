import Derived.Test.YtclflmpdjlflaaaArE
import Derived.Deep.Upon
set_option linter.unusedVariables false
set_option linter.unusedSimpArgs false
namespace Go.Proofs.Ytclflmpdjlflaaa
open Go.RowKit

theorem Cs.at {w : World} {X : Nat} {cs : Array Value} {t : TypeId} {l : List Value} (hX : w.heap.size = X) (hl : cs.toList = l) : Cs (w.alloc (.cells cs t)) X 0 l := by
  subst hX
  exact Cs.new (Below.refl _ _) l hl

/-- A slice of its own that reads as xs. -/
def Own (base : Nat) (w : World) (v : Value) (xs : List Int) : Prop := w.ownsRow base 24 1 v xs.length (xs.map (Value.int .u64))
theorem Own.rd {base : Nat} {w : World} {v : Value} {xs : List Int} (h : Own base w v xs) (hl : xs.length ≤ 140737488355328) : Rd w .u64 v xs := Rd.of_own h hl
theorem Own.but {S : Nat → Prop} {base : Nat} {w w' : World} {v : Value} {xs : List Int} (hb : But S w w') (h : Own base w v xs) (hn : ∀ g, v.ownBlock = some g → ¬ S g) : Own base w' v xs := hb.row h hn
theorem Own.base {base : Nat} {w : World} {v : Value} {xs : List Int} (h : Own base w v xs) (g : Nat) (hg : v.ownBlock = some g) : base ≤ g ∧ g < w.heap.size := World.ownsRow.lt h g hg
theorem Own.lower {base base' : Nat} {w : World} {v : Value} {xs : List Int} (h : Own base w v xs) (hb : base' ≤ base) : Own base' w v xs := own_lower h hb
theorem Own.nil (w : World) (base : Nat) : Own base w (.slice none 0 0) [] := World.ownsRow_nil w base _ 1

theorem Own.made (w : World) (base B : Nat) (h : w.heap.size = B) (hb : base ≤ B) : Own base (w.alloc (.cells #[] 24)) (.slice (some ⟨B, 0, none⟩) 0 0) [] := by
  subst h
  exact World.ownsRow_made w #[] 0 hb (by decide) rfl
theorem Own.alloc {base : Nat} {w : World} {v : Value} {xs : List Int} (h : Own base w v xs) (o : Obj) : Own base (w.alloc o) v xs := World.ownsRow.alloc h o

def Made (xs : List Int) (w : World) (e : Ending) (w' : World) : Prop := ∃ v, e = .returned v ∧ Own w.heap.size w' v xs ∧ Below w.heap.size w w'

theorem one_all {k : IntKind} {xs : List Int} : ∀ u ∈ xs.map (Value.int k), u.oneCell' = true := by
  intro u hu
  obtain ⟨z, _, rfl⟩ := List.mem_map.1 hu
  rfl
theorem getD_some {xs : List Int} {j : Nat} (h : j < xs.length) : xs[j]? = some (xs[j]?.getD 0) := by rw [List.getElem?_eq_getElem h]; rfl

/-- append(s, v...) of a slice that reads as ys. -/
theorem append_run {base : Nat} {w : World} {v y : Value} {xs ys : List Int} (ty : TypeId) (hown : Own base w v xs) (hrd : Rd w .u64 y ys) (hbase : base ≤ w.heap.size) (hl : xs.length + ys.length < 10000) :
    ∃ v' w', (Builtin.append_ #[28, 28] ty #[v, y]).run Try.prog w = .ok v' w' ∧ Own base w' v' (xs ++ ys) ∧ w.grownBy w' v.ownBlock ∧ (v'.ownBlock = v.ownBlock ∨ v'.ownBlock = some w.heap.size) := by
  obtain ⟨ad, n, c, rfl, hn, hm, hc⟩ := hrd
  obtain ⟨i0, hi, hz0, hz1, hz2⟩ := info_parts infoU64
  rcases ad with _ | ad
  · have hys : ys = [] := by
      rcases ys with _ | ⟨z, zs⟩
      · rfl
      · obtain ⟨_, _, h, _⟩ := hc (by simp at hn; omega)
        cases h
    subst hys
    have hn0 : n = 0 := by simpa using hn.symm
    subst hn0
    obtain ⟨A, cp, hv, hle⟩ : ∃ A cp, v = .slice A xs.length cp ∧ xs.length ≤ cp := by
      rcases hown.2 with ⟨hv, hx0⟩ | ⟨g, cap, cur, hv, _, _, hle, _⟩
      · have : xs = [] := by simpa using hx0
        subst this
        exact ⟨none, 0, hv, Nat.le_refl _⟩
      · exact ⟨_, cap, hv, hle⟩
    have hr := run_append_nothing (P := Try.prog) w 28 28 ty 24 i0 Try.underlying28 hi A xs.length cp hle (.slice none 0 c) (Src.ofNil w Try.underlying28 c)
    subst hv
    exact ⟨_, _, hr, by simpa using hown, ⟨rfl, rfl, rfl, Nat.le_refl _, fun _ _ _ => rfl⟩, .inl rfl⟩
  · obtain ⟨v', w', hr, hown', hg, _, hat⟩ := run_append_own_at (P := Try.prog) w base 28 ty 24 i0 (.int .u64 0) 1 8 Try.underlying28 hi hz0 hz1 hz2 rfl (by decide) v xs.length (xs.map (Value.int .u64)) hown ad n c (ys.map (Value.int .u64)) (by simp [hn]) (by
      intro j u hu
      rw [List.getElem?_map] at hu
      obtain ⟨z, hz, rfl⟩ := Option.map_eq_some_iff.1 hu
      have hj : j < ys.length := (List.getElem?_eq_some_iff.1 hz).1
      obtain ⟨b, off, hb, hcell⟩ := hc (by omega)
      cases hb
      have := hcell j (by omega)
      rw [hz] at this
      simpa [Addr.add_lit] using this) one_all (by unfold maxLen; omega) (by omega) hbase
    refine ⟨v', w', hr, ?_, hg, hat⟩
    unfold Own
    rw [List.length_append, hn, List.map_append]
    exact hown'
theorem wp_append_rd {o : Oper} {a : Act} {K : Act → World → Prop} {Q : Exit → Act → World → Prop} (s x : Operand) (ho : o.op = .call { callee := .builtin .append, args := #[s, x], argTypes := #[28, 28] })
    {base : Nat} {w : World} {v y : Value} {xs ys : List Int} (hown : Own base w v xs) (hrd : Rd w .u64 y ys) (hs : a.eval s = v) (hx : a.eval x = y) (hbase : base ≤ w.heap.size) (hl : xs.length + ys.length < 10000)
    (h : ∀ v' w', Own base w' v' (xs ++ ys) → w.grownBy w' v.ownBlock → (v'.ownBlock = v.ownBlock ∨ v'.ownBlock = some w.heap.size) → K (a.put o.dst v') w') : o.wp Try.prog a w K Q := by
  obtain ⟨v', w', hr, h1, h2, h3⟩ := append_run o.type hown hrd hbase hl
  unfold Oper.wp execOp
  simp only [ho, resolve, invoke, builtin, Sem.run_bind, Sem.run_pure, Result.andThen_ok, List.map_toArray, List.map_cons, List.map_nil, hs, hx, hr]
  exact h v' w' h1 h2 h3
theorem append_rd {ops : Array Oper} {rest : List Oper} {o : Oper} {a : Act} {Q : Exit → Act → World → Prop} (hgd : o.guard = none) (s x : Operand) (ho : o.op = .call { callee := .builtin .append, args := #[s, x], argTypes := #[28, 28] })
    {base : Nat} {w : World} {v y : Value} {xs ys : List Int} (hown : Own base w v xs) (hrd : Rd w .u64 y ys) (hs : a.eval s = v) (hx : a.eval x = y) (hbase : base ≤ w.heap.size) (hl : xs.length + ys.length < 10000)
    (h : ∀ v' w', Own base w' v' (xs ++ ys) → w.grownBy w' v.ownBlock → (v'.ownBlock = v.ownBlock ∨ v'.ownBlock = some w.heap.size) → wpList Try.prog ops Q rest (a.put o.dst v') w') :
    wpList Try.prog ops Q (o :: rest) a w :=
  wpList_plain hgd fun K hK => wp_append_rd s x ho hown hrd hs hx hbase hl fun v' w' h1 h2 h3 => hK _ _ (h v' w' h1 h2 h3)
theorem step_append_rd {ops : Array Oper} {o : Oper} {a : Act} {K : Act → World → Prop} {Q : Exit → Act → World → Prop} {E : Prop} (hgd : o.guard = none) (s x : Operand) (ho : o.op = .call { callee := .builtin .append, args := #[s, x], argTypes := #[28, 28] })
    {base : Nat} {w : World} {v y : Value} {xs ys : List Int} (hown : Own base w v xs) (hrd : Rd w .u64 y ys) (hs : a.eval s = v) (hx : a.eval x = y) (hbase : base ≤ w.heap.size) (hl : xs.length + ys.length < 10000)
    (h : ∀ v' w', Own base w' v' (xs ++ ys) → w.grownBy w' v.ownBlock → (v'.ownBlock = v.ownBlock ∨ v'.ownBlock = some w.heap.size) → K (a.put o.dst v') w') :
    if Region.wanted o (yielded ops a.tmps) = true then Oper.wp Try.prog o a w K Q else E := by
  have hw : Region.wanted o (yielded ops a.tmps) = true := by simp [Region.wanted, hgd]
  rw [if_pos hw]
  exact wp_append_rd s x ho hown hrd hs hx hbase hl h

set_option maxHeartbeats 1000000 in
theorem clone_any (v : Value) (xs : List Int) (w : World) (h : Rd w .u64 v xs) (hl : xs.length < 5000) :
    Calls Try.prog 40 #[v] w (Made xs w) := by
  have hrd := h
  obtain ⟨a, n, c, rfl, hn, hm, hc⟩ := h
  have he : ∀ w : World, (binOp .eql 28 (.slice a n c) (.slice none 0 0)).run Try.prog w = .ok (.bool a.isNone) w := by
    intro w
    exact Lib.run_eql_slice_nil w 28 24 a n c 0 0 Try.underlying28
  rcases a with _ | ⟨b, off, sub⟩
  · have hxs : xs = [] := by
      rcases xs with _ | ⟨x, xs⟩
      · rfl
      · obtain ⟨_, _, h, _⟩ := hc (by simp at hn; omega)
        cases h
    subst hxs
    go_enter Try.func40, Try.ntmps40
    go_wp2
    go_returns
    exact ⟨_, rfl, Own.nil _ _, by (repeat' (first | (with_reducible exact Below.refl _ _) | (with_reducible assumption) | (with_reducible refine Below.alloc ?_ ?_ _) | (with_reducible refine Below.drew ?_) | (with_reducible refine bel_drewN ?_ _) | (with_reducible refine Below.setCell ?_ ?_ _) | (with_reducible refine bel_after ?_ (by assumption)) | (exact Below.size (by assumption)) | omega | (simp only [World.size_alloc, World.size_setCell, World.size_drew, size_drewN] at *; omega)))⟩
  · clear hc
    have rO : Own w.heap.size (w.alloc (.cells #[] 24)) (.slice (some ⟨w.heap.size, 0, none⟩) 0 0) [] := World.ownsRow_made (w := w) (base := w.heap.size) (e := 24) (size := 1) #[] 0 (Nat.le_refl _) (by decide) rfl
    have hB0 : Below w.heap.size w (w.alloc (.cells #[] 24)) := (Below.refl _ _).alloc (Nat.le_refl _) _
    have hR : Rd (w.alloc (.cells #[] 24)) .u64 (.slice (some ⟨b, off, sub⟩) n c) xs := hrd.below hB0
    have HR : Hid (Rd (w.alloc (.cells #[] 24)) .u64 (.slice (some ⟨b, off, sub⟩) n c) xs) := Lib.hid hR
    go_enter Try.func40, Try.ntmps40
    go_wp2_with (first | (at_builtin; refine append_rd rfl _ _ rfl rO HR.out (by rfl) (by rfl) (by simp) (by simp; omega) ?_; intro v1 w1 hown1 hgr1 hat1))
    go_returns
    exact ⟨_, rfl, hown1, hB0.grown hgr1 (by simp) (by simp [Value.ownBlock])⟩
end Go.Proofs.Ytclflmpdjlflaaa
