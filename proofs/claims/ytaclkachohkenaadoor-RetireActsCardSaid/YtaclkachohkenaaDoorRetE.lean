import Derived.Test.YtaclkachohkenaaDoorRetD
set_option linter.unusedVariables false
set_option linter.unusedSimpArgs false
namespace Go.Proofs.YtaclkachohkenaaDoor
open Go.RowKit

/-- The loads: what was told, and the tape behind it. -/
def loads (gs : List Int) (D : Int) (s : TS) : Nat → List Int × TS
  | 0 => ([], s)
  | i + 1 => ((loads gs D s i).1 ++ [((loads gs D s i).2.step gs ⟨1, D, (3 + 2 * i : Nat), 0, 0⟩).1], ((loads gs D s i).2.step gs ⟨1, D, (3 + 2 * i : Nat), 0, 0⟩).2)
/-- The frees: what is kept, and the tape behind it. -/
def frees (gs td ks : List Int) (s : TS) : Nat → List Int × TS
  | 0 => ([], s)
  | i + 1 => if inB td (ks[i]?.getD 0) then ((frees gs td ks s i).1 ++ [ks[i]?.getD 0], (frees gs td ks s i).2) else ((frees gs td ks s i).1, ((frees gs td ks s i).2.step gs ⟨6, ks[i]?.getD 0, 0, 0, 0⟩).2)
theorem loads_len (gs : List Int) (D : Int) (s : TS) (i : Nat) : (loads gs D s i).1.length = i := by
  induction i with
  | zero => rfl
  | succ i ih => simp [loads, ih]
theorem frees_len (gs td ks : List Int) (s : TS) (i : Nat) : (frees gs td ks s i).1.length ≤ i := by
  induction i with
  | zero => simp [frees]
  | succ i ih => simp only [frees]; split <;> simp <;> omega

def nload (ks : List Int) (T : Nat) : Nat := if ks = [] then 0 else T

/-- What ref.Look leaves. -/
def LookPost (t : Nat) (gv : Value) (gs : List Int) (D : Int) (T : Nat) (ks : List Int) (s : TS) (w : World) (e : Ending) (w' : World) : Prop :=
  ∃ v, e = .returned v ∧ But (fun b => b = t) w w' ∧ Own w.heap.size w' v (frees gs (loads gs D s (nload ks T)).1 ks (loads gs D s (nload ks T)).2 ks.length).1 ∧
    Tape w' t gv gs (frees gs (loads gs D s (nload ks T)).1 ks (loads gs D s (nload ks T)).2 ks.length).2

structure L1 (w : World) (t : Nat) (gv : Value) (gs : List Int) (D T : Int) (s : TS) (i : Nat) (tv : Value) (wr : World) : Prop where
  but : But (fun b => b = t) w wr
  own : Own (w.heap.size + 1) wr tv (loads gs D s i).1
  ne : tv.ownBlock ≠ some (w.heap.size + 1 + 1)
  sz : w.heap.size + 3 ≤ wr.heap.size
  tape : Tape wr t gv gs (loads gs D s i).2
  d : wr.cell? ⟨w.heap.size, 0, none⟩ = some (.int .u64 D)
  e : wr.cell? ⟨w.heap.size, 2, none⟩ = some (.int .i64 T)
  rest : Own (w.heap.size + 1) wr (.slice (some ⟨w.heap.size + 1 + 1, 0, none⟩) 0 0) []
theorem L1.drew {w wr : World} {t i : Nat} {gv tv : Value} {gs : List Int} {D T : Int} {s : TS} (h : L1 w t gv gs D T s i tv wr) : L1 w t gv gs D T s i tv wr.drew :=
  ⟨h.but.drew, h.own, h.ne, h.sz, ⟨h.tape.cs.but (S := fun _ => False) ((But.refl _ _).drew) id, h.tape.rd.but (S := fun _ => False) ((But.refl _ _).drew) (fun _ _ q => q), h.tape.le, h.tape.ne⟩, h.d, h.e, h.rest⟩
/-- A load and an append behind it. -/
theorem L1.next {w w2 w3 w4 : World} {t i : Nat} {gv tv tv' : Value} {gs : List Int} {D T : Int} {s : TS} (h : L1 w t gv gs D T s i tv w2) (ht : t < w.heap.size) (hgn : ∀ g, gv.ownBlock = some g → g < w.heap.size)
    (hb : But (fun b => b = t) w2 w3) (h3 : Tape w3 t gv gs (loads gs D s (i + 1)).2) (o : Obj) (h4 : Own (w.heap.size + 1) w4 tv' (loads gs D s (i + 1)).1) (hg : (w3.alloc o).grownBy w4 tv.ownBlock)
    (hat : tv'.ownBlock = tv.ownBlock ∨ tv'.ownBlock = some (w3.alloc o).heap.size) : L1 w t gv gs D T s (i + 1) tv' w4 := by
  have hs := h.sz
  have hs3 := hb.size
  have hs4 := hg.size
  simp only [World.size_alloc] at hs4 hat
  have key : But (fun b => tv.ownBlock = some b) w3 w4 := ((But.refl _ w3).alloc o).then (S' := fun b => tv.ownBlock = some b) (But.of_grown hg (fun k hk _ => hk)) (fun _ _ q => q)
  have hbase : ∀ g, tv.ownBlock = some g → w.heap.size + 1 ≤ g := fun g hg => (h.own.base g hg).1
  refine ⟨(h.but.trans hb).then key (fun k hk q => by have := hbase k q; omega), h4, ?_, by omega, ?_, ?_, ?_, ?_⟩
  · rcases hat with e | e
    · rw [e]; exact h.ne
    · rw [e]; simp; omega
  · exact h3.but key (fun q => by have := hbase _ q; omega) (fun g hg q => by have := hbase _ q; have := hgn g hg; omega)
  · exact key.cell (hb.cell h.d (by simp; omega)) (fun q => by have := hbase _ q; simp only at this; omega)
  · exact key.cell (hb.cell h.e (by simp; omega)) (fun q => by have := hbase _ q; simp only at this; omega)
  · exact (h.rest.but hb (fun g hg => by simp [Value.ownBlock] at hg; omega)).but key (fun g hg q => h.ne (by rw [q]; simp [Value.ownBlock] at hg; rw [hg]))

structure L2 (w : World) (t : Nat) (gv : Value) (gs td ks : List Int) (s : TS) (tv : Value) (i : Nat) (rv : Value) (wr : World) : Prop where
  but : But (fun b => b = t) w wr
  own : Own (w.heap.size + 1) wr rv (frees gs td ks s i).1
  told : Own (w.heap.size + 1) wr tv td
  ne : ∀ g, rv.ownBlock = some g → tv.ownBlock ≠ some g
  tape : Tape wr t gv gs (frees gs td ks s i).2
  sz : w.heap.size + 3 ≤ wr.heap.size

theorem L2.keep {w wr w4 : World} {t i : Nat} {gv tv rv rv' : Value} {gs td ks : List Int} {s : TS} (h : L2 w t gv gs td ks s tv i rv wr) (ht : t < w.heap.size) (hgn : ∀ g, gv.ownBlock = some g → g < w.heap.size)
    (hin : inB td (ks[i]?.getD 0) = true) (o : Obj) (h4 : Own (w.heap.size + 1) w4 rv' ((frees gs td ks s i).1 ++ [ks[i]?.getD 0])) (hg : (wr.alloc o).grownBy w4 rv.ownBlock)
    (hat : rv'.ownBlock = rv.ownBlock ∨ rv'.ownBlock = some (wr.alloc o).heap.size) : L2 w t gv gs td ks s tv (i + 1) rv' w4 := by
  have hs := h.sz
  have hs4 := hg.size
  simp only [World.size_alloc] at hs4 hat
  have key : But (fun b => rv.ownBlock = some b) wr w4 := ((But.refl _ wr).alloc o).then (S' := fun b => rv.ownBlock = some b) (But.of_grown hg (fun k hk _ => hk)) (fun _ _ q => q)
  have hbase : ∀ g, rv.ownBlock = some g → w.heap.size + 1 ≤ g := fun g hg => (h.own.base g hg).1
  refine ⟨h.but.then key (fun k hk q => by have := hbase k q; omega), by simpa [frees, hin] using h4, ?_, ?_, ?_, by omega⟩
  · exact h.told.but key (fun g hg q => h.ne g q hg)
  · intro g hg q
    rcases hat with e | e
    · exact h.ne g (e ▸ hg) q
    · have := (h.told.base g q).2
      rw [e] at hg
      simp at hg
      omega
  · have := h.tape.but key (fun q => by have := hbase _ q; omega) (fun g hg q => by have := hbase _ q; have := hgn g hg; omega)
    simpa [frees, hin] using this
theorem L2.free {w wr w3 : World} {t i : Nat} {gv tv rv : Value} {gs td ks : List Int} {s : TS} (h : L2 w t gv gs td ks s tv i rv wr) (ht : t < w.heap.size)
    (hin : inB td (ks[i]?.getD 0) = false) (hb : But (fun b => b = t) wr w3) (h3 : Tape w3 t gv gs ((frees gs td ks s i).2.step gs ⟨6, ks[i]?.getD 0, 0, 0, 0⟩).2) : L2 w t gv gs td ks s tv (i + 1) rv w3 := by
  have hs := hb.size
  have hs2 := h.sz
  refine ⟨h.but.trans hb, ?_, h.told.but hb (fun g hg q => by have := (h.told.base g hg).1; omega), h.ne, by simpa [frees, hin] using h3, by omega⟩
  have := h.own.but hb (fun g hg q => by have := (h.own.base g hg).1; omega)
  simpa [frees, hin] using this

set_option maxRecDepth 100000 in
set_option maxHeartbeats 4000000 in
theorem refLook_any (t : Nat) (gv : Value) (gs : List Int) (s : TS) (D th K sd : Int) (T : Nat) (kv : Value) (ks : List Int) (w : World) (h : Tape w t gv gs s) (h63 : gs.length < 1000) (hT : T ≤ 64) (hT1 : 1 ≤ T)
    (hk : Rd w .u64 kv ks) (hkn : ∀ g, kv.ownBlock = some g → g ≠ t) (hkl : ks.length < 1000) (hgn : ∀ g, gv.ownBlock = some g → g < w.heap.size) :
    Calls Tryd.prog 16 #[.pointer (some ⟨t, 0, none⟩), siteV D th T K sd, kv] w (LookPost t gv gs D T ks s w) := by
  have ht := h.lt
  obtain ⟨a, n, c, rfl, hn, hm, hc⟩ := hk
  have HN : Hid (ks.length = n) := Lib.hid hn
  have HC : Hid (0 < n → ∃ b off, a = some ⟨b, off, none⟩ ∧ ∀ j, j < n → w.cell? ⟨b, off + j, none⟩ = some (.int .u64 (ks[j]?.getD 0))) := Lib.hid hc
  clear hc
  have hKN : Hid (∀ g, (Value.slice a n c).ownBlock = some g → g ≠ t) := Lib.hid hkn
  have hGN : Hid (∀ g, gv.ownBlock = some g → g < w.heap.size) := Lib.hid hgn
  clear hkn hgn hn
  have hnl : Hid (nload ks T = if n = 0 then 0 else T) := by
    unfold nload
    have := HN.out
    rcases ks with _ | ⟨z, zs⟩
    · simp at this; subst this; rfl
    · simp at this; rw [if_neg (by simp), if_neg (by omega)]; rfl
  unfold siteV
  go_enter Tryd.func16, Tryd.ntmps16
  go_wp2_with fail
  go_loopw [7, 9] (fun tv iv wr => ∃ i : Nat, i ≤ nload ks T ∧ iv = .int .i64 i ∧ L1 w t gv gs D T s i tv wr) (fun _ iv _ => T - (intOf iv).toNat)
  case atStart =>
    refine ⟨0, by omega, rfl, ⟨by (repeat' (first | (with_reducible exact But.refl _ _) | (with_reducible assumption) | (with_reducible refine But.alloc ?_ _) | (with_reducible refine But.drew ?_) | (with_reducible refine But.drewN ?_ _) | (with_reducible refine But.setCell ?_ ?_ _) | (intro _; first | rfl | assumption | omega))), ?_, by simp [Value.ownBlock], by simp, ?_, by simp [go_sem], by simp [go_sem], ?_⟩⟩
    · exact (Own.made _ _ _ (by simp) (by omega)).alloc _
    · exact Tape.but (S := fun _ => False) (by (repeat' (first | (with_reducible exact But.refl _ _) | (with_reducible assumption) | (with_reducible refine But.alloc ?_ _) | (with_reducible refine But.drew ?_) | (with_reducible refine But.drewN ?_ _) | (with_reducible refine But.setCell ?_ ?_ _) | (intro _; first | rfl | assumption | omega)))) h id (fun _ _ q => q)
    · exact Own.made _ _ _ (by simp) (by omega)
  case round =>
    obtain ⟨i, hi, rfl, hL⟩ := hrel
    have HI : Hid (i ≤ nload ks T) := Lib.hid hi
    clear hi
    have hd := hL.d
    have he := hL.e
    by_cases hlt : i < nload ks T
    · have hn0 : 0 < n ∧ i < T := by
        rw [hnl.out] at hlt
        split at hlt <;> omega
      have hlt' : i < T := hn0.2
      have hn1 : 0 < n := hn0.1
      have hL2 := hL.drew
      have hd2 := hL2.d
      have HLT : Hid (i < nload ks T) := Lib.hid hlt
      clear hlt hn0 hL hd
      generalize u7 = tv at *
      have HL : Hid (L1 w t gv gs D T s i tv wr.drew) := Lib.hid hL2
      clear hL2
      have hB := refBox_any i (by omega) wr.drew
      generalize hj : ((3 + 2 * i : Nat) : Int) = j at hB
      have HJ : Hid (((3 + 2 * i : Nat) : Int) = j) := Lib.hid hj
      clear hj
      have hLo := load_any t gv gs (loads gs D s i).2 D j wr.drew HL.out.tape h63
      have HO : Hid (∀ w3, But (fun b => b = t) wr.drew w3 → ∀ o, Own (w.heap.size + 1) (w3.alloc o) tv (loads gs D s i).1) := Lib.hid fun w3 hb3 o => (HL.out.own.but hb3 (fun g hg q => by have := (HL.out.own.base g hg).1; omega)).alloc _
      have HZ : Hid (∀ w3, But (fun b => b = t) wr.drew w3 → ∀ o, w.heap.size + 1 ≤ (w3.alloc o).heap.size) := Lib.hid fun w3 hb3 o => by have h1 := HL.out.sz; have h2 := hb3.size; simp only [World.size_alloc]; omega
      have HNE : some w.heap.size ≠ tv.ownBlock := fun q => by have := (HL.out.own.base _ q.symm).1; omega
      have hne2 : w.heap.size ≠ t := by omega
      have HLN : (loads gs D s i).1.length + 1 < 10000 := by rw [loads_len]; omega
      go_wp2_with fail
      go_region_held3 (fun w' => w'.cell? ⟨w.heap.size, 0, none⟩ = some (.int .u64 D)) (first | assumption | (exact hb3.cell hd2 hne2) | (exact hgr4.cell (bel_cell (Below.alloc (Below.refl _ _) (Nat.le_refl _) _) (hb3.cell hd2 hne2)) HNE) | (exact bel_cell (Below.alloc (Below.refl _ _) (Nat.le_refl _) _) (hb3.cell hd2 hne2)) | go_keep)
        (first | (go_at_call 21; (with_reducible refine hB.mono ?_); rintro e w' ⟨rfl, rfl⟩) | (go_at_call 20; (with_reducible refine hLo.mono ?_); rintro e w3 ⟨rfl, hb3, ht3⟩) | (refine step_append_rd (by rfl) _ _ (by rfl) (HO.out w3 hb3 _) (Rd.new w3 .u64 [(TS.step gs (loads gs D s i).2 ⟨1, D, j, 0, 0⟩).1] 22 (by simp)) (by rfl) (by rfl) (HZ.out w3 hb3 _) HLN ?_; intro v4 w4 hown4 hgr4 hat4))
      go_wp2
      go_roundw
      case rel =>
        have hj := HJ.out
        subst hj
        exact ⟨i + 1, by have := HLT.out; omega, by simp, HL.out.next ht hGN.out hb3 (by simpa only [loads] using ht3) _ (by simpa only [loads] using hown4) hgr4 hat4⟩
      case measure => simp [intOf]; omega
    · have hin : i = nload ks T := by have := HI.out; omega
      clear hlt HI
      have hend : (n = 0 ∧ i = 0) ∨ (0 < n ∧ i = T) := by
        rw [hnl.out] at hin
        split at hin <;> omega
      generalize u7 = tv at *
      have hL1 := hL.tape
      have HLd : Hid (loads gs D s (nload ks T) = ((loads gs D s i).1, (loads gs D s i).2)) := Lib.hid (by rw [hin])
      have hld := loads_len gs D s i
      have hi64 : i ≤ 64 := by omega
      have HL : Hid (L1 w t gv gs D T s i tv wr) := Lib.hid hL
      clear hin hnl hL
      have hT0 := HL.out.own
      have hR0 := HL.out.rest
      have hB0 := HL.out.but
      have hN0 := HL.out.ne
      have hS0 := HL.out.sz
      clear HL hd
      generalize (loads gs D s i).1 = td at *
      generalize (loads gs D s i).2 = s1 at *
      have HS : Hid (L2 w t gv gs td ks s1 tv 0 (.slice (some ⟨w.heap.size + 1 + 1, 0, none⟩) 0 0) wr) := Lib.hid ⟨hB0, hR0, hT0, fun g hg q => by
        simp only [Value.ownBlock, Option.some.injEq] at hg
        exact hN0 (hg ▸ q), hL1, hS0⟩
      clear hT0 hR0 hB0 hN0 hL1 hS0
      rcases hend with ⟨h0, h1⟩ | ⟨h0, h1⟩
      · have hT2 : (i : Int) < (T : Int) := by omega
        have hn2 : ¬ (0 : Int) < (n : Int) := by omega
        go_wp2_with fail
        go_loopw [8, 10] (fun rv jv wx => ∃ j : Nat, j ≤ n ∧ jv = .int .i64 j ∧ L2 w t gv gs td ks s1 tv j rv wx) (fun _ jv _ => n - (intOf jv).toNat)
        case atStart => exact ⟨0, by omega, rfl, HS.out⟩
        case round =>
          obtain ⟨j, hj, rfl, hM⟩ := hrel
          generalize u8 = rv at *
          by_cases hlt : j < n
          · exact absurd hlt (by omega)
          · have hjn : j = ks.length := by have := HN.out; omega
            have HM : Hid (L2 w t gv gs td ks s1 tv j rv wr) := Lib.hid hM
            clear hM
            have hlt2 : ¬ (j : Int) < (n : Int) := by omega
            have HJN : Hid (j = ks.length) := Lib.hid hjn
            clear hjn
            go_wp2
            go_returns
            have hM := HM.out
            rw [HJN.out] at hM
            unfold LookPost
            rw [HLd.out]
            exact ⟨_, rfl, hM.but, Own.lower (base := w.heap.size + 1) hM.own (by omega), hM.tape⟩
      · have hT2 : ¬ (i : Int) < (T : Int) := by omega
        go_wp2_with fail
        go_loopw [8, 10] (fun rv jv wx => ∃ j : Nat, j ≤ n ∧ jv = .int .i64 j ∧ L2 w t gv gs td ks s1 tv j rv wx) (fun _ jv _ => n - (intOf jv).toNat)
        case atStart => exact ⟨0, by omega, rfl, HS.out⟩
        case round =>
          obtain ⟨j, hj, rfl, hM⟩ := hrel
          generalize u8 = rv at *
          by_cases hlt : j < n
          · obtain ⟨b, off, rfl, hc⟩ := HC.out (by omega)
            have hbt : b ≠ t := hKN.out b rfl
            have hcell := hM.but.cell (hc j hlt) hbt
            clear hc
            have hHas := has_any tv td (ks[j]?.getD 0) wr (hM.told.rd (by omega))
            have HM : Hid (L2 w t gv gs td ks s1 tv j rv wr) := Lib.hid hM
            have hfl := frees_len gs td ks s1 j
            have hFr := free_any t gv gs (frees gs td ks s1 j).2 (ks[j]?.getD 0) wr hM.tape h63
            clear hM
            have hks : ks.length = n := HN.out
            cases hin : inB td (ks[j]?.getD 0) with
            | true =>
              rw [hin] at hHas
              have HIN : Hid (inB td (ks[j]?.getD 0) = true) := Lib.hid hin
              clear hin hFr
              generalize hu : ks[j]?.getD 0 = u at *
              have HU : Hid (ks[j]?.getD 0 = u) := Lib.hid hu
              clear hu
              have HO : Hid (Own (w.heap.size + 1) (wr.alloc (.cells #[.int .u64 u] 22)) rv (frees gs td ks s1 j).1) := Lib.hid (HM.out.own.alloc _)
              have HR : Hid (Rd (wr.alloc (.cells #[.int .u64 u] 22)) .u64 (.slice (some ⟨wr.heap.size, 0, none⟩) 1 1) [u]) := Lib.hid (Rd.new wr .u64 [u] 22 (by simp))
              have hsz := HM.out.sz
              go_wp2_with (first | (go_at_call 22; (with_reducible refine hHas.mono ?_); rintro e w' ⟨rfl, rfl⟩) | (at_builtin; refine append_rd rfl _ _ rfl HO.out HR.out (by rfl) (by rfl) (by simp; omega) (by simp; omega) ?_; intro v4 w4 hown4 hgr4 hat4))
              go_roundw
              case rel => exact ⟨j + 1, by omega, by simp, HM.out.keep ht hGN.out (by rw [HU.out]; exact HIN.out) _ (by rw [HU.out]; exact hown4) hgr4 hat4⟩
              case measure => simp [intOf]; omega
            | false =>
              rw [hin] at hHas
              have HIN : Hid (inB td (ks[j]?.getD 0) = false) := Lib.hid hin
              clear hin
              generalize hu : ks[j]?.getD 0 = u at *
              have HU : Hid (ks[j]?.getD 0 = u) := Lib.hid hu
              clear hu
              go_wp2_with (first | (go_at_call 22; (with_reducible refine hHas.mono ?_); rintro e w' ⟨rfl, rfl⟩) | (go_at_call 23; (with_reducible refine hFr.mono ?_); rintro e w3 ⟨rfl, hb3, ht3⟩))
              go_roundw
              case rel => exact ⟨j + 1, by omega, by simp, HM.out.free ht (by rw [HU.out]; exact HIN.out) hb3 (by rw [HU.out]; exact ht3)⟩
              case measure => simp [intOf]; omega
          · have hjn : j = ks.length := by have := HN.out; omega
            have HM : Hid (L2 w t gv gs td ks s1 tv j rv wr) := Lib.hid hM
            clear hM
            have hlt2 : ¬ (j : Int) < (n : Int) := by omega
            have HJN : Hid (j = ks.length) := Lib.hid hjn
            clear hjn
            go_wp2
            go_returns
            have hM := HM.out
            rw [HJN.out] at hM
            unfold LookPost
            rw [HLd.out]
            exact ⟨_, rfl, hM.but, Own.lower (base := w.heap.size + 1) hM.own (by omega), hM.tape⟩
end Go.Proofs.YtaclkachohkenaaDoor
