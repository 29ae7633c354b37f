import Derived.Test.YtaclkachohkenaaDoorRetS
import Derived.Outline
import Derived.BigRegion
set_option linter.unusedVariables false
set_option linter.unusedSimpArgs false
namespace Go.Proofs.YtaclkachohkenaaDoor
open Go.RowKit Go.Maps

theorem LookPost.all {t : Nat} {gv : Value} {gs : List Int} {D : Int} {T : Nat} {ks : List Int} {s : TS} {w : World} {e : Ending} {w' : World} (h : LookPost t gv gs D T ks s w e w') : AllPost t gv gs D T (decide (0 < (ks.length : Int))) ks s w e w' := by
  unfold AllPost
  rcases ks with _ | ⟨k, ks⟩
  · exact h
  · rw [if_pos (by simp)]
    exact h

theorem slice_upto (a : Option Addr) (N cp n : Nat) (hn : n ≤ cp) (w : World) : (Instr.slice 25 (.slice a N cp) none (some (.int .i64 n)) none).run Tryd.prog w = .ok (.slice a n cp) w := by
  have hz : (sizeOf (Tryd.prog.elem 25)).run Tryd.prog w = .ok 1 w := by kernel_rfl
  rw [run_slice_h (w := w) 25 a N cp (by rfl) .i64 n (by omega) (by omega), hz]
  simp only [Result.andThen, sliced, Int.toNat_natCast, Nat.sub_zero, Nat.zero_mul]
  rcases a with _ | ⟨b, off, r⟩
  · simp
  · simp [Addr.add]

theorem Rd.take {w : World} {k : IntKind} {a : Option Addr} {N cp : Nat} {gs : List Int} (h : Rd w k (.slice a N cp) gs) {n : Nat} (hn : n ≤ N) (cp' : Nat) : Rd w k (.slice a n cp') (gs.take n) := by
  obtain ⟨a', N', c', he, h1, h2, h3⟩ := h
  injection he with e1 e2 e3
  subst e1 e2
  refine ⟨a, n, cp', rfl, by simp; omega, by omega, fun hp => ?_⟩
  obtain ⟨b, off, rfl, hc⟩ := h3 (by omega)
  refine ⟨b, off, rfl, fun j hj => ?_⟩
  rw [hc j (by omega), List.getElem?_take_of_lt hj]

theorem XS.rlt {w : World} {X M base : Nat} {D th T K sd : Int} {wv rv : Value} {ws rs td : List Int} {lk : Bool} {i p : Nat} (h : XS w X M base D th T K sd wv rv ws rs td lk i p) : ∀ g, rv.ownBlock = some g → g < w.heap.size := by
  intro g hg
  have hs := h.sz
  rcases h.rest with ⟨_, h1⟩ | ⟨_, h1, h2⟩ | ⟨_, h1, h2⟩
  · exact (h1.base g hg).2
  · rw [h1] at hg
    have := (h.wvn g hg).1
    omega
  · rw [h1] at hg
    simp [Value.ownBlock] at hg
theorem XS.past {w w1 w2 : World} {X M base : Nat} {D th T K sd : Int} {wv rv : Value} {ws rs td : List Int} {lk : Bool} {i p t : Nat} (h : XS w X M base D th T K sd wv rv ws rs td lk i p) (hb : Below w.heap.size w w1) (hc : But (fun b => b = t) w1 w2) (ht : w.heap.size ≤ t) :
    XS w2 X M base D th T K sd wv rv ws rs td lk i p := by
  have hs := h.sz
  have h1 := h.xb
  have h2 := h.mb
  exact (h.below hb).but hc (by omega) (by omega) (fun g hg q => by have := (h.wvn g hg).1; omega) (fun g hg q => by have := h.rlt g hg; omega)

/-- The relation of the loop of acts. -/
structure AL (X M base : Nat) (D th : Int) (T : Nat) (K sd : Int) (wv : Value) (gs ws : List Int) (lk : Bool) (b0 n : Nat) (w wr : World) : Prop where
  but : But (SX X M base) w wr
  box : Cs wr b0 0 [.int .u64 D, .int .i64 th, .int .i64 T, .int .i64 K, .int .u64 sd]
  x : ∃ rv td rs i p, XS wr X M base D th T K sd wv rv ws rs td lk i p ∧ St gs ws T lk n td rs i p

set_option maxRecDepth 100000 in
set_option maxHeartbeats 8000000 in
theorem acts_any (X M base : Nat) (D th K sd m : Int) (T : Nat) (wv rv : Value) (kv : Value) (ks gs ws rs : List Int) (lk look : Bool) (a : Option Addr) (N cp : Nat) (w : World)
    (h : XS w X M base D th T K sd wv rv ws rs [] lk 0 0) (hr : lk = true → rv = .slice none 0 0) (hst : St gs ws T lk 0 [] rs 0 0) (hT1 : 1 ≤ T) (hT : T ≤ 64) (hne : lk = true → ws ≠ [])
    (hk : Rd w .u64 kv ks) (hkl : ks.length < 90) (hkn : ∀ g, kv.ownBlock = some g → g < base ∧ g ≠ X ∧ g ≠ M) (hg : Rd w .u64 (.slice a N cp) gs) (hcp : N ≤ cp) (hN : N ≤ 150) (hgn : ∀ g, (Value.slice a N cp).ownBlock = some g → g < base ∧ g ≠ X ∧ g ≠ M)
    (hwf : ∀ u ∈ gs, 0 ≤ u ∧ u < 18446744073709551616)
    (h1 : look = true → ws = ks ∧ lk = decide (0 < (ks.length : Int))) (h2 : look = false → ws = alls ks m ∧ lk = decide (K ≤ (ws.length : Int))) :
    Calls Tryd.prog 10 #[.pointer (some ⟨X, 0, none⟩), siteV D th T K sd, kv, .int .u64 m, .bool look, .slice a N cp] w fun e w' => e = .returned (.bool true) ∧ But (fun b => b = X ∨ b = M) w w' := by
  unfold siteV
  have hXw : X < w.heap.size := by have := h.xb; have := h.sz; omega
  have hMw : M < w.heap.size := by have := h.mb; have := h.sz; omega
  have hsz := h.sz
  have hgl : gs.length = N := by
    obtain ⟨_, _, _, he, hl, _⟩ := hg
    injection he with e1 e2 e3
    omega
  have HG : Hid (Rd w .u64 (.slice a N cp) gs) := Lib.hid hg
  have HK : Hid (Rd w .u64 kv ks) := Lib.hid hk
  have HGN : Hid (∀ g, (Value.slice a N cp).ownBlock = some g → g < base ∧ g ≠ X ∧ g ≠ M) := Lib.hid hgn
  have HKN : Hid (∀ g, kv.ownBlock = some g → g < base ∧ g ≠ X ∧ g ≠ M) := Lib.hid hkn
  have HWF : Hid (∀ u ∈ gs, 0 ≤ u ∧ u < 18446744073709551616) := Lib.hid hwf
  have HGL : Hid (gs.length = N) := Lib.hid hgl
  have bA : Below w.heap.size w (w.alloc (.cells #[.int .u64 D, .int .i64 th, .int .i64 T, .int .i64 K, .int .u64 sd] 24)) := Below.alloc (Below.refl _ _) (Nat.le_refl _) _
  have hx0 := (h.below bA).rebase (base' := w.heap.size + 1) (by omega) (by simp) hr
  have HX : Hid (XS (w.alloc (.cells #[.int .u64 D, .int .i64 th, .int .i64 T, .int .i64 K, .int .u64 sd] 24)) X M (w.heap.size + 1) D th T K sd wv rv ws rs [] lk 0 0) := Lib.hid hx0
  have HST : Hid (St gs ws T lk 0 [] rs 0 0) := Lib.hid hst
  have H1 : Hid (look = true → ws = ks ∧ lk = decide (0 < (ks.length : Int))) := Lib.hid h1
  have H2 : Hid (look = false → ws = alls ks m ∧ lk = decide (K ≤ (ws.length : Int))) := Lib.hid h2
  have HNE : Hid (lk = true → ws ≠ []) := Lib.hid hne
  clear h hr hst hne hk hkn hg hgn hwf h1 h2 hx0 hgl
  go_enter Tryd.func10, Tryd.ntmps10
  go_wp2_with fail
  go_loopw [13] (fun iv wx => ∃ n : Nat, n ≤ N + 1 ∧ iv = .int .i64 n ∧ AL X M (w.heap.size + 1) D th T K sd wv gs ws lk w.heap.size (min n N) w wx) (fun iv _ => N + 1 - (intOf iv).toNat)
  case atStart =>
    refine ⟨0, by omega, rfl, ⟨But.of_below bA, Cs.at rfl rfl, _, _, _, _, _, HX.out, by rw [Nat.zero_min]; exact HST.out⟩⟩
  case round =>
    obtain ⟨n, hn, rfl, hal⟩ := hrel
    have HBo : Hid (But (SX X M (w.heap.size + 1)) w wr) := Lib.hid hal.but
    by_cases hlt : n ≤ N
    · rw [Nat.min_eq_left hlt] at hal
      obtain ⟨hbut, hbox, rv1, td, rs1, i, p, hx, hst⟩ := hal
      have HB : Hid (But (SX X M (w.heap.size + 1)) w wr) := Lib.hid hbut
      have HXr : Hid (XS wr X M (w.heap.size + 1) D th T K sd wv rv1 ws rs1 td lk i p) := Lib.hid hx
      have HSr : Hid (St gs ws T lk n td rs1 i p) := Lib.hid hst
      have HBX : Hid (Cs wr w.heap.size 0 [.int .u64 D, .int .i64 th, .int .i64 T, .int .i64 K, .int .u64 sd]) := Lib.hid hbox
      have hszr := hbut.size
      simp only [Cs, Nat.zero_add, Nat.reduceAdd] at hbox
      obtain ⟨c0, f0, c1, f1, c2, f2, c3, f3, c4, f4, _⟩ := hbox
      clear hbut hx hst
      have hl2 : (n : Int) ≤ (N : Int) := by omega
      have hsl := slice_upto a N cp n (by omega)
      have hl0 : w.heap.size < wr.heap.size := World.block_lt_of_cell? wr _ c0
      have hT' : (T : Int) ≤ 64 := by omega
      clear c0 f0 c1 f1 c2 f2 c3 f3 c4 f4
      go_upto_region 5 with fail
      refine wp_world (fun W => Below wr.heap.size wr W ∧ Tape W wr.heap.size (.slice a n cp) (gs.take n) TS.zero ∧ wr.heap.size < W.heap.size) ⟨by (repeat' (first | (with_reducible exact Below.refl _ _) | (with_reducible assumption) | (with_reducible refine Below.alloc ?_ ?_ _) | (with_reducible refine Below.drew ?_) | (with_reducible refine bel_drewN ?_ _) | (with_reducible refine Below.setCell ?_ ?_ _) | (with_reducible refine bel_after ?_ (by assumption)) | (exact Below.size (by assumption)) | omega | (simp only [World.size_alloc, World.size_setCell, World.size_drew, size_drewN] at *; omega))), ?_, by simp⟩ ?_
      · refine ⟨Cs.at rfl rfl, ?_, Nat.zero_le _, fun g hg q => ?_⟩
        · exact Rd.take (((HG.out.but HB.out (fun g hg q => by
            have h1 := HGN.out g hg
            rcases q with q | q | q <;> omega))).below (Below.alloc (Below.refl _ _) (Nat.le_refl _) _)) hlt cp
        · have := (HGN.out g (by rcases a with _ | ⟨_, _⟩ <;> exact hg)).1
          omega
      rintro W1 ⟨hb1, ht1, hs1⟩
      have hK1 := HBX.out.below (hb1.alloc (Nat.le_of_lt hs1) (.cells #[] 22)) (by omega)
      simp only [Cs, Nat.zero_add, Nat.reduceAdd] at hK1
      obtain ⟨c0, f0, c1, f1, c2, f2, c3, f3, c4, f4, _⟩ := hK1
      have htn : (gs.take n).length < 1000 := by have := HGL.out; simp; omega
      have hkW : Rd (W1.alloc (.cells #[] 22)) .u64 kv ks := (HK.out.but HB.out (fun g hg q => by
        have h1 := HKN.out g hg
        rcases q with q | q | q <;> omega)).below (hb1.alloc (Nat.le_of_lt hs1) _)
      have hkt : ∀ g, kv.ownBlock = some g → g ≠ wr.heap.size := fun g hg q => by have := HKN.out g hg; omega
      have hgt : ∀ g, (Value.slice a n cp).ownBlock = some g → g < (W1.alloc (.cells #[] 22)).heap.size := fun g hg => by have := HGN.out g (by rcases a with _ | ⟨_, _⟩ <;> exact hg); simp only [World.size_alloc]; omega
      have HT1 : Hid (Tape (W1.alloc (.cells #[] 22)) wr.heap.size (.slice a n cp) (gs.take n) TS.zero) := Lib.hid (ht1.below (Below.alloc (Below.refl _ _) (Nat.le_refl _) _))
      have hwsl := HXr.out.len
      have hgl := HGL.out
      cases look with
      | true =>
        have hL : Calls Tryd.prog 16 #[.pointer (some ⟨wr.heap.size, 0, none⟩), siteV D th T K sd, kv] (W1.alloc (.cells #[] 22)) (Agree wr.heap.size (.slice a n cp) (gs.take n) rs1 (xact D T ws lk i p) (W1.alloc (.cells #[] 22))) := by
          obtain ⟨e1, e2⟩ := H1.out rfl
          refine (refLook_any wr.heap.size (.slice a n cp) (gs.take n) TS.zero D th K sd T kv ks _ HT1.out htn hT hT1 hkW hkt (by omega) hgt).mono fun e w' h => ?_
          have h' := h.all
          rw [← e2, ← e1] at h'
          exact agree HSr.out (by omega) hT1 HNE.out hwsl h'
        clear ht1 htn hkW hkt hgt hgl
        unfold siteV at hL
        go_wp2_with fail
        (with_reducible refine hL.mono ?_)
        rintro e W2 ⟨v, want, s2, rfl, hb2, hown2, ht2, ho2, ha2, hw2, hl2'⟩
        have hx2 := HXr.out.past (hb1.alloc (Nat.le_of_lt hs1) (.cells #[] 22)) hb2 (Nat.le_refl _)
        have hR := result_any hx2 hT'
        have hs2 := hb2.size
        have hwn := hown2.rd (by omega)
        have HW : Hid (Rd W2 .u64 v want) := Lib.hid hwn
        have HW2 : Hid ((xact D T ws lk i p).2 = false → want = rs1) := Lib.hid hw2
        have hA : Hid (∀ W3, Below W2.heap.size W2 W3 → Calls Tryd.prog 8 #[.pointer (some ⟨X, 0, none⟩)] W3 (Ret (.tuple #[(xact D T ws lk i p).1.val, .bool (xact D T ws lk i p).2]) W3)) := Lib.hid fun W3 hb3 => act_any (hx2.below hb3) hT'
        have HX2 : Hid (XS W2 X M (w.heap.size + 1) D th T K sd wv rv1 ws rs1 td lk i p) := Lib.hid hx2
        obtain ⟨i2, over2, act2⟩ := s2
        simp only at ho2 ha2
        subst ho2 ha2
        generalize xact D T ws lk i p = r at *
        obtain ⟨⟨k5, b5, c5, o5, n5⟩, more⟩ := r
        simp only [World.size_alloc] at hs2
        simp only [A5.val] at hR hA
        generalize hdn : (!more) = dn at hR
        have HD : Hid ((!more) = dn) := Lib.hid hdn
        clear hdn
        have hcs2 := ht2.cs
        simp only [A5.vals, Cs, List.cons_append, List.nil_append, Nat.zero_add, Nat.reduceAdd] at hcs2
        obtain ⟨_, _, _, _, t2, _, t3, _, t4, _, t5, _, t6, _, t7, _, _⟩ := hcs2
        have hB2 : Hid (But (SX X M (w.heap.size + 1)) w W2) := Lib.hid (HB.out.then ((But.of_below (hb1.alloc (Nat.le_of_lt hs1) (.cells #[] 22))).trans hb2) (fun b hb q => by omega))
        have hK2 : Hid (Cs W2 w.heap.size 0 [.int .u64 D, .int .i64 th, .int .i64 T, .int .i64 K, .int .u64 sd]) := Lib.hid ((HBX.out.below (hb1.alloc (Nat.le_of_lt hs1) (.cells #[] 22)) (by omega)).but hb2 (by omega))
        clear hb2 hown2 ht2 hw2 hx2 hwn hL
        go_wp2_with fail
        (with_reducible refine hR.mono ?_)
        rintro e W3 ⟨lv, rfl, hb3, hown3⟩
        have HLV : Hid (Own W2.heap.size W3 lv (if more = true then [] else rs1)) := Lib.hid hown3
        have hA3 := hA.out W3 hb3
        have hs3 := hb3.size
        clear hown3
        go_wp2_with fail
        (with_reducible refine hA3.mono ?_)
        rintro e W4 ⟨rfl, hb4⟩
        have hs4 := hb4.size
        go_wp2_with fail
        have hB3 := hB2.out.then (S' := fun _ => False) (But.of_below ((hb3.trans (hb4.mono hs3)).alloc (by omega) (.cells #[.int .i64 k5, .int .u64 b5, .int .i64 c5, .int .u64 o5, .int .u64 n5] 32))) (fun _ _ q => q.elim)
        have hbt : Below W2.heap.size W2 (W4.alloc (.cells #[.int .i64 k5, .int .u64 b5, .int .i64 c5, .int .u64 o5, .int .u64 n5] 32)) := (hb3.trans (hb4.mono hs3)).alloc (by omega) _
        have hbt3 : Below W3.heap.size W3 (W4.alloc (.cells #[.int .i64 k5, .int .u64 b5, .int .i64 c5, .int .u64 o5, .int .u64 n5] 32)) := hb4.alloc (by omega) _
        refine wp_world (fun W => But (SX X M (w.heap.size + 1)) w W ∧ Below W2.heap.size W2 W ∧ Below W3.heap.size W3 W ∧ Cs W W4.heap.size 0 [.int .i64 k5, .int .u64 b5, .int .i64 c5, .int .u64 o5, .int .u64 n5]) ⟨hB3, hbt, hbt3, Cs.at rfl rfl⟩ ?_
        clear hB3 hbt hbt3
        rintro W5 ⟨hB5, hb5, hb53, hcs5⟩
        have hX5 : Hid (XS W5 X M (w.heap.size + 1) D th T K sd wv rv1 ws rs1 td lk i p) := Lib.hid (HX2.out.below hb5)
        have HB5 : Hid (But (SX X M (w.heap.size + 1)) w W5) := Lib.hid hB5
        have hB5s := hB5.size
        have hW52 := hb5.size
        have HK5 : Hid (Cs W5 w.heap.size 0 [.int .u64 D, .int .i64 th, .int .i64 T, .int .i64 K, .int .u64 sd]) := Lib.hid (hK2.out.below hb5 (by omega))
        simp only [Cs, Nat.zero_add, Nat.reduceAdd] at hcs5
        obtain ⟨a0, _, a1, _, a2, _, a3, _, a4, _, _⟩ := hcs5
        have L2 : ∀ x : Later W5, x.W.cell? ⟨wr.heap.size, 2, none⟩ = some (.bool more) := fun x => x.cell (bel_cell hb5 t2)
        have L3 : ∀ x : Later W5, x.W.cell? ⟨wr.heap.size, 3, none⟩ = some (.int .i64 k5) := fun x => x.cell (bel_cell hb5 t3)
        have L4 : ∀ x : Later W5, x.W.cell? ⟨wr.heap.size, 4, none⟩ = some (.int .u64 b5) := fun x => x.cell (bel_cell hb5 t4)
        have L5 : ∀ x : Later W5, x.W.cell? ⟨wr.heap.size, 5, none⟩ = some (.int .i64 c5) := fun x => x.cell (bel_cell hb5 t5)
        have L6 : ∀ x : Later W5, x.W.cell? ⟨wr.heap.size, 6, none⟩ = some (.int .u64 o5) := fun x => x.cell (bel_cell hb5 t6)
        have L7 : ∀ x : Later W5, x.W.cell? ⟨wr.heap.size, 7, none⟩ = some (.int .u64 n5) := fun x => x.cell (bel_cell hb5 t7)
        have A0 : ∀ x : Later W5, x.W.cell? ⟨W4.heap.size, 0, none⟩ = some (.int .i64 k5) := fun x => x.cell a0
        have A1 : ∀ x : Later W5, x.W.cell? ⟨W4.heap.size, 1, none⟩ = some (.int .u64 b5) := fun x => x.cell a1
        have A2 : ∀ x : Later W5, x.W.cell? ⟨W4.heap.size, 2, none⟩ = some (.int .i64 c5) := fun x => x.cell a2
        have A3 : ∀ x : Later W5, x.W.cell? ⟨W4.heap.size, 3, none⟩ = some (.int .u64 o5) := fun x => x.cell a3
        have A4 : ∀ x : Later W5, x.W.cell? ⟨W4.heap.size, 4, none⟩ = some (.int .u64 n5) := fun x => x.cell a4
        clear hB5 t2 t3 t4 t5 t6 t7 a0 a1 a2 a3 a4 hb3 hb4 hA3
        cases more with
        | true =>
          obtain rfl : false = dn := HD.out
          have hlv := HLV.out
          obtain ⟨lA, lc, rfl⟩ := own_slice hlv
          simp only [if_true, List.length_nil] at *
          clear hlv
          refine wp_region_later (by kernel_rfl) (by kernel_rfl) ?_
          repeat (go_big_quiet_step (fail))
          refine wpQuiet_nil ?_
          intro x
          have hX6 := hX5.out.below x.h
          have hB6 := HB5.out.then (S' := fun _ => False) (But.of_below x.h) (fun _ _ q => q.elim)
          have hK6 := HK5.out.below x.h (by have := hB5s; omega)
          generalize x.W = W6 at *
          clear L2 L3 L4 L5 L6 L7 A0 A1 A2 A3 A4
          have HX6 : Hid (XS W6 X M (w.heap.size + 1) D th T K sd wv rv1 ws rs1 td lk i p) := Lib.hid hX6
          have HB6 : Hid (But (SX X M (w.heap.size + 1)) w W6) := Lib.hid hB6
          have HK6 : Hid (Cs W6 w.heap.size 0 [.int .u64 D, .int .i64 th, .int .i64 T, .int .i64 K, .int .u64 sd]) := Lib.hid hK6
          clear hX6 hB6 hK6
          by_cases hn2 : n < N
          · have hgW := HG.out.but HB6.out (fun g hg q => by
              have h1 := HGN.out g hg
              rcases q with q | q | q <;> omega)
            obtain ⟨a', N', c', he, h1, h2, h3⟩ := hgW
            injection he with e1 e2 e3
            subst e1 e2 e3
            obtain ⟨b, off, rfl, hc⟩ := h3 (by omega)
            have d := hc n hn2
            have hTk := takeSt HX6.out HSr.out hT (by have := HGL.out; omega) HWF.out
            generalize gs[n]?.getD 0 = g at d hTk
            have hn3 : (n : Int) < (N : Int) := by omega
            have hn4 : (0 : Int) ≤ (n : Int) := by omega
            clear h1 h3 hc
            go_wp2_with fail
            (with_reducible refine hTk.mono ?_)
            rintro e W7 ⟨rfl, hb7, rv7, td7, rs7, i7, p7, hx7, hst7⟩
            have HR7 : Hid (AL X M (w.heap.size + 1) D th T K sd wv gs ws lk w.heap.size (n + 1) w W7) := Lib.hid ⟨HB6.out.trans hb7, HK6.out.but hb7 (fun q => by rcases q with q | q | q <;> omega), rv7, td7, rs7, i7, p7, hx7, hst7⟩
            clear hb7 hx7 hst7 hTk
            go_wp2_with fail
            go_roundw
            case rel => exact ⟨n + 1, by omega, by go_num, by rw [Nat.min_eq_left (by omega)]; exact HR7.out⟩
            case measure => simp [intOf]; omega
          · have hn3 : ¬ (n : Int) < (N : Int) := by omega
            have hnN : n = N := by omega
            have HR7 : Hid (AL X M (w.heap.size + 1) D th T K sd wv gs ws lk w.heap.size (min (n + 1) N) w W6) := Lib.hid (by rw [Nat.min_eq_right (by omega), ← hnN]; exact ⟨HB6.out, HK6.out, rv1, td, rs1, i, p, HX6.out, HSr.out⟩)
            clear hnN
            go_wp2_with fail
            go_roundw
            case rel => exact ⟨n + 1, by omega, by go_num, HR7.out⟩
            case measure => simp [intOf]; omega
        | false =>
          obtain rfl : true = dn := HD.out
          have hwq := (HW2.out rfl).symm
          subst hwq
          have hWd : Hid (∀ x : Later W5, Calls Tryd.prog 12 #[lv, v] x.W (Ret (.bool (decide (rs1 = rs1))) x.W)) := Lib.hid fun x => words_any lv v rs1 rs1 x.W (((HLV.out.rd (Nat.le_trans hl2' (by omega))).below hb53).below x.h) ((HW.out.below hb5).below x.h)
          refine wp_region_later (by kernel_rfl) (by kernel_rfl) ?_
          repeat (go_big_quiet_step (((go_at_call 12; exact Later.call _ (hWd.out _)))))
          refine wpQuiet_nil ?_
          intro x
          have hX6 := hX5.out.below x.h
          have hB6 := HB5.out.then (S' := fun _ => False) (But.of_below x.h) (fun _ _ q => q.elim)
          have hK6 := HK5.out.below x.h (by have := hB5s; omega)
          generalize x.W = W6 at *
          clear L2 L3 L4 L5 L6 L7 A0 A1 A2 A3 A4
          have HX6 : Hid (XS W6 X M (w.heap.size + 1) D th T K sd wv rv1 ws rs1 td lk i p) := Lib.hid hX6
          have HB6 : Hid (But (SX X M (w.heap.size + 1)) w W6) := Lib.hid hB6
          have HK6 : Hid (Cs W6 w.heap.size 0 [.int .u64 D, .int .i64 th, .int .i64 T, .int .i64 K, .int .u64 sd]) := Lib.hid hK6
          clear hX6 hB6 hK6
          by_cases hn2 : n < N
          · have hgW := HG.out.but HB6.out (fun g hg q => by
              have h1 := HGN.out g hg
              rcases q with q | q | q <;> omega)
            obtain ⟨a', N', c', he, h1, h2, h3⟩ := hgW
            injection he with e1 e2 e3
            subst e1 e2 e3
            obtain ⟨b, off, rfl, hc⟩ := h3 (by omega)
            have d := hc n hn2
            have hTk := takeSt HX6.out HSr.out hT (by have := HGL.out; omega) HWF.out
            generalize gs[n]?.getD 0 = g at d hTk
            have hn3 : (n : Int) < (N : Int) := by omega
            have hn4 : (0 : Int) ≤ (n : Int) := by omega
            clear h1 h3 hc
            go_wp2_with fail
            (with_reducible refine hTk.mono ?_)
            rintro e W7 ⟨rfl, hb7, rv7, td7, rs7, i7, p7, hx7, hst7⟩
            have HR7 : Hid (AL X M (w.heap.size + 1) D th T K sd wv gs ws lk w.heap.size (n + 1) w W7) := Lib.hid ⟨HB6.out.trans hb7, HK6.out.but hb7 (fun q => by rcases q with q | q | q <;> omega), rv7, td7, rs7, i7, p7, hx7, hst7⟩
            clear hb7 hx7 hst7 hTk
            go_wp2_with fail
            go_roundw
            case rel => exact ⟨n + 1, by omega, by go_num, by rw [Nat.min_eq_left (by omega)]; exact HR7.out⟩
            case measure => simp [intOf]; omega
          · have hn3 : ¬ (n : Int) < (N : Int) := by omega
            have hnN : n = N := by omega
            have HR7 : Hid (AL X M (w.heap.size + 1) D th T K sd wv gs ws lk w.heap.size (min (n + 1) N) w W6) := Lib.hid (by rw [Nat.min_eq_right (by omega), ← hnN]; exact ⟨HB6.out, HK6.out, rv1, td, rs1, i, p, HX6.out, HSr.out⟩)
            clear hnN
            go_wp2_with fail
            go_roundw
            case rel => exact ⟨n + 1, by omega, by go_num, HR7.out⟩
            case measure => simp [intOf]; omega
      | false =>
        have hL : Calls Tryd.prog 17 #[.pointer (some ⟨wr.heap.size, 0, none⟩), siteV D th T K sd, kv, .int .u64 m] (W1.alloc (.cells #[] 22)) (Agree wr.heap.size (.slice a n cp) (gs.take n) rs1 (xact D T ws lk i p) (W1.alloc (.cells #[] 22))) := by
          obtain ⟨e1, e2⟩ := H2.out rfl
          refine (refRetire_any wr.heap.size (.slice a n cp) (gs.take n) TS.zero D th K sd m T kv ks _ HT1.out htn hT hT1 hkW hkt (by omega) hgt).mono fun e w' h => ?_
          rw [← e1, ← e2] at h
          exact agree HSr.out (by omega) hT1 HNE.out hwsl h
        clear ht1 htn hkW hkt hgt hgl
        unfold siteV at hL
        go_wp2_with fail
        (with_reducible refine hL.mono ?_)
        rintro e W2 ⟨v, want, s2, rfl, hb2, hown2, ht2, ho2, ha2, hw2, hl2'⟩
        have hx2 := HXr.out.past (hb1.alloc (Nat.le_of_lt hs1) (.cells #[] 22)) hb2 (Nat.le_refl _)
        have hR := result_any hx2 hT'
        have hs2 := hb2.size
        have hwn := hown2.rd (by omega)
        have HW : Hid (Rd W2 .u64 v want) := Lib.hid hwn
        have HW2 : Hid ((xact D T ws lk i p).2 = false → want = rs1) := Lib.hid hw2
        have hA : Hid (∀ W3, Below W2.heap.size W2 W3 → Calls Tryd.prog 8 #[.pointer (some ⟨X, 0, none⟩)] W3 (Ret (.tuple #[(xact D T ws lk i p).1.val, .bool (xact D T ws lk i p).2]) W3)) := Lib.hid fun W3 hb3 => act_any (hx2.below hb3) hT'
        have HX2 : Hid (XS W2 X M (w.heap.size + 1) D th T K sd wv rv1 ws rs1 td lk i p) := Lib.hid hx2
        obtain ⟨i2, over2, act2⟩ := s2
        simp only at ho2 ha2
        subst ho2 ha2
        generalize xact D T ws lk i p = r at *
        obtain ⟨⟨k5, b5, c5, o5, n5⟩, more⟩ := r
        simp only [World.size_alloc] at hs2
        simp only [A5.val] at hR hA
        generalize hdn : (!more) = dn at hR
        have HD : Hid ((!more) = dn) := Lib.hid hdn
        clear hdn
        have hcs2 := ht2.cs
        simp only [A5.vals, Cs, List.cons_append, List.nil_append, Nat.zero_add, Nat.reduceAdd] at hcs2
        obtain ⟨_, _, _, _, t2, _, t3, _, t4, _, t5, _, t6, _, t7, _, _⟩ := hcs2
        have hB2 : Hid (But (SX X M (w.heap.size + 1)) w W2) := Lib.hid (HB.out.then ((But.of_below (hb1.alloc (Nat.le_of_lt hs1) (.cells #[] 22))).trans hb2) (fun b hb q => by omega))
        have hK2 : Hid (Cs W2 w.heap.size 0 [.int .u64 D, .int .i64 th, .int .i64 T, .int .i64 K, .int .u64 sd]) := Lib.hid ((HBX.out.below (hb1.alloc (Nat.le_of_lt hs1) (.cells #[] 22)) (by omega)).but hb2 (by omega))
        clear hb2 hown2 ht2 hw2 hx2 hwn hL
        go_wp2_with fail
        (with_reducible refine hR.mono ?_)
        rintro e W3 ⟨lv, rfl, hb3, hown3⟩
        have HLV : Hid (Own W2.heap.size W3 lv (if more = true then [] else rs1)) := Lib.hid hown3
        have hA3 := hA.out W3 hb3
        have hs3 := hb3.size
        clear hown3
        go_wp2_with fail
        (with_reducible refine hA3.mono ?_)
        rintro e W4 ⟨rfl, hb4⟩
        have hs4 := hb4.size
        go_wp2_with fail
        have hB3 := hB2.out.then (S' := fun _ => False) (But.of_below ((hb3.trans (hb4.mono hs3)).alloc (by omega) (.cells #[.int .i64 k5, .int .u64 b5, .int .i64 c5, .int .u64 o5, .int .u64 n5] 32))) (fun _ _ q => q.elim)
        have hbt : Below W2.heap.size W2 (W4.alloc (.cells #[.int .i64 k5, .int .u64 b5, .int .i64 c5, .int .u64 o5, .int .u64 n5] 32)) := (hb3.trans (hb4.mono hs3)).alloc (by omega) _
        have hbt3 : Below W3.heap.size W3 (W4.alloc (.cells #[.int .i64 k5, .int .u64 b5, .int .i64 c5, .int .u64 o5, .int .u64 n5] 32)) := hb4.alloc (by omega) _
        refine wp_world (fun W => But (SX X M (w.heap.size + 1)) w W ∧ Below W2.heap.size W2 W ∧ Below W3.heap.size W3 W ∧ Cs W W4.heap.size 0 [.int .i64 k5, .int .u64 b5, .int .i64 c5, .int .u64 o5, .int .u64 n5]) ⟨hB3, hbt, hbt3, Cs.at rfl rfl⟩ ?_
        clear hB3 hbt hbt3
        rintro W5 ⟨hB5, hb5, hb53, hcs5⟩
        have hX5 : Hid (XS W5 X M (w.heap.size + 1) D th T K sd wv rv1 ws rs1 td lk i p) := Lib.hid (HX2.out.below hb5)
        have HB5 : Hid (But (SX X M (w.heap.size + 1)) w W5) := Lib.hid hB5
        have hB5s := hB5.size
        have hW52 := hb5.size
        have HK5 : Hid (Cs W5 w.heap.size 0 [.int .u64 D, .int .i64 th, .int .i64 T, .int .i64 K, .int .u64 sd]) := Lib.hid (hK2.out.below hb5 (by omega))
        simp only [Cs, Nat.zero_add, Nat.reduceAdd] at hcs5
        obtain ⟨a0, _, a1, _, a2, _, a3, _, a4, _, _⟩ := hcs5
        have L2 : ∀ x : Later W5, x.W.cell? ⟨wr.heap.size, 2, none⟩ = some (.bool more) := fun x => x.cell (bel_cell hb5 t2)
        have L3 : ∀ x : Later W5, x.W.cell? ⟨wr.heap.size, 3, none⟩ = some (.int .i64 k5) := fun x => x.cell (bel_cell hb5 t3)
        have L4 : ∀ x : Later W5, x.W.cell? ⟨wr.heap.size, 4, none⟩ = some (.int .u64 b5) := fun x => x.cell (bel_cell hb5 t4)
        have L5 : ∀ x : Later W5, x.W.cell? ⟨wr.heap.size, 5, none⟩ = some (.int .i64 c5) := fun x => x.cell (bel_cell hb5 t5)
        have L6 : ∀ x : Later W5, x.W.cell? ⟨wr.heap.size, 6, none⟩ = some (.int .u64 o5) := fun x => x.cell (bel_cell hb5 t6)
        have L7 : ∀ x : Later W5, x.W.cell? ⟨wr.heap.size, 7, none⟩ = some (.int .u64 n5) := fun x => x.cell (bel_cell hb5 t7)
        have A0 : ∀ x : Later W5, x.W.cell? ⟨W4.heap.size, 0, none⟩ = some (.int .i64 k5) := fun x => x.cell a0
        have A1 : ∀ x : Later W5, x.W.cell? ⟨W4.heap.size, 1, none⟩ = some (.int .u64 b5) := fun x => x.cell a1
        have A2 : ∀ x : Later W5, x.W.cell? ⟨W4.heap.size, 2, none⟩ = some (.int .i64 c5) := fun x => x.cell a2
        have A3 : ∀ x : Later W5, x.W.cell? ⟨W4.heap.size, 3, none⟩ = some (.int .u64 o5) := fun x => x.cell a3
        have A4 : ∀ x : Later W5, x.W.cell? ⟨W4.heap.size, 4, none⟩ = some (.int .u64 n5) := fun x => x.cell a4
        clear hB5 t2 t3 t4 t5 t6 t7 a0 a1 a2 a3 a4 hb3 hb4 hA3
        cases more with
        | true =>
          obtain rfl : false = dn := HD.out
          have hlv := HLV.out
          obtain ⟨lA, lc, rfl⟩ := own_slice hlv
          simp only [if_true, List.length_nil] at *
          clear hlv
          refine wp_region_later (by kernel_rfl) (by kernel_rfl) ?_
          repeat (go_big_quiet_step (fail))
          refine wpQuiet_nil ?_
          intro x
          have hX6 := hX5.out.below x.h
          have hB6 := HB5.out.then (S' := fun _ => False) (But.of_below x.h) (fun _ _ q => q.elim)
          have hK6 := HK5.out.below x.h (by have := hB5s; omega)
          generalize x.W = W6 at *
          clear L2 L3 L4 L5 L6 L7 A0 A1 A2 A3 A4
          have HX6 : Hid (XS W6 X M (w.heap.size + 1) D th T K sd wv rv1 ws rs1 td lk i p) := Lib.hid hX6
          have HB6 : Hid (But (SX X M (w.heap.size + 1)) w W6) := Lib.hid hB6
          have HK6 : Hid (Cs W6 w.heap.size 0 [.int .u64 D, .int .i64 th, .int .i64 T, .int .i64 K, .int .u64 sd]) := Lib.hid hK6
          clear hX6 hB6 hK6
          by_cases hn2 : n < N
          · have hgW := HG.out.but HB6.out (fun g hg q => by
              have h1 := HGN.out g hg
              rcases q with q | q | q <;> omega)
            obtain ⟨a', N', c', he, h1, h2, h3⟩ := hgW
            injection he with e1 e2 e3
            subst e1 e2 e3
            obtain ⟨b, off, rfl, hc⟩ := h3 (by omega)
            have d := hc n hn2
            have hTk := takeSt HX6.out HSr.out hT (by have := HGL.out; omega) HWF.out
            generalize gs[n]?.getD 0 = g at d hTk
            have hn3 : (n : Int) < (N : Int) := by omega
            have hn4 : (0 : Int) ≤ (n : Int) := by omega
            clear h1 h3 hc
            go_wp2_with fail
            (with_reducible refine hTk.mono ?_)
            rintro e W7 ⟨rfl, hb7, rv7, td7, rs7, i7, p7, hx7, hst7⟩
            have HR7 : Hid (AL X M (w.heap.size + 1) D th T K sd wv gs ws lk w.heap.size (n + 1) w W7) := Lib.hid ⟨HB6.out.trans hb7, HK6.out.but hb7 (fun q => by rcases q with q | q | q <;> omega), rv7, td7, rs7, i7, p7, hx7, hst7⟩
            clear hb7 hx7 hst7 hTk
            go_wp2_with fail
            go_roundw
            case rel => exact ⟨n + 1, by omega, by go_num, by rw [Nat.min_eq_left (by omega)]; exact HR7.out⟩
            case measure => simp [intOf]; omega
          · have hn3 : ¬ (n : Int) < (N : Int) := by omega
            have hnN : n = N := by omega
            have HR7 : Hid (AL X M (w.heap.size + 1) D th T K sd wv gs ws lk w.heap.size (min (n + 1) N) w W6) := Lib.hid (by rw [Nat.min_eq_right (by omega), ← hnN]; exact ⟨HB6.out, HK6.out, rv1, td, rs1, i, p, HX6.out, HSr.out⟩)
            clear hnN
            go_wp2_with fail
            go_roundw
            case rel => exact ⟨n + 1, by omega, by go_num, HR7.out⟩
            case measure => simp [intOf]; omega
        | false =>
          obtain rfl : true = dn := HD.out
          have hwq := (HW2.out rfl).symm
          subst hwq
          have hWd : Hid (∀ x : Later W5, Calls Tryd.prog 12 #[lv, v] x.W (Ret (.bool (decide (rs1 = rs1))) x.W)) := Lib.hid fun x => words_any lv v rs1 rs1 x.W (((HLV.out.rd (Nat.le_trans hl2' (by omega))).below hb53).below x.h) ((HW.out.below hb5).below x.h)
          refine wp_region_later (by kernel_rfl) (by kernel_rfl) ?_
          repeat (go_big_quiet_step (((go_at_call 12; exact Later.call _ (hWd.out _)))))
          refine wpQuiet_nil ?_
          intro x
          have hX6 := hX5.out.below x.h
          have hB6 := HB5.out.then (S' := fun _ => False) (But.of_below x.h) (fun _ _ q => q.elim)
          have hK6 := HK5.out.below x.h (by have := hB5s; omega)
          generalize x.W = W6 at *
          clear L2 L3 L4 L5 L6 L7 A0 A1 A2 A3 A4
          have HX6 : Hid (XS W6 X M (w.heap.size + 1) D th T K sd wv rv1 ws rs1 td lk i p) := Lib.hid hX6
          have HB6 : Hid (But (SX X M (w.heap.size + 1)) w W6) := Lib.hid hB6
          have HK6 : Hid (Cs W6 w.heap.size 0 [.int .u64 D, .int .i64 th, .int .i64 T, .int .i64 K, .int .u64 sd]) := Lib.hid hK6
          clear hX6 hB6 hK6
          by_cases hn2 : n < N
          · have hgW := HG.out.but HB6.out (fun g hg q => by
              have h1 := HGN.out g hg
              rcases q with q | q | q <;> omega)
            obtain ⟨a', N', c', he, h1, h2, h3⟩ := hgW
            injection he with e1 e2 e3
            subst e1 e2 e3
            obtain ⟨b, off, rfl, hc⟩ := h3 (by omega)
            have d := hc n hn2
            have hTk := takeSt HX6.out HSr.out hT (by have := HGL.out; omega) HWF.out
            generalize gs[n]?.getD 0 = g at d hTk
            have hn3 : (n : Int) < (N : Int) := by omega
            have hn4 : (0 : Int) ≤ (n : Int) := by omega
            clear h1 h3 hc
            go_wp2_with fail
            (with_reducible refine hTk.mono ?_)
            rintro e W7 ⟨rfl, hb7, rv7, td7, rs7, i7, p7, hx7, hst7⟩
            have HR7 : Hid (AL X M (w.heap.size + 1) D th T K sd wv gs ws lk w.heap.size (n + 1) w W7) := Lib.hid ⟨HB6.out.trans hb7, HK6.out.but hb7 (fun q => by rcases q with q | q | q <;> omega), rv7, td7, rs7, i7, p7, hx7, hst7⟩
            clear hb7 hx7 hst7 hTk
            go_wp2_with fail
            go_roundw
            case rel => exact ⟨n + 1, by omega, by go_num, by rw [Nat.min_eq_left (by omega)]; exact HR7.out⟩
            case measure => simp [intOf]; omega
          · have hn3 : ¬ (n : Int) < (N : Int) := by omega
            have hnN : n = N := by omega
            have HR7 : Hid (AL X M (w.heap.size + 1) D th T K sd wv gs ws lk w.heap.size (min (n + 1) N) w W6) := Lib.hid (by rw [Nat.min_eq_right (by omega), ← hnN]; exact ⟨HB6.out, HK6.out, rv1, td, rs1, i, p, HX6.out, HSr.out⟩)
            clear hnN
            go_wp2_with fail
            go_roundw
            case rel => exact ⟨n + 1, by omega, by go_num, HR7.out⟩
            case measure => simp [intOf]; omega
    · have hnN : n = N + 1 := by omega
      have hB := HBo.out.mono (S' := fun b => b = X ∨ b = M) (fun b hb q => by rcases q with q | q | q; exact .inl q; exact .inr q; omega)
      have hl2 : ¬ (n : Int) ≤ (N : Int) := by omega
      go_wp2_with fail
      go_ret
      exact ⟨rfl, hB⟩
end Go.Proofs.YtaclkachohkenaaDoor
