import Derived.Test.YtclflmpdjlflaaaArG
import Derived.Test.YtclflmpdjlflaaaKeepP
import Derived.Outline
set_option linter.unusedVariables false
set_option linter.unusedSimpArgs false
namespace Go.Proofs.Ytclflmpdjlflaaa
open Go.RowKit Go.Maps

/-- What is the client's own: the box of the array, the list of blocks. -/
def KX (w : World) (bv : Value) (x : Nat) : Prop := x = w.heap.size ∨ bv.ownBlock = some x
structure KM (w : World) (A : Nat) (st : AR) (K : Nat) (bv : Value) (l : List Int) (a0 a1 a2 : Int) (wr : World) : Prop where
  ac : AC w wr A st K (KX w bv)
  own : Own (w.heap.size + 1) wr bv l
  box : Cs wr w.heap.size 0 [.int .u8 a0, .int .u8 a1, .int .u8 a2]
theorem KM.step {w wr w' : World} {A : Nat} {st st' : AR} {K K' : Nat} {bv v : Value} {l : List Int} {a0 a1 a2 : Int} {e : Ending} (h : KM w A st K bv l a0 a1 a2 wr) (p : AcPost w A st' K' (KX w bv) v wr e w') : KM w A st' K' bv l a0 a1 a2 w' :=
  ⟨p.2.1, h.own.but p.2.2 (fun g hg q => q (.inr hg)), h.box.but p.2.2 (fun q => q (.inl rfl))⟩
theorem KM.rd {w wr : World} {A : Nat} {st : AR} {K : Nat} {bv : Value} {l : List Int} {a0 a1 a2 : Int} (h : KM w A st K bv l a0 a1 a2 wr) (hl : l.length ≤ 1000) : Rd wr .u64 bv l := h.own.rd (by omega)
theorem KM.bw {w wr : World} {A : Nat} {st : AR} {K : Nat} {bv : Value} {l : List Int} {a0 a1 a2 : Int} (h : KM w A st K bv l a0 a1 a2 wr) : Below w.heap.size w wr := h.ac.below

theorem KM.at {w wr : World} {A : Nat} {st : AR} {K g m cap : Nat} {a0 a1 a2 : Int} (h : KM w A st K (.slice (some ⟨g, 0, none⟩) m cap) (nums m) a0 a1 a2 wr) (hm : m ≤ 1000) {j : Nat} (hj : j < m) : wr.cell? ⟨g, j, none⟩ = some (.int .u64 ((j : Int) + 1)) := by
  obtain ⟨a, n, c, he, hl, _, hc⟩ := h.rd (by rw [nums_len]; exact hm)
  rw [nums_len] at hl
  subst hl
  obtain ⟨b, off, ha, hcell⟩ := hc (by omega)
  injection he with e1 e2 e3
  rw [ha] at e1
  cases e1
  have := hcell j hj
  rw [nums_at hj, Nat.zero_add] at this
  exact this

theorem KM.append {w wr w4 : World} {A : Nat} {st : AR} {K : Nat} {bv bv' : Value} {l l' : List Int} {a0 a1 a2 : Int} {o : Obj} (h : KM w A st K bv l a0 a1 a2 wr) (h4 : Own (w.heap.size + 1) w4 bv' l') (hg : (wr.alloc o).grownBy w4 bv.ownBlock) (hat : bv'.ownBlock = bv.ownBlock ∨ bv'.ownBlock = some (wr.alloc o).heap.size) :
    KM w A st K bv' l' a0 a1 a2 w4 := by
  have hs := h.ac.below.size
  have hb : But (fun x => bv.ownBlock = some x) wr w4 := ((But.refl _ wr).alloc o).then (S' := fun x => bv.ownBlock = some x) (But.of_grown hg (fun k hk _ => hk)) (fun _ _ q => q)
  have hbase : ∀ g, bv.ownBlock = some g → w.heap.size + 1 ≤ g := fun g hg => (h.own.base g hg).1
  refine ⟨h.ac.go hb (fun x q => ⟨by have := hbase x q; omega, .inr q⟩) (fun x q => ?_) (fun x q => ?_), h4, h.box.but hb (fun q => by have := hbase _ q; omega)⟩
  · rcases q with q | q
    · exact .inl (.inl q)
    · rcases hat with e | e
      · exact .inl (.inr (e ▸ q))
      · rw [e] at q
        have := Option.some.inj q
        simp only [World.size_alloc] at this
        exact .inr (by omega)
  · rcases q with q | q
    · have := h.ac.xlt x (.inl q)
      have := hb.size
      omega
    · exact (h4.base x q).2

set_option maxRecDepth 100000 in
set_option maxHeartbeats 8000000 in
theorem arenaKeeps_any (sv : Value) (zs : List Int) (a0 a1 a2 v : Int) (w : World) (hz : Rd w .u8 sv zs) (hzw : ∀ u ∈ zs, 0 ≤ u ∧ u < 256) (h0 : 0 ≤ a0 ∧ a0 < 256) (h1 : 0 ≤ a1 ∧ a1 < 256) (h2 : 0 ≤ a2 ∧ a2 < 256) (hv : U64 v) :
    Calls Try.prog 3 #[sv, .agg #[.int .u8 a0, .int .u8 a1, .int .u8 a2], .int .u64 v] w (Ret (.bool true) w) := by
  have HV : Hid (U64 v) := Lib.hid hv
  have HZ : Hid (Rd w .u8 sv zs) := Lib.hid hz
  have HZW : Hid (∀ u ∈ zs, 0 ≤ u ∧ u < 256) := Lib.hid hzw
  obtain ⟨sa, m, sc, rfl, hm, hm2, hc⟩ := hz
  have HM : Hid (zs.length = m) := Lib.hid hm
  have HC : Hid (0 < m → ∃ b off, sa = some ⟨b, off, none⟩ ∧ ∀ j, j < m → w.cell? ⟨b, off + j, none⟩ = some (.int .u8 (zs[j]?.getD 0))) := Lib.hid hc
  clear hv hzw hm hc
  have bA : Below w.heap.size w (w.alloc (.cells #[.int .u8 a0, .int .u8 a1, .int .u8 a2] 23)) := Below.alloc (Below.refl _ _) (Nat.le_refl _) _
  have hA0 := awake08 (w.alloc (.cells #[.int .u8 a0, .int .u8 a1, .int .u8 a2] 23))
  by_cases hm0 : m = 0
  · subst hm0
    clear bA
    go_enter Try.func3, Try.ntmps3
    go_wp2_with fail
    (with_reducible refine hA0.mono ?_)
    rintro e w1 ⟨rfl, hb1⟩
    go_wp2
    go_returns
    exact Ret.mk' rfl (bel_after (by (repeat' (first | (with_reducible exact Below.refl _ _) | (with_reducible assumption) | (with_reducible refine Below.alloc ?_ ?_ _) | (with_reducible refine Below.drew ?_) | (with_reducible refine bel_drewN ?_ _) | (with_reducible refine Below.setCell ?_ ?_ _) | (with_reducible refine bel_after ?_ (by assumption)) | (exact Below.size (by assumption)) | omega | (simp only [World.size_alloc, World.size_setCell, World.size_drew, size_drewN] at *; omega)))) hb1)
  by_cases h20 : (20 : Int) < (m : Int)
  · clear bA
    have hmz : ((m : Int) == 0) = false := by simp; omega
    go_enter Try.func3, Try.ntmps3
    go_wp2_with fail
    (with_reducible refine hA0.mono ?_)
    rintro e w1 ⟨rfl, hb1⟩
    go_wp2
    go_returns
    exact Ret.mk' rfl (bel_after (by (repeat' (first | (with_reducible exact Below.refl _ _) | (with_reducible assumption) | (with_reducible refine Below.alloc ?_ ?_ _) | (with_reducible refine Below.drew ?_) | (with_reducible refine bel_drewN ?_ _) | (with_reducible refine Below.setCell ?_ ?_ _) | (with_reducible refine bel_after ?_ (by assumption)) | (exact Below.size (by assumption)) | omega | (simp only [World.size_alloc, World.size_setCell, World.size_drew, size_drewN] at *; omega)))) hb1)
  have hmz : ((m : Int) == 0) = false := by simp; omega
  obtain ⟨zb, zo, rfl, hcell⟩ := HC.out (by omega)
  have HC' : Hid (∀ j, j < m → w.cell? ⟨zb, zo + j, none⟩ = some (.int .u8 (zs[j]?.getD 0))) := Lib.hid hcell
  clear hcell HC hA0
  have hN := ac_new (w0 := w) (X := fun x => x = w.heap.size) 10000 (by omega) bA (fun x q => by subst q; simp)
  clear bA
  go_enter Try.func3, Try.ntmps3
  go_wp2_with fail
  (with_reducible refine hN.mono ?_)
  rintro e w1 ⟨A, rfl, hb1, hac1⟩
  clear hN
  have hcs1 : Cs w1 w.heap.size 0 [.int .u8 a0, .int .u8 a1, .int .u8 a2] := Cs.below hb1 (by simp) (Cs.at rfl rfl)
  have HK0 : Hid (KM w A (kst zs 0) 0 (.slice (some ⟨w1.heap.size, 0, none⟩) 0 0) (nums 0) a0 a1 a2 (w1.alloc (.cells #[] 24))) := by
    have hs := hac1.xlt _ rfl
    refine Lib.hid ⟨hac1.go (T := fun _ => False) ((But.refl _ w1).alloc _) (fun _ q => q.elim) (fun x q => ?_) (fun x q => ?_), Own.made _ _ _ rfl (by omega), hcs1.below (Below.alloc (Below.refl _ _) (Nat.le_refl _) _) hs⟩
    · rcases q with q | q
      · exact .inl q
      · simp only [Value.ownBlock, Option.some.injEq] at q
        exact .inr (by omega)
    · rcases q with q | q
      · simp; omega
      · simp only [Value.ownBlock, Option.some.injEq] at q
        simp; omega
  clear hb1 hac1 hcs1
  go_wp2_with fail
  go_loopw [8, 9] (fun bv iv wr => ∃ i : Nat, i ≤ m ∧ iv = .int .i64 i ∧ KM w A (kst zs i) i bv (nums i) a0 a1 a2 wr) (fun _ iv _ => m - (intOf iv).toNat)
  case atStart => exact ⟨0, by omega, rfl, HK0.out⟩
  case round =>
    obtain ⟨i, hi, rfl, hk⟩ := hrel
    generalize u8 = bv at *
    by_cases hlt : i < m
    · have hlt1 : (i : Int) < (m : Int) := by omega
      have hi0 : (0 : Int) ≤ (i : Int) := by omega
      have d := bel_cell hk.bw (HC'.out i hlt)
      have hx := HZW.out (zs[i]?.getD 0) (by rw [List.getElem?_eq_getElem (by have := HM.out; omega)]; exact List.getElem_mem _)
      have hAl := ac_alloc hk.ac (by omega) (kz zs i)
      rw [kst_alloc zs i (by omega)] at hAl
      simp only [kz] at hAl
      have HK : Hid (KM w A (kst zs i) i bv (nums i) a0 a1 a2 wr) := Lib.hid hk
      clear hk HK0
      generalize hzx : zs[i]?.getD 0 = x at d hx hAl
      clear hzx
      obtain ⟨hx1, hx2⟩ := hx
      go_wp2_with fail
      (with_reducible refine hAl.mono ?_)
      rintro e w2 hp
      have he := hp.1
      subst he
      have hk2 := HK.out.step hp
      have HK2 : Hid (KM w A (kst zs (i + 1)) (i + 1) bv (nums i) a0 a1 a2 w2) := Lib.hid hk2
      have HO : Hid (Own (w.heap.size + 1) (w2.alloc (.cells #[.int .u64 ((i : Int) + 1)] 24)) bv (nums i)) := Lib.hid (hk2.own.alloc _)
      have HR : Hid (Rd (w2.alloc (.cells #[.int .u64 ((i : Int) + 1)] 24)) .u64 (.slice (some ⟨w2.heap.size, 0, none⟩) 1 1) [(i : Int) + 1]) := Lib.hid (Rd.new w2 .u64 [(i : Int) + 1] 24 (by simp))
      have hs2 := hk2.ac.xlt _ (.inl rfl)
      have hnl := nums_len i
      clear hp hk2 hAl
      go_wp2_with (first | (at_builtin; refine append_rd rfl _ _ rfl HO.out HR.out (by rfl) (by rfl) (by simp; omega) (by rw [hnl]; simp; omega) ?_; intro v3 w3 hown3 hgr3 hat3))
      have HK3 : Hid (KM w A (kst zs (i + 1)) (i + 1) v3 (nums (i + 1)) a0 a1 a2 w3) := Lib.hid (HK2.out.append (by rw [nums_succ]; exact hown3) hgr3 hat3)
      clear hown3 hgr3 hat3 hnl
      go_roundw
      case rel => exact ⟨i + 1, by omega, by go_num, HK3.out⟩
      case measure => simp [intOf]; omega
    · obtain rfl : m = i := by omega
      have hform : ∃ g cap, bv = .slice (some ⟨g, 0, none⟩) m cap := by
        have hf := hk.own
        unfold Own at hf
        rw [nums_len] at hf
        obtain ⟨g, cap, hv, _⟩ := hf.form (by omega)
        exact ⟨g, cap, hv⟩
      obtain ⟨g, cap, rfl⟩ := hform
      have HK : Hid (KM w A (kst zs m) m (.slice (some ⟨g, 0, none⟩) m cap) (nums m) a0 a1 a2 wr) := Lib.hid hk
      have hbox := hk.box
      simp only [Cs, Nat.zero_add, Nat.reduceAdd] at hbox
      obtain ⟨c0, _, c1, _, c2, _, _⟩ := hbox
      clear hk HK0
      obtain ⟨k, hkm⟩ : ∃ k : Nat, a0 % (m : Int) = k := Int.eq_ofNat_of_zero_le (Int.emod_nonneg _ (by omega))
      have hkl : k < m := by have := Int.emod_lt_of_pos a0 (show (0 : Int) < m by omega); omega
      have HKM : Hid (a0 % (m : Int) = k) := Lib.hid hkm
      clear hkm
      go_upto_region 10 with fail
      rw [HKM.out]
      have d := bel_cell HK.out.bw (HC'.out k hkl)
      have hx := HZW.out (zs[k]?.getD 0) (by rw [List.getElem?_eq_getElem (by have := HM.out; omega)]; exact List.getElem_mem _)
      have hkz : kz zs k = zs[k]?.getD 0 % 16 + 1 := rfl
      have HKZ : Hid (kz zs k = zs[k]?.getD 0 % 16 + 1) := Lib.hid hkz
      clear hkz
      have HKX : Hid (zs[k]?.getD 0 = zs[k]?.getD 0) := Lib.hid rfl
      obtain ⟨x, hxe⟩ : ∃ x, Hid (zs[k]?.getD 0 = x) := ⟨_, Lib.hid rfl⟩
      rw [hxe.out] at d hx
      rw [hxe.out] at HKZ
      clear HKX
      obtain ⟨hx1, hx2⟩ := hx
      have hkl1 : (k : Int) < (m : Int) := by omega
      have hk0 : (0 : Int) ≤ (k : Int) := by omega
      obtain ⟨c, hce⟩ : ∃ c : Int, Hid (a1 % (x % 16 + 1) = c) := ⟨_, Lib.hid rfl⟩
      have hc0 : 0 ≤ c ∧ c < x % 16 + 1 := by
        rw [← hce.out]
        exact ⟨Int.emod_nonneg _ (by omega), Int.emod_lt_of_pos _ (by omega)⟩
      go_upto_region 12 with fail
      rw [hce.out]
      have e1 := HK.out.at (by omega) hkl
      have hSt := ac_store (b := (k : Int) + 1) (i := c) (v := v) HK.out.ac (by omega) (by unfold U64; omega) (by omega) HV.out
      rw [kst_store hkl (by rw [HKZ.out]; exact hc0)] at hSt
      clear d c0 c1 c2
      go_wp2_with fail
      (with_reducible refine hSt.mono ?_)
      rintro e w2 hp
      have he := hp.1
      subst he
      have hk2 := HK.out.step hp
      have HK2 : Hid (KM w A (kS zs m k c v) (m + 1) (.slice (some ⟨g, 0, none⟩) m cap) (nums m) a0 a1 a2 w2) := Lib.hid hk2
      have hbox := hk2.box
      simp only [Cs, Nat.zero_add, Nat.reduceAdd] at hbox
      obtain ⟨_, _, _, _, c2, _, _⟩ := hbox
      clear hp hk2 hSt HK e1
      obtain ⟨o, hom⟩ : ∃ o : Nat, Hid (a2 % (m : Int) = o) := by
        obtain ⟨o, ho⟩ := Int.eq_ofNat_of_zero_le (Int.emod_nonneg a2 (show (m : Int) ≠ 0 by omega))
        exact ⟨o, Lib.hid ho⟩
      have hol : o < m := by have h1 := Int.emod_lt_of_pos a2 (show (0 : Int) < m by omega); have h2 := hom.out; omega
      go_upto_region 15 with fail
      rw [hom.out]
      go_wp2_with fail
      go_loopw [14] (fun iv wx => ∃ i : Nat, i ≤ m ∧ iv = .int .i64 i ∧ KM w A (kS zs m k c v) (m + 1) (.slice (some ⟨g, 0, none⟩) m cap) (nums m) a0 a1 a2 wx) (fun iv _ => m - (intOf iv).toNat)
      case atStart => exact ⟨0, by omega, rfl, HK2.out⟩
      case round =>
        obtain ⟨i, hi, rfl, hk3⟩ := hrel
        by_cases hlt : i < m
        · have hlt1 : (i : Int) < (m : Int) := by omega
          have hi0 : (0 : Int) ≤ (i : Int) := by omega
          have HI : Hid (kz zs i = zs[i]?.getD 0 % 16 + 1) := Lib.hid rfl
          have hxi := HZW.out (zs[i]?.getD 0) (by rw [List.getElem?_eq_getElem (by have := HM.out; omega)]; exact List.getElem_mem _)
          have HD : Hid (∀ W, Below w.heap.size w W → W.cell? ⟨zb, zo + i, none⟩ = some (.int .u8 (zs[i]?.getD 0))) := Lib.hid fun W hb => bel_cell hb (HC'.out i hlt)
          obtain ⟨y, hye⟩ : ∃ y, Hid (zs[i]?.getD 0 = y) := ⟨_, Lib.hid rfl⟩
          rw [hye.out] at hxi HI HD
          obtain ⟨hy1, hy2⟩ := hxi
          have HK3 : Hid (KM w A (kS zs m k c v) (m + 1) (.slice (some ⟨g, 0, none⟩) m cap) (nums m) a0 a1 a2 wr) := Lib.hid hk3
          clear hk3 HK2 c2
          obtain ⟨wo, rfl⟩ : ∃ wo : World, wo = wr := ⟨_, rfl⟩
          go_wp2_with fail
          go_loopw [15] (fun jv wx => ∃ j : Nat, (j : Int) ≤ y % 16 + 1 ∧ jv = .int .i64 j ∧ KM w A (kS zs m k c v) (m + 1) (.slice (some ⟨g, 0, none⟩) m cap) (nums m) a0 a1 a2 wx) (fun jv _ => 17 - (intOf jv).toNat)
          case atStart => exact ⟨0, by omega, rfl, HK3.out⟩
          case round =>
            obtain ⟨j, hj, rfl, hk4⟩ := hrel
            have d := HD.out wr hk4.bw
            have e1 := hk4.at (by omega) hlt
            by_cases hjl : (j : Int) < y % 16 + 1
            · have hLd := ac_load_ok (b := (i : Int) + 1) (i := (j : Int)) hk4.ac (by omega) (by unfold U64; omega) (by omega) (kS_fault hlt (by rw [HI.out]; omega))
              rw [kS_word hlt (by rw [HI.out]; omega) hc0.1] at hLd
              have HK4 : Hid (KM w A (kS zs m k c v) (m + 1) (.slice (some ⟨g, 0, none⟩) m cap) (nums m) a0 a1 a2 wr) := Lib.hid hk4
              clear hk4 HK3 HD
              have hj0 : (0 : Int) ≤ (j : Int) := by omega
              by_cases hik : i = k
              · subst hik
                by_cases hjc : (j : Int) = c
                · rw [if_pos ⟨rfl, hjc⟩] at hLd
                  have hjc1 : ((j : Int) == c) = true := by simp; omega
                  have hjc2 : ((j : Int) != c) = false := by simp; omega
                  clear hjc
                  go_wp2_with fail
                  (with_reducible refine hLd.mono ?_)
                  rintro e w5 hp
                  have he := hp.1
                  subst he
                  have HK5 : Hid (KM w A (kS zs m i c v) (m + 1) (.slice (some ⟨g, 0, none⟩) m cap) (nums m) a0 a1 a2 w5) := Lib.hid (HK4.out.step hp)
                  clear hp hLd d e1 HK4
                  go_wp2_with fail
                  go_roundw
                  case rel => exact ⟨j + 1, by omega, by go_num, HK5.out⟩
                  case measure => simp [intOf]; omega
                · rw [if_neg (fun q => hjc q.2)] at hLd
                  have hjc1 : ((j : Int) == c) = false := by simp; omega
                  have hjc2 : ((j : Int) != c) = true := by simp; omega
                  clear hjc
                  go_wp2_with fail
                  (with_reducible refine hLd.mono ?_)
                  rintro e w5 hp
                  have he := hp.1
                  subst he
                  have HK5 : Hid (KM w A (kS zs m i c v) (m + 1) (.slice (some ⟨g, 0, none⟩) m cap) (nums m) a0 a1 a2 w5) := Lib.hid (HK4.out.step hp)
                  clear hp hLd d e1 HK4
                  go_wp2_with fail
                  go_roundw
                  case rel => exact ⟨j + 1, by omega, by go_num, HK5.out⟩
                  case measure => simp [intOf]; omega
              · rw [if_neg (fun q => hik q.1)] at hLd
                have hik1 : ((i : Int) == (k : Int)) = false := by simp; omega
                have hik2 : ((i : Int) != (k : Int)) = true := by simp; omega
                have hik3 : (i == k) = false := by simp; omega
                have hik4 : (i != k) = true := by simp; omega
                clear hik
                go_wp2_with fail
                (with_reducible refine hLd.mono ?_)
                rintro e w5 hp
                have he := hp.1
                subst he
                have HK5 : Hid (KM w A (kS zs m k c v) (m + 1) (.slice (some ⟨g, 0, none⟩) m cap) (nums m) a0 a1 a2 w5) := Lib.hid (HK4.out.step hp)
                clear hp hLd d e1 HK4
                go_wp2_with fail
                go_roundw
                case rel => exact ⟨j + 1, by omega, by go_num, HK5.out⟩
                case measure => simp [intOf]; omega
            · have hjl2 : ¬ (j : Int) < y % 16 + 1 := hjl
              have HK4 : Hid (KM w A (kS zs m k c v) (m + 1) (.slice (some ⟨g, 0, none⟩) m cap) (nums m) a0 a1 a2 wr) := Lib.hid hk4
              clear hk4 HK3 HD e1
              go_wp2_with fail
              go_roundw
              case rel => exact ⟨i + 1, by omega, by go_num, HK4.out⟩
              case measure => simp [intOf]; omega
        · obtain rfl : m = i := by omega
          have HK3 : Hid (KM w A (kS zs m k c v) (m + 1) (.slice (some ⟨g, 0, none⟩) m cap) (nums m) a0 a1 a2 wr) := Lib.hid hk3
          clear HK2 hk3 c2
          have hko1 : ((m : Int) + 1 == (o : Int) + 1) = false := by simp; omega
          have e3 := HK3.out.at (by omega) hol
          have hclW4 := ac_free (b := (o : Int) + 1) HK3.out.ac (by omega) (by unfold U64; omega)
          rw [kS_free hol] at hclW4
          go_wp2_with fail
          (with_reducible refine hclW4.mono ?_)
          rintro e W4 hp
          have he := hp.1
          subst he
          have HK4 : Hid (KM w A (kF zs m k o c v) (m + 2) (.slice (some ⟨g, 0, none⟩) m cap) (nums m) a0 a1 a2 W4) := Lib.hid (HK3.out.step hp)
          clear hp hclW4
          have e4 := HK4.out.at (by omega) hol
          clear e3
          have hclW5 := ac_free (b := (o : Int) + 1) HK4.out.ac (by omega) (by unfold U64; omega)
          rw [kF_free] at hclW5
          go_wp2_with fail
          (with_reducible refine hclW5.mono ?_)
          rintro e W5 hp
          have he := hp.1
          subst he
          have HK5 : Hid (KM w A (kF zs m k o c v).miss (m + 3) (.slice (some ⟨g, 0, none⟩) m cap) (nums m) a0 a1 a2 W5) := Lib.hid (HK4.out.step hp)
          clear hp hclW5
          have hclW6 := ac_alloc HK5.out.ac (by omega) 1
          rw [kF_alloc (by omega)] at hclW6
          go_wp2_with fail
          (with_reducible refine hclW6.mono ?_)
          rintro e W6 hp
          have he := hp.1
          subst he
          have HK6 : Hid (KM w A (kG zs m k o c v) (m + 4) (.slice (some ⟨g, 0, none⟩) m cap) (nums m) a0 a1 a2 W6) := Lib.hid (HK5.out.step hp)
          clear hp hclW6
          have e6 := HK6.out.at (by omega) hol
          clear e4
          have hclW7 := ac_load (b := (o : Int) + 1) (i := 0) HK6.out.ac (by omega) (by unfold U64; omega) (by omega)
          rw [kG_load_o hol] at hclW7
          go_wp2_with fail
          (with_reducible refine hclW7.mono ?_)
          rintro e W7 hp
          have he := hp.1
          subst he
          have HK7 : Hid (KM w A (kG zs m k o c v).miss (m + 5) (.slice (some ⟨g, 0, none⟩) m cap) (nums m) a0 a1 a2 W7) := Lib.hid (HK6.out.step hp)
          clear hp hclW7
          have e7 := HK7.out.at (by omega) hkl
          clear e6
          by_cases hko : k = o
          · have HKO : Hid (k = o) := Lib.hid hko
            clear hko
            have hclW8 := ac_load (b := (k : Int) + 1) (i := c) HK7.out.ac (by omega) (by unfold U64; omega) (by have := kz_bd zs k; have := HKZ.out; omega)
            rw [kG_load_same hkl HKO.out] at hclW8
            go_wp2_with fail
            (with_reducible refine hclW8.mono ?_)
            rintro e W8 hp
            have he := hp.1
            subst he
            have HK8 : Hid (KM w A (kG zs m k o c v).miss.miss (m + 6) (.slice (some ⟨g, 0, none⟩) m cap) (nums m) a0 a1 a2 W8) := Lib.hid (HK7.out.step hp)
            clear hp hclW8
            have e8 := HK8.out.at (by omega) hol
            clear e7
            have hclW9 := ac_store (b := (o : Int) + 1) (i := 0) (v := 1) HK8.out.ac (by omega) (by unfold U64; omega) (by omega) (by unfold U64; omega)
            rw [kG_store_o (show getB (kG zs m k o c v).miss.miss.L ((o : Int) + 1) = none from (kG_get hol).trans (if_pos rfl))] at hclW9
            go_wp2_with fail
            (with_reducible refine hclW9.mono ?_)
            rintro e W9 hp
            have he := hp.1
            subst he
            have HK9 : Hid (KM w A (kG zs m k o c v).miss.miss.miss (m + 7) (.slice (some ⟨g, 0, none⟩) m cap) (nums m) a0 a1 a2 W9) := Lib.hid (HK8.out.step hp)
            clear hp hclW9
            clear e8
            obtain rfl : k = o := HKO.out
            have hA9 := awake08 W9
            go_wp2_with fail
            (with_reducible refine hA9.mono ?_)
            rintro e W10 ⟨rfl, hb10⟩
            go_wp2
            go_returns
            exact Ret.mk' rfl (bel_after HK9.out.bw hb10)
          · have hclW8 := ac_load (b := (k : Int) + 1) (i := c) HK7.out.ac (by omega) (by unfold U64; omega) (by have := kz_bd zs k; have := HKZ.out; omega)
            rw [kG_load_other hkl hko (by rw [HKZ.out]; exact hc0)] at hclW8
            go_wp2_with fail
            (with_reducible refine hclW8.mono ?_)
            rintro e W8 hp
            have he := hp.1
            subst he
            have HK8 : Hid (KM w A (kG zs m k o c v).miss (m + 6) (.slice (some ⟨g, 0, none⟩) m cap) (nums m) a0 a1 a2 W8) := Lib.hid (HK7.out.step hp)
            clear hp hclW8
            have e8 := HK8.out.at (by omega) hol
            clear e7
            have hclW9 := ac_store (b := (o : Int) + 1) (i := 0) (v := 1) HK8.out.ac (by omega) (by unfold U64; omega) (by omega) (by unfold U64; omega)
            rw [kG_store_o (show getB (kG zs m k o c v).miss.L ((o : Int) + 1) = none from (kG_get hol).trans (if_pos rfl))] at hclW9
            have hko2 : ((k : Int) == (o : Int)) = false := by simp; omega
            have hko3 : ((k : Int) != (o : Int)) = true := by simp; omega
            have hko4 : (k == o) = false := by simp; omega
            have hko5 : (k != o) = true := by simp; omega
            clear hko
            go_wp2_with fail
            (with_reducible refine hclW9.mono ?_)
            rintro e W9 hp
            have he := hp.1
            subst he
            have HK9 : Hid (KM w A (kG zs m k o c v).miss.miss (m + 7) (.slice (some ⟨g, 0, none⟩) m cap) (nums m) a0 a1 a2 W9) := Lib.hid (HK8.out.step hp)
            clear hp hclW9
            clear e8
            have hA9 := awake08 W9
            go_wp2_with fail
            (with_reducible refine hA9.mono ?_)
            rintro e W10 ⟨rfl, hb10⟩
            go_wp2
            go_returns
            exact Ret.mk' rfl (bel_after HK9.out.bw hb10)
end Go.Proofs.Ytclflmpdjlflaaa
