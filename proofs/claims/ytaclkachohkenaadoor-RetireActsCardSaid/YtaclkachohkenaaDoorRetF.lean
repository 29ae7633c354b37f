import Derived.Test.YtaclkachohkenaaDoorRetE
set_option linter.unusedVariables false
set_option linter.unusedSimpArgs false
namespace Go.Proofs.YtaclkachohkenaaDoor
open Go.RowKit

/-- All that is there to be looked at. -/
def alls (ks : List Int) (m : Int) : List Int := if m = 0 then ks else ks ++ [m]
theorem alls_len (ks : List Int) (m : Int) : (alls ks m).length ≤ ks.length + 1 := by unfold alls; split <;> simp

def AllPost (t : Nat) (gv : Value) (gs : List Int) (D : Int) (T : Nat) (lk : Bool) (ws : List Int) (s : TS) (w : World) (e : Ending) (w' : World) : Prop :=
  if lk then LookPost t gv gs D T ws s w e w' else ∃ v, e = .returned v ∧ But (fun b => b = t) w w' ∧ Own w.heap.size w' v ws ∧ Tape w' t gv gs s

theorem LookPost.lift {t : Nat} {gv : Value} {gs : List Int} {D : Int} {T : Nat} {ks : List Int} {s : TS} {w w1 : World} {e : Ending} {w' : World} (hb : But (fun b => b = t) w w1) (h : LookPost t gv gs D T ks s w1 e w') : LookPost t gv gs D T ks s w e w' := by
  obtain ⟨v, h1, h2, h3, h4⟩ := h
  exact ⟨v, h1, hb.trans h2, h3.lower hb.size, h4⟩

set_option maxRecDepth 100000 in
set_option maxHeartbeats 4000000 in
theorem refRetire_any (t : Nat) (gv : Value) (gs : List Int) (s : TS) (D th K sd m : Int) (T : Nat) (kv : Value) (ks : List Int) (w : World) (h : Tape w t gv gs s) (h63 : gs.length < 1000) (hT : T ≤ 64) (hT1 : 1 ≤ T)
    (hk : Rd w .u64 kv ks) (hkn : ∀ g, kv.ownBlock = some g → g ≠ t) (hkl : ks.length < 900) (hgn : ∀ g, gv.ownBlock = some g → g < w.heap.size) :
    Calls Tryd.prog 17 #[.pointer (some ⟨t, 0, none⟩), siteV D th T K sd, kv, .int .u64 m] w (AllPost t gv gs D T (decide (K ≤ (alls ks m).length)) (alls ks m) s w) := by
  have ht := h.lt
  have hrd := hk
  obtain ⟨a, n, c, rfl, hn, hm, hc⟩ := hk
  clear hc hn
  have HT : Hid (Tape w t gv gs s) := Lib.hid h
  have HGN : Hid (∀ g, gv.ownBlock = some g → g < w.heap.size) := Lib.hid hgn
  have hb0 : Below w.heap.size w ((w.alloc (.cells #[.int .u64 D, .int .i64 th, .int .i64 T, .int .i64 K, .int .u64 sd] 24)).alloc (.cells #[] 22)) := by (repeat' (first | (with_reducible exact Below.refl _ _) | (with_reducible assumption) | (with_reducible refine Below.alloc ?_ ?_ _) | (with_reducible refine Below.drew ?_) | (with_reducible refine bel_drewN ?_ _) | (with_reducible refine Below.setCell ?_ ?_ _) | (with_reducible refine bel_after ?_ (by assumption)) | (exact Below.size (by assumption)) | omega | (simp only [World.size_alloc, World.size_setCell, World.size_drew, size_drewN] at *; omega)))
  have HO : Hid (Own (w.heap.size + 1) ((w.alloc (.cells #[.int .u64 D, .int .i64 th, .int .i64 T, .int .i64 K, .int .u64 sd] 24)).alloc (.cells #[] 22)) (.slice (some ⟨w.heap.size + 1, 0, none⟩) 0 0) []) := Lib.hid (Own.made _ _ _ (by simp) (by omega))
  have HR : Hid (Rd ((w.alloc (.cells #[.int .u64 D, .int .i64 th, .int .i64 T, .int .i64 K, .int .u64 sd] 24)).alloc (.cells #[] 22)) .u64 (.slice a n c) ks) := Lib.hid (hrd.below hb0)
  unfold siteV
  clear h hrd hgn hkn
  generalize hws : alls ks m = ws
  generalize hlk : decide (K ≤ (ws.length : Int)) = lk
  have HWS : Hid (alls ks m = ws) := Lib.hid hws
  have HLK : Hid (decide (K ≤ (ws.length : Int)) = lk) := Lib.hid hlk
  clear hws hlk
  go_enter Tryd.func17, Tryd.ntmps17
  go_upto_region 2 with (first | (at_builtin; refine append_rd rfl _ _ rfl HO.out HR.out (by rfl) (by rfl) (by simp) (by simp; omega) ?_; intro v1 w1 hown1 hgr1 hat1))
  rw [List.nil_append] at hown1
  refine wp_world (fun W => Below w.heap.size w W ∧ Own (w.heap.size + 1) W v1 ks ∧ w.heap.size + 2 ≤ W.heap.size ∧ Cs W w.heap.size 0 [.int .u64 D, .int .i64 th, .int .i64 T, .int .i64 K, .int .u64 sd]) ⟨?_, hown1, ?_, ?_⟩ ?_
  · refine hb0.grown hgr1 (by simp; omega) ?_
    intro k hk
    simp [Value.ownBlock] at hk
    omega
  · have := hgr1.size; simpa using this
  · exact Cs.but (S := fun b => b = w.heap.size + 1) (But.of_grown hgr1 (fun k hk _ => by simpa [Value.ownBlock] using hk.symm)) (by simp) (by simp [Cs, go_sem])
  clear hown1 hgr1 hat1 HO HR hb0
  rintro W ⟨hb, hown, hsz, hK⟩
  have HKs : Hid (Cs W w.heap.size 0 [.int .u64 D, .int .i64 th, .int .i64 T, .int .i64 K, .int .u64 sd]) := Lib.hid hK
  simp only [Cs, Nat.zero_add, Nat.reduceAdd] at hK
  obtain ⟨c0, f0, c1, f1, c2, f2, c3, f3, c4, f4, _⟩ := hK
  have tail : Hid (∀ (ws : List Int) (v : Value) (W : World), Below w.heap.size w W → Own (w.heap.size + 1) W v ws → ws.length < 1000 → Calls Tryd.prog 16 #[.pointer (some ⟨t, 0, none⟩), siteV D th T K sd, v] W (LookPost t gv gs D T ws s w)) := by
    refine Lib.hid ?_
    intro ws v W hb hown hl
    refine (refLook_any t gv gs s D th K sd T v ws W (HT.out.below hb) h63 hT hT1 (hown.rd (by omega)) (fun g hg q => by have := (hown.base g hg).1; omega) hl (fun g hg => by have := HGN.out g hg; have := hb.size; omega)).mono fun e w' h => h.lift (But.of_below hb)
  have fin : Hid (∀ (ws : List Int) (v : Value) (W : World), Below w.heap.size w W → Own (w.heap.size + 1) W v ws → AllPost t gv gs D T false ws s w (.returned v) W) := Lib.hid fun ws v W hb hown => ⟨v, rfl, But.of_below hb, Own.lower (base := w.heap.size + 1) hown (by omega), HT.out.below hb⟩
  by_cases h0 : m = 0
  · subst h0
    obtain rfl : ks = ws := HWS.out
    obtain ⟨A, c1, rfl⟩ := own_slice hown
    have hcall := tail.out ks _ W hb hown (by omega)
    have hfin := fin.out ks _ W hb hown
    clear hown hb
    unfold siteV at hcall
    by_cases hlt : K ≤ (ks.length : Int)
    · have hd : decide (K ≤ (ks.length : Int)) = true := by simp; omega
      obtain rfl : true = lk := hd.symm.trans HLK.out
      clear hd
      go_wp2_with fail
      (with_reducible refine hcall.mono ?_)
      rintro e w2 ⟨v, rfl, hp⟩
      go_wp2
      go_returns
      exact ⟨v, rfl, hp⟩
    · have hd : decide (K ≤ (ks.length : Int)) = false := by simp; omega
      obtain rfl : false = lk := hd.symm.trans HLK.out
      clear hd
      go_wp2_with fail
      go_returns
      exact hfin
  · have hws : ks ++ [m] = ws := (if_neg h0).symm.trans HWS.out
    clear HWS
    have HO : Hid (Own (w.heap.size + 1) (W.alloc (.cells #[.int .u64 m] 22)) v1 ks) := Lib.hid (hown.alloc _)
    have HR : Hid (Rd (W.alloc (.cells #[.int .u64 m] 22)) .u64 (.slice (some ⟨W.heap.size, 0, none⟩) 1 1) [m]) := Lib.hid (Rd.new W .u64 [m] 22 (by simp))
    have hvb : Hid (∀ g, v1.ownBlock = some g → w.heap.size + 1 ≤ g) := Lib.hid fun g hg => (hown.base g hg).1
    clear hown
    have hne : W.heap.size ≠ w.heap.size := by omega
    go_upto_region 4 with (first | (at_builtin; refine append_rd rfl _ _ rfl HO.out HR.out (by rfl) (by rfl) (by simp; omega) (by simp; omega) ?_; intro v2 w2 hown2 hgr2 hat2))
    refine wp_world (fun W2 => Below w.heap.size w W2 ∧ Own (w.heap.size + 1) W2 v2 (ks ++ [m]) ∧ Cs W2 w.heap.size 0 [.int .u64 D, .int .i64 th, .int .i64 T, .int .i64 K, .int .u64 sd]) ⟨?_, hown2, ?_⟩ ?_
    · exact (hb.alloc (by omega) _).grown hgr2 (by simp; omega) (fun k hk => by have := hvb.out k hk; omega)
    · exact Cs.but (S := fun b => w.heap.size + 1 ≤ b) (But.of_grown hgr2 (fun k hk _ => hvb.out k hk)) (by omega) (HKs.out.below (B := W.heap.size) (Below.alloc (Below.refl _ _) (Nat.le_refl _) _) (by omega))
    clear hown2 hgr2 hat2 HO HR hb hvb c0 c1 c2 c3 c4 f0 f1 f2 f3 f4
    rintro W2 ⟨hb, hown, hK⟩
    simp only [Cs, Nat.zero_add, Nat.reduceAdd] at hK
    obtain ⟨c0, f0, c1, f1, c2, f2, c3, f3, c4, f4, _⟩ := hK
    have hl : (ks ++ [m]).length = ks.length + 1 := by simp
    rw [hws] at hown hl
    have hl2 : ws.length < 1000 := by omega
    clear hws hl
    obtain ⟨A, c1, rfl⟩ := own_slice hown
    have hcall := tail.out ws _ W2 hb hown (by omega)
    have hfin := fin.out ws _ W2 hb hown
    clear hown hb
    unfold siteV at hcall
    by_cases hlt : K ≤ (ws.length : Int)
    · have hd : decide (K ≤ (ws.length : Int)) = true := by simp; omega
      obtain rfl : true = lk := hd.symm.trans HLK.out
      clear hd
      go_wp2_with fail
      (with_reducible refine hcall.mono ?_)
      rintro e w2 ⟨v, rfl, hp⟩
      go_wp2
      go_returns
      exact ⟨v, rfl, hp⟩
    · have hd : decide (K ≤ (ws.length : Int)) = false := by simp; omega
      obtain rfl : false = lk := hd.symm.trans HLK.out
      clear hd
      go_wp2_with fail
      go_returns
      exact hfin
end Go.Proofs.YtaclkachohkenaaDoor
