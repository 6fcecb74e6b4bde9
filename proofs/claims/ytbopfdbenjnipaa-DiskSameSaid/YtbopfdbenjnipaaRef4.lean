/- The reference's disk: Put (40). -/
import Derived.Test.YtbopfdbenjnipaaRef3
namespace Go.Proofs.Ytbopfdbenjnipaa
set_option maxRecDepth 100000
open Go.RowKit Go.Maps Go.Sort
variable {w : World} {x : Nat} {R : Rf} {fp : List Nat}
set_option maxHeartbeats 1000000 in
theorem rput_any (h : RefAt w x R fp) (hR : R.Ok) (s t : ByteArray) (ht0 : t.size ≤ 140737488351232) :
    Calls Try.prog 40 #[.pointer (some ⟨x, 0, none⟩), .string s, .string t] w fun e w' => e = .returned (.int .i64 (R.put s.data.toList t).2) ∧ RAfter w x fp (R.put s.data.toList t).1 w' := by
  have hfind := find_any h hR s
  have h0 := h
  obtain ⟨v, h⟩ := h
  obtain ⟨a, cap, rfl, hcap, hcapm, hsh⟩ := h.shape
  have c2 := h.cell.2.2.1
  have f2 := h.free.2.1
  have hfew : R.L.length ≤ 64 := hR.few
  obtain ⟨ha0, ha1⟩ := hR.app_le
  cases hi : idxF R.L s.data.toList with
  | none =>
    have hf := idxF_none.1 hi
    have e1 : R.put s.data.toList t = (R, 5) := by simp only [Rf.put, hf]
    rw [e1]
    rw [placeI_none hi] at hfind
    have Hf := Lib.hid hfind
    clear hfind hi hf e1 h hR hsh
    go_enter Try.func40, Try.ntmps40
    go_wp2_with (go_at_call 47; refine Hf.out.mono ?_; rintro e w' ⟨rfl, rfl⟩)
    go_ret
    exact ⟨rfl, RAfter.of h0 (Ext.refl _ _)⟩
  | some i =>
    obtain ⟨hlt, hn, hf⟩ := idxF_some hi
    rw [placeI_some hi] at hfind
    have Hf := Lib.hid hfind
    rcases hsh with hz | ⟨g, rfl, hgx, hgf, hsh⟩
    · omega
    have hsz := hR.size_le hlt
    have HU := Lib.hid (set_upd hR hlt (fun f => { f with bytes := f.bytes ++ t }) hn)
    have HL := Lib.hid h
    have HLT := Lib.hid hlt
    have hll : R.left ≤ 1048576 := by unfold Rf.left; have := hR.room1; simp only at this; omega
    have hll0 : 0 ≤ R.left := by unfold Rf.left; have := hR.fits; simp only at this; omega
    clear hsh
    by_cases hp : 0 < R.app
    · by_cases h1 : R.app = 1
      · have e1 : R.put s.data.toList t = ({ R with app := 0 }, 230) := by
          have hh : hits R.app = true := by rw [h1]; rfl
          have hd : down R.app = 0 := by rw [h1]; rfl
          simp only [Rf.put, hf, hh, hd, if_true]
        rw [e1]
        rw [h1] at c2
        clear hfind hi hf e1 h hR hn h1 hp
        go_enter Try.func40, Try.ntmps40
        go_wp2_with (go_at_call 47; refine Hf.out.mono ?_; rintro e w' ⟨rfl, rfl⟩)
        go_ret
        exact ⟨rfl, RAfter.of ⟨_, HL.out.down2 0⟩ (HL.out.extX 2 _)⟩
      · have hh : hits R.app = false := by unfold hits; rw [Bool.and_eq_false_iff]; right; rw [beq_eq_false_iff_ne]; omega
        have hd : down R.app = R.app - 1 := by unfold down; rw [if_pos hp]
        have e2 : R.left < (t.size : Int) → R.put s.data.toList t = ({ R with app := R.app - 1 }, 6) := fun h => by simp only [Rf.put, hf, hh, hd, if_pos h]; rfl
        have e3 : ¬ R.left < (t.size : Int) → R.put s.data.toList t = ({ R with app := R.app - 1, L := updF R.L s.data.toList fun f => { f with bytes := f.bytes ++ t } }, 0) := fun h => by simp only [Rf.put, hf, hh, hd, if_neg h]; rfl
        have hok1 : Rf.Ok { R with app := R.app - 1 } := hR.setA (by omega) (by omega)
        have ht : ((R.app - 1 : Int) == 0) = false := by rw [beq_eq_false_iff_ne]; omega
        by_cases hlt2 : R.left < (t.size : Int)
        · rw [e2 hlt2]
          clear e2 e3
          have hltx : Rf.left { R with app := R.app - 1 } < (t.size : Int) := hlt2
          clear hfind hi hf h hR hn h1 hh hd
          go_enter Try.func40, Try.ntmps40
          go_wp2_with (go_at_call 47; refine Hf.out.mono ?_; rintro e w' ⟨rfl, rfl⟩)
          clear f2 c2
          refine gen_world (W := fun v => Calls Try.prog 41 #[.pointer (some ⟨x, 0, none⟩)] v _) (P := fun v => RLay v x (.slice (some ⟨g, 0, none⟩) R.L.length cap) { R with app := R.app - 1 } fp ∧ Ext (· ∈ fp) w v) ⟨HL.out.down2 _, HL.out.extX 2 _⟩ ?_
          rintro w1 ⟨hl1, hx1⟩
          obtain ⟨k1, k2, k3⟩ : w1.cell? ⟨g, i * 4 + 1, none⟩ = some (.string R.L[i].bytes) ∧ w1.cell? ⟨g, i * 4 + 2, none⟩ = some (.int .i64 (R.L[i].synced : Int)) ∧ w1.cell? ⟨g, i * 4 + 3, none⟩ = some (.bool R.L[i].fresh) := by
            obtain ⟨a', cap', e, _, _, hs⟩ := hl1.shape
            rcases hs with hz | ⟨g', e2, _, _, hs⟩
            · have := HLT.out; first | omega | (simp only at hz; omega)
            · simp only [Value.slice.injEq] at e
              obtain ⟨rfl, _, rfl⟩ := e
              simp only [Option.some.injEq, Addr.mk.injEq, and_true] at e2
              subst e2
              exact (hs i HLT.out).2
          have c1 := hl1.cell.2.1
          have gf := (hl1.row rfl).free
          have HR := Lib.hid (hl1.row rfl)
          have HLA := Lib.hid (left_any ⟨_, hl1⟩ hok1)
          have HX1 := Lib.hid hx1
          have HL1 := Lib.hid hl1
          clear hl1 hx1
          clear k2 k3
          go_wp2_with (go_at_call 41; refine HLA.out.mono ?_; rintro e w' ⟨rfl, rfl⟩)
          go_ret
          exact ⟨rfl, RAfter.of ⟨_, HL1.out⟩ HX1.out⟩
        · rw [e3 hlt2]
          clear e2 e3
          have hltx : ¬ Rf.left { R with app := R.app - 1 } < (t.size : Int) := hlt2
          clear hfind hi hf h hR hn h1 hh hd
          go_enter Try.func40, Try.ntmps40
          go_wp2_with (go_at_call 47; refine Hf.out.mono ?_; rintro e w' ⟨rfl, rfl⟩)
          clear f2 c2
          refine gen_world (W := fun v => Calls Try.prog 41 #[.pointer (some ⟨x, 0, none⟩)] v _) (P := fun v => RLay v x (.slice (some ⟨g, 0, none⟩) R.L.length cap) { R with app := R.app - 1 } fp ∧ Ext (· ∈ fp) w v) ⟨HL.out.down2 _, HL.out.extX 2 _⟩ ?_
          rintro w1 ⟨hl1, hx1⟩
          obtain ⟨k1, k2, k3⟩ : w1.cell? ⟨g, i * 4 + 1, none⟩ = some (.string R.L[i].bytes) ∧ w1.cell? ⟨g, i * 4 + 2, none⟩ = some (.int .i64 (R.L[i].synced : Int)) ∧ w1.cell? ⟨g, i * 4 + 3, none⟩ = some (.bool R.L[i].fresh) := by
            obtain ⟨a', cap', e, _, _, hs⟩ := hl1.shape
            rcases hs with hz | ⟨g', e2, _, _, hs⟩
            · have := HLT.out; first | omega | (simp only at hz; omega)
            · simp only [Value.slice.injEq] at e
              obtain ⟨rfl, _, rfl⟩ := e
              simp only [Option.some.injEq, Addr.mk.injEq, and_true] at e2
              subst e2
              exact (hs i HLT.out).2
          have c1 := hl1.cell.2.1
          have gf := (hl1.row rfl).free
          have HR := Lib.hid (hl1.row rfl)
          have HLA := Lib.hid (left_any ⟨_, hl1⟩ hok1)
          have HX1 := Lib.hid hx1
          have HL1 := Lib.hid hl1
          clear hl1 hx1
          clear k2 k3
          have hadd := fun (w : World) => run_string_add_sum (P := Try.prog) (w := w) R.L[i].bytes t (by omega)
          go_wp2_with (go_at_call 41; refine HLA.out.mono ?_; rintro e w' ⟨rfl, rfl⟩)
          go_still_tail 17, (by kernel_rfl)
          go_wp2
          go_ret
          refine ⟨rfl, ?_⟩
          have q := HR.out
          have hlt := HLT.out
          have q1 := q.set (k := i * 4 + 1) (by omega) (.string (R.L[i].bytes ++ t))
          have s1 := flat_set R.L (j := 1) hlt (by omega) (u := .string (R.L[i].bytes ++ t)) (f' := { R.L[i] with bytes := R.L[i].bytes ++ t }) rfl
          rw [HU.out] at s1
          rw [s1] at q1
          have hl := q1.drew.lay (by rw [length_updF]) rfl
          exact RAfter.of ⟨_, hl⟩ (HX1.out.trans ((q.ext (k := i * 4 + 1) (.string (R.L[i].bytes ++ t))).trans (Ext.drew _ _)))
    · have h00 : R.app = 0 := by omega
      have hh : hits R.app = false := by rw [h00]; rfl
      have hd : down R.app = R.app := by unfold down; rw [if_neg hp]
      have e2 : R.left < (t.size : Int) → R.put s.data.toList t = (R, 6) := fun h => by simp only [Rf.put, hf, hh, hd, if_pos h]; rfl
      have e3 : ¬ R.left < (t.size : Int) → R.put s.data.toList t = ({ R with L := updF R.L s.data.toList fun f => { f with bytes := f.bytes ++ t } }, 0) := fun h => by simp only [Rf.put, hf, hh, hd, if_neg h]; rfl
      have hok1 : R.Ok := hR
      by_cases hlt2 : R.left < (t.size : Int)
      · rw [e2 hlt2]
        clear e2 e3
        have hltx : R.left < (t.size : Int) := hlt2
        clear hfind hi hf h hR hn hh hd h00
        go_enter Try.func40, Try.ntmps40
        go_wp2_with (go_at_call 47; refine Hf.out.mono ?_; rintro e w' ⟨rfl, rfl⟩)
        clear f2 c2
        refine gen_world (W := fun v => Calls Try.prog 41 #[.pointer (some ⟨x, 0, none⟩)] v _) (P := fun v => RLay v x (.slice (some ⟨g, 0, none⟩) R.L.length cap) R fp ∧ Ext (· ∈ fp) w v) ⟨HL.out, Ext.refl _ _⟩ ?_
        rintro w1 ⟨hl1, hx1⟩
        obtain ⟨k1, k2, k3⟩ : w1.cell? ⟨g, i * 4 + 1, none⟩ = some (.string R.L[i].bytes) ∧ w1.cell? ⟨g, i * 4 + 2, none⟩ = some (.int .i64 (R.L[i].synced : Int)) ∧ w1.cell? ⟨g, i * 4 + 3, none⟩ = some (.bool R.L[i].fresh) := by
          obtain ⟨a', cap', e, _, _, hs⟩ := hl1.shape
          rcases hs with hz | ⟨g', e2, _, _, hs⟩
          · have := HLT.out; first | omega | (simp only at hz; omega)
          · simp only [Value.slice.injEq] at e
            obtain ⟨rfl, _, rfl⟩ := e
            simp only [Option.some.injEq, Addr.mk.injEq, and_true] at e2
            subst e2
            exact (hs i HLT.out).2
        have c1 := hl1.cell.2.1
        have gf := (hl1.row rfl).free
        have HR := Lib.hid (hl1.row rfl)
        have HLA := Lib.hid (left_any ⟨_, hl1⟩ hok1)
        have HX1 := Lib.hid hx1
        have HL1 := Lib.hid hl1
        clear hl1 hx1
        clear k2 k3
        go_wp2_with (go_at_call 41; refine HLA.out.mono ?_; rintro e w' ⟨rfl, rfl⟩)
        go_ret
        exact ⟨rfl, RAfter.of ⟨_, HL1.out⟩ HX1.out⟩
      · rw [e3 hlt2]
        clear e2 e3
        have hltx : ¬ R.left < (t.size : Int) := hlt2
        clear hfind hi hf h hR hn hh hd h00
        go_enter Try.func40, Try.ntmps40
        go_wp2_with (go_at_call 47; refine Hf.out.mono ?_; rintro e w' ⟨rfl, rfl⟩)
        clear f2 c2
        refine gen_world (W := fun v => Calls Try.prog 41 #[.pointer (some ⟨x, 0, none⟩)] v _) (P := fun v => RLay v x (.slice (some ⟨g, 0, none⟩) R.L.length cap) R fp ∧ Ext (· ∈ fp) w v) ⟨HL.out, Ext.refl _ _⟩ ?_
        rintro w1 ⟨hl1, hx1⟩
        obtain ⟨k1, k2, k3⟩ : w1.cell? ⟨g, i * 4 + 1, none⟩ = some (.string R.L[i].bytes) ∧ w1.cell? ⟨g, i * 4 + 2, none⟩ = some (.int .i64 (R.L[i].synced : Int)) ∧ w1.cell? ⟨g, i * 4 + 3, none⟩ = some (.bool R.L[i].fresh) := by
          obtain ⟨a', cap', e, _, _, hs⟩ := hl1.shape
          rcases hs with hz | ⟨g', e2, _, _, hs⟩
          · have := HLT.out; first | omega | (simp only at hz; omega)
          · simp only [Value.slice.injEq] at e
            obtain ⟨rfl, _, rfl⟩ := e
            simp only [Option.some.injEq, Addr.mk.injEq, and_true] at e2
            subst e2
            exact (hs i HLT.out).2
        have c1 := hl1.cell.2.1
        have gf := (hl1.row rfl).free
        have HR := Lib.hid (hl1.row rfl)
        have HLA := Lib.hid (left_any ⟨_, hl1⟩ hok1)
        have HX1 := Lib.hid hx1
        have HL1 := Lib.hid hl1
        clear hl1 hx1
        clear k2 k3
        have hadd := fun (w : World) => run_string_add_sum (P := Try.prog) (w := w) R.L[i].bytes t (by omega)
        go_wp2_with (go_at_call 41; refine HLA.out.mono ?_; rintro e w' ⟨rfl, rfl⟩)
        go_still_tail 17, (by kernel_rfl)
        go_wp2
        go_ret
        refine ⟨rfl, ?_⟩
        have q := HR.out
        have hlt := HLT.out
        have q1 := q.set (k := i * 4 + 1) (by omega) (.string (R.L[i].bytes ++ t))
        have s1 := flat_set R.L (j := 1) hlt (by omega) (u := .string (R.L[i].bytes ++ t)) (f' := { R.L[i] with bytes := R.L[i].bytes ++ t }) rfl
        rw [HU.out] at s1
        rw [s1] at q1
        have hl := q1.drew.lay (by rw [length_updF]) rfl
        exact RAfter.of ⟨_, hl⟩ (HX1.out.trans ((q.ext (k := i * 4 + 1) (.string (R.L[i].bytes ++ t))).trans (Ext.drew _ _)))
end Go.Proofs.Ytbopfdbenjnipaa
