/- The reference's disk: Remove (38), Create (35). -/
import Derived.Test.YtbopfdbenjnipaaRef4
namespace Go.Proofs.Ytbopfdbenjnipaa
set_option maxRecDepth 100000
open Go.RowKit Go.Maps Go.Sort
variable {w : World} {x : Nat} {R : Rf} {fp : List Nat}
theorem info78 : (Try.prog.info? 78).map (fun i => (i.zero, i.size, i.bytes)) = some (some (.agg #[.string ByteArray.empty, .string ByteArray.empty, .int .i64 0, .bool false]), 4, 48) := by kernel_rfl
theorem cells_four (w : World) (a b c d : Value) (t : TypeId) : ∀ j u, [a, b, c, d][j]? = some u → (w.alloc (.cells #[a, b, c, d] t)).cell? ((⟨w.heap.size, 0, none⟩ : Addr).add j) = some u := by
  intro j u hu
  rw [add_zero_mk]
  have hn := heap_new w (.cells #[a, b, c, d] t)
  simp only [World.cell?, hn]
  simpa using hu
theorem ownsRow_slice {w : World} {base e size n : Nat} {v : Value} {xs : List Value} (h : w.ownsRow base e size v n xs) : ∃ a c, v = .slice a n c := by
  rcases h.2 with ⟨rfl, h0⟩ | ⟨g, cap, cur, rfl, _⟩
  · exact ⟨none, 0, by rw [h0]⟩
  · exact ⟨_, _, rfl⟩
theorem delF_snoc (l : List Fl) (f : Fl) (s : List UInt8) : delF (l ++ [f]) s = delF l s ++ (if f.name = s then [] else [f]) := by
  unfold delF
  rw [List.filter_append]
  congr 1
  by_cases h : f.name = s <;> simp [h]
/-- What a loop over the old elements keeps: they, and the reference's block, are as they were. -/
theorem RLay.below {v : Value} (h : RLay w x v R fp) {w' : World} (hb : Below w.heap.size w w') : RLay w' x v R fp := h.keep fun b hbf => hb.block b (h.lt b hbf)
/-- The new slice is laid into the disk. -/
theorem RLay.newL {v v' : Value} (h : RLay w x v R fp) {w1 : World} (hb : Below w.heap.size w w1) {L' : List Fl} (hv : w1.ownsRow w.heap.size 78 4 v' L'.length (flat L')) : RAfter w x fp { R with L := L' } (w1.setCell ⟨x, 1, none⟩ v') := by
  have h1 := h.below hb
  have hxl := h.lt x (by rw [h.hfp]; simp)
  have hne : v'.ownBlock ≠ some x := fun e => by have := (hv.lt x e).1; omega
  refine ⟨x :: v'.ownBlock.toList, ⟨v', { hx := ?_, hv := ?_, hfp := rfl, hne := hne }⟩, (Ext.of_below hb (Nat.le_refl _) _).trans (h1.extX 1 v'), fun b hb' => ?_⟩
  · rw [heap_set_same h1.hx]; rfl
  · have hv2 : w1.ownsRow 0 78 4 v' L'.length (flat L') := ⟨hv.1, hv.2.imp id (fun ⟨g, cap, cur, e, _, r⟩ => ⟨g, cap, cur, e, Nat.zero_le _, r⟩)⟩
    exact ownsRow_keep hv2 (fun b hb => heap_set_other (fun e => hne (by rw [hb, e])))
  · rcases List.mem_cons.1 hb' with rfl | hb'
    · left; rw [h.hfp]; simp
    · right
      have : v'.ownBlock = some b := by simpa using hb'
      exact (hv.lt b this).1
set_option maxHeartbeats 2000000 in
theorem rremove_any (h : RefAt w x R fp) (hR : R.Ok) (s : ByteArray) :
    Calls Try.prog 38 #[.pointer (some ⟨x, 0, none⟩), .string s] w fun e w' => e = .returned (.int .i64 (R.remove s.data.toList).2) ∧ RAfter w x fp (R.remove s.data.toList).1 w' := by
  have hfind := find_any h hR s
  have h0 := h
  obtain ⟨v, h⟩ := h
  have hfew : R.L.length ≤ 64 := hR.few
  cases hi : idxF R.L s.data.toList with
  | none =>
    have hf := idxF_none.1 hi
    have e1 : R.remove s.data.toList = (R, 5) := by simp only [Rf.remove, hf]
    rw [e1]
    rw [placeI_none hi] at hfind
    have Hf := Lib.hid hfind
    clear hfind hi hf e1 h hR
    go_enter Try.func38, Try.ntmps38
    go_wp2_with (go_at_call 47; refine Hf.out.mono ?_; rintro e w' ⟨rfl, rfl⟩)
    go_ret
    exact ⟨rfl, RAfter.of h0 (Ext.refl _ _)⟩
  | some i =>
    obtain ⟨hlt, hn, hf⟩ := idxF_some hi
    rw [placeI_some hi] at hfind
    have Hf := Lib.hid hfind
    have e1 : R.remove s.data.toList = ({ R with L := delF R.L s.data.toList }, 0) := by simp only [Rf.remove, hf]
    rw [e1]
    have HNI : Hid (∀ k (hk : k < R.L.length), R.L[k].name = s.data.toList ↔ k = i) := by
      intro k hk
      constructor
      · intro e
        have hp := hR.rising
        rw [List.pairwise_iff_getElem] at hp
        rcases Nat.lt_trichotomy k i with h | h | h
        · have := hp k i hk hlt h
          simp only at this
          rw [e, hn] at this; exact absurd this (List.lt_irrefl _)
        · exact h
        · have := hp i k hlt hk h
          simp only at this
          rw [e, hn] at this; exact absurd this (List.lt_irrefl _)
      · rintro rfl; exact hn
    have HL := Lib.hid h
    clear hfind hi hf e1 h hR hn
    obtain ⟨a, cap, hve, _, _, _⟩ := HL.out.shape
    subst hve
    have c1 := HL.out.cell.2.1
    obtain ⟨i0, hi, hz0, hz1, hz2⟩ := info_parts info78
    go_enter Try.func38, Try.ntmps38
    go_wp2_with (go_at_call 47; refine Hf.out.mono ?_; rintro e w' ⟨rfl, rfl⟩)
    go_loopw [6, 7] (fun l j wr => ∃ k : Nat, k ≤ R.L.length ∧ j = .int .i64 k ∧ Below w.heap.size w wr ∧ wr.ownsRow w.heap.size 78 4 l (delF (R.L.take k) s.data.toList).length (flat (delF (R.L.take k) s.data.toList))) (fun _ j _ => R.L.length - (intOf j).toNat)
    case atStart => exact ⟨0, Nat.zero_le _, rfl, Below.refl _ _, World.ownsRow_nil _ _ _ _⟩
    case round =>
      obtain ⟨k, hk, rfl, hb, hown⟩ := hrel
      have hl := HL.out.below hb
      have cr1 := hl.cell.2.1
      by_cases hlt2 : k < R.L.length
      · have hts := take_snoc' R.L hlt2
        have hds := delF_snoc (R.L.take k) R.L[k] s.data.toList
        rw [← hts] at hds
        have hki := HNI.out k hlt2
        have HB := Lib.hid hb
        obtain ⟨a', cap', e, _, _, hs⟩ := hl.shape
        simp only [Value.slice.injEq] at e
        obtain ⟨rfl, -, rfl⟩ := e
        rcases hs with hz | ⟨g, rfl, _, _, hs⟩
        · omega
        obtain ⟨k0, k1, k2, k3⟩ := hs k hlt2
        have hflat : flat [R.L[k]] = [.string ⟨R.L[k].name.toArray⟩, .string R.L[k].bytes, .int .i64 (R.L[k].synced : Int), .bool R.L[k].fresh] := rfl
        clear hs hl hts
        by_cases he : k = i
        · rw [if_pos (hki.2 he), List.append_nil] at hds
          subst he
          have HO : Hid (wr.ownsRow w.heap.size 78 4 u6 (delF (R.L.take (k + 1)) s.data.toList).length (flat (delF (R.L.take (k + 1)) s.data.toList))) := by
            show wr.ownsRow _ _ _ _ _ _
            rw [hds]; exact hown
          clear hds hown hki hflat k0 k1 k2 k3
          go_wp2
          go_roundw
          case rel => exact ⟨k + 1, by omega, by go_num, HB.out, HO.out⟩
          case measure => simp [intOf]; omega
        · rw [if_neg (fun e => he (hki.1 e))] at hds
          have ht : ((k : Int) != (i : Int)) = true := by rw [bne_iff_ne]; omega
          have hdl : (delF (R.L.take k) s.data.toList).length ≤ 64 := by
            have h1 := (sub_delF (R.L.take k) s.data.toList).length_le
            rw [List.length_take] at h1; omega
          generalize delF (R.L.take k) s.data.toList = D at *
          generalize R.L[k] = f at *
          have HDS := Lib.hid hds
          have HF := Lib.hid hflat
          clear hds hki hflat he
          go_wp2_with (at_builtin; go_must (refine wpList_append_own _ rfl _ _ 68 rfl w.heap.size 78 i0 (.agg #[.string ByteArray.empty, .string ByteArray.empty, .int .i64 0, .bool false]) 4 48 Try.underlying68 hi hz0 hz1 hz2 rfl (by decide) _ D.length (flat D) rfl (hown.alloc _) ⟨wr.heap.size, 0, none⟩ 1 1 [.string ⟨f.name.toArray⟩, .string f.bytes, .int .i64 (f.synced : Int), .bool f.fresh] rfl rfl (cells_four _ _ _ _ _ _) (by simp [Value.oneCell']) (by unfold maxLen; omega) (by omega) (by have := HB.out.size; simp; omega) ?_); intro v' w1 hown' hgrow _)
          have hb1 : Below w.heap.size w w1 := (HB.out.alloc HB.out.size _).grown hgrow (by have := HB.out.size; simp; omega) (fun k hk => (hown.lt k hk).1)
          have HB1 := Lib.hid hb1
          have HO : Hid (w1.ownsRow w.heap.size 78 4 v' (D ++ [f]).length (flat (D ++ [f]))) := by
            show w1.ownsRow _ _ _ _ _ _
            rw [flat_append, HF.out, List.length_append]; exact hown'
          clear hb1 hown' hgrow
          go_roundw
          case rel =>
            refine ⟨k + 1, by omega, by go_num, HB1.out, ?_⟩
            rw [HDS.out]; exact HO.out
          case measure => simp [intOf]; omega
      · obtain rfl : k = R.L.length := by omega
        rw [List.take_length] at hown
        have fr1 := hl.free.1
        have HB := Lib.hid hb
        obtain ⟨a2, c2, hv2⟩ := ownsRow_slice hown
        subst hv2
        have HO := Lib.hid hown
        clear hb hown hl
        go_wp2
        go_ret
        exact ⟨rfl, HL.out.newL HB.out HO.out⟩
end Go.Proofs.Ytbopfdbenjnipaa
