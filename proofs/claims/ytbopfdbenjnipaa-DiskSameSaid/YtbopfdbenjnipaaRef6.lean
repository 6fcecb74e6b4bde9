/- The reference's disk: Create (35). -/
import Derived.Test.YtbopfdbenjnipaaRef5
import Derived.Laws.AppendOwnNone
namespace Go.Proofs.Ytbopfdbenjnipaa
set_option maxRecDepth 100000
open Go.RowKit Go.Maps Go.Sort
variable {w : World} {x : Nat} {R : Rf} {fp : List Nat}
theorem insF_split : ∀ (l : List Fl) (f : Fl) (k : Nat), k ≤ l.length → (∀ i (hi : i < k) (hl : i < l.length), l[i].name < f.name) → (∀ hl : k < l.length, ¬ l[k].name < f.name) → insF f l = l.take k ++ f :: l.drop k
  | [], f, k, hk, _, _ => by
    obtain rfl : k = 0 := by simpa using hk
    rfl
  | y :: r, f, 0, _, _, h => by
    have := h (by simp)
    simp only [List.getElem_cons_zero] at this
    rw [insF, if_neg this]; rfl
  | y :: r, f, k + 1, hk, h1, h2 => by
    have h0 := h1 0 (by omega) (by simp)
    simp only [List.getElem_cons_zero] at h0
    rw [insF, if_pos h0, insF_split r f k (by simpa using hk) (fun i hi hl => by have := h1 (i + 1) (by omega) (by simpa using hl); simpa using this) (fun hl => by have := h2 (by simpa using hl); simpa using this)]
    rfl
theorem flat_drop (l : List Fl) (k : Nat) : ∀ j u, (flat (l.drop k))[j]? = some u → (flat l)[k * 4 + j]? = some u := by
  intro j u hu
  have e : flat l = flat (l.take k) ++ flat (l.drop k) := by rw [← flat_append, List.take_append_drop]
  by_cases hk : k ≤ l.length
  · have hl : (flat (l.take k)).length = k * 4 := by rw [length_flat, List.length_take]; omega
    rw [e, List.getElem?_append_right (by omega), hl, show k * 4 + j - k * 4 = j from by omega]; exact hu
  · rw [List.drop_eq_nil_of_le (by omega)] at hu
    simp [flat] at hu
theorem one_flat : ∀ (l : List Fl), ∀ u ∈ flat l, u.oneCell' = true
  | [], u, h => by simp [flat] at h
  | f :: r, u, h => by
    have e : flat (f :: r) = flatF f ++ flat r := rfl
    rw [e, List.mem_append] at h
    rcases h with h | h
    · simp only [flatF, List.mem_cons, List.not_mem_nil, or_false] at h
      rcases h with rfl | rfl | rfl | rfl <;> rfl
    · exact one_flat r u h
/-- The cells of the elements from k on, behind new blocks. -/
theorem RLay.tail {g n cap k : Nat} (h : RLay w x (.slice (some ⟨g, 0, none⟩) n cap) R fp) : ∀ j u, (flat (R.L.drop k))[j]? = some u → w.cell? ((⟨g, k * 4, none⟩ : Addr).add j) = some u := by
  intro j u hu
  have := h.hv.cells (g := g) rfl (k * 4 + j) u (flat_drop R.L k j u hu)
  rw [add_zero_mk] at this
  rw [← this]
  congr 1
  unfold Addr.add
  split
  · rename_i e; rw [e]; rfl
  · rfl
def newF (s : ByteArray) : List Value := [.string s, .string ByteArray.empty, .int .i64 0, .bool true]
theorem newF_flat (s : ByteArray) : flat [⟨s.data.toList, ByteArray.empty, 0, true⟩] = newF s := by
  have : (⟨s.data.toList.toArray⟩ : ByteArray) = s := by simp
  simp [flat, flatF, newF]
set_option maxHeartbeats 4000000 in
theorem rcreate_any (h : RefAt w x R fp) (hR : R.Ok) (s : ByteArray) (hs : s.size ≤ 140737488351232) :
    Calls Try.prog 35 #[.pointer (some ⟨x, 0, none⟩), .string s] w fun e w' => e = .returned (.int .i64 (R.create s.data.toList).2) ∧ RAfter w x fp (R.create s.data.toList).1 w' := by
  have hfind := find_any h hR s
  have h0 := h
  obtain ⟨v, h⟩ := h
  have hfew : R.L.length ≤ 64 := hR.few
  have hname := rname_any w s (by omega)
  cases hn : nameOk s.data.toList with
  | false =>
    have e1 : R.create s.data.toList = (R, 2) := by unfold Rf.create; rw [hn]; rfl
    rw [e1]
    rw [hn] at hname
    have Hn := Lib.hid hname
    clear hname hn e1 hfind h hR
    go_enter Try.func35, Try.ntmps35
    go_wp2_with (go_at_call 48; refine Hn.out.mono ?_; rintro e w' ⟨rfl, rfl⟩)
    go_ret
    exact ⟨rfl, RAfter.of h0 (Ext.refl _ _)⟩
  | true =>
    rw [hn] at hname
    have Hn := Lib.hid hname
    clear hname
    cases hi : idxF R.L s.data.toList with
    | some i =>
      obtain ⟨hlt, hnm, hf⟩ := idxF_some hi
      have e1 : R.create s.data.toList = (R, 9) := by unfold Rf.create; rw [hn, hf]; rfl
      rw [e1]
      rw [placeI_some hi] at hfind
      have Hf := Lib.hid hfind
      clear hfind hi hf e1 h hR hn hnm
      go_enter Try.func35, Try.ntmps35
      go_wp2_with (first | (go_at_call 48; refine Hn.out.mono ?_; rintro e w' ⟨rfl, rfl⟩) | (go_at_call 47; refine Hf.out.mono ?_; rintro e w' ⟨rfl, rfl⟩))
      go_ret
      exact ⟨rfl, RAfter.of h0 (Ext.refl _ _)⟩
    | none =>
      have hf := idxF_none.1 hi
      rw [placeI_none hi] at hfind
      have Hf := Lib.hid hfind
      obtain ⟨a, cap, hve, hcap, hcapm, _⟩ := h.shape
      subst hve
      have c1 := h.cell.2.1
      have HL := Lib.hid h
      by_cases hfull : 64 ≤ R.L.length
      · have e1 : R.create s.data.toList = (R, 6) := by unfold Rf.create; rw [hn, hf]; simp only [Bool.not_true, Bool.false_eq_true, if_false, if_pos hfull]
        rw [e1]
        clear hfind hi hf e1 h hR hn
        go_enter Try.func35, Try.ntmps35
        go_wp2_with (first | (go_at_call 48; refine Hn.out.mono ?_; rintro e w' ⟨rfl, rfl⟩) | (go_at_call 47; refine Hf.out.mono ?_; rintro e w' ⟨rfl, rfl⟩))
        go_ret
        exact ⟨rfl, RAfter.of h0 (Ext.refl _ _)⟩
      · have e1 : R.create s.data.toList = ({ R with L := insF ⟨s.data.toList, ByteArray.empty, 0, true⟩ R.L }, 0) := by
          unfold Rf.create; rw [hn, hf]; simp only [Bool.not_true, Bool.false_eq_true, if_false, if_neg hfull]
        rw [e1]
        have hfull' : R.L.length < 64 := by omega
        clear hfind hi hf e1 h hR hn hfull
        obtain ⟨i0, hi, hz0, hz1, hz2⟩ := info_parts info78
        go_enter Try.func35, Try.ntmps35
        go_wp2_with (first | (go_at_call 48; refine Hn.out.mono ?_; rintro e w' ⟨rfl, rfl⟩) | (go_at_call 47; refine Hf.out.mono ?_; rintro e w' ⟨rfl, rfl⟩))
        go_loopw [5, 6] (fun l j wr => ∃ k : Nat, k ≤ R.L.length ∧ j = .int .i64 k ∧ Below w.heap.size w wr ∧ wr.ownsRow w.heap.size 78 4 l (R.L.take k).length (flat (R.L.take k)) ∧ Hid (∀ i (hi : i < k) (hl : i < R.L.length), R.L[i].name < s.data.toList)) (fun _ j _ => R.L.length - (intOf j).toNat)
        case atStart => exact ⟨0, Nat.zero_le _, rfl, Below.refl _ _, World.ownsRow_nil _ _ _ _, fun i hi => by omega⟩
        case round =>
          obtain ⟨k, hk, rfl, hb, hown, hall⟩ := hrel
          have hl := HL.out.below hb
          have cr1 := hl.cell.2.1
          have hlk : (R.L.take k).length = k := by rw [List.length_take]; omega
          have HB := Lib.hid hb
          by_cases hlt2 : k < R.L.length
          · have hts := take_snoc' R.L hlt2
            obtain ⟨a', cap', e, _, _, hsh⟩ := hl.shape
            simp only [Value.slice.injEq] at e
            obtain ⟨rfl, -, rfl⟩ := e
            rcases hsh with hz | ⟨g, rfl, _, _, hsh⟩
            · omega
            obtain ⟨k0, k1, k2, k3⟩ := hsh k hlt2
            have hflat : flat [R.L[k]] = [.string ⟨R.L[k].name.toArray⟩, .string R.L[k].bytes, .int .i64 (R.L[k].synced : Int), .bool R.L[k].fresh] := rfl
            by_cases hless : R.L[k].name < s.data.toList
            · have ht : Op.bytesLess R.L[k].name s.toList = true := by rw [Proofs.bytesLess_eq, Lib.toList_data]; simpa using hless
              have HA : Hid (∀ i (hi : i < k + 1) (hl : i < R.L.length), R.L[i].name < s.data.toList) := by
                intro i hi hl
                by_cases hik : i < k
                · exact hall.out i hik hl
                · obtain rfl : i = k := by omega
                  exact hless
              generalize hT : R.L.take k = T at *
              have HT := Lib.hid hT
              have HTS := Lib.hid hts
              have HF := Lib.hid hflat
              have hTl : T.length ≤ 64 := by omega
              clear hsh hl hts hflat hall hless hT hlk
              generalize R.L[k] = f at *
              go_wp2_with (at_builtin; go_must (refine wpList_append_own _ rfl _ _ 68 rfl w.heap.size 78 i0 (.agg #[.string ByteArray.empty, .string ByteArray.empty, .int .i64 0, .bool false]) 4 48 Try.underlying68 hi hz0 hz1 hz2 rfl (by decide) _ T.length (flat T) rfl (hown.alloc _) ⟨wr.heap.size, 0, none⟩ 1 1 [.string ⟨f.name.toArray⟩, .string f.bytes, .int .i64 (f.synced : Int), .bool f.fresh] rfl rfl (cells_four _ _ _ _ _ _) (by simp [Value.oneCell']) (by unfold maxLen; omega) (by omega) (by have := HB.out.size; simp; omega) ?_); intro v' w1 hown' hgrow _)
              have hb1 : Below w.heap.size w w1 := (HB.out.alloc HB.out.size _).grown hgrow (by have := HB.out.size; simp; omega) (fun k hk => (hown.lt k hk).1)
              have HB1 := Lib.hid hb1
              have HO : Hid (w1.ownsRow w.heap.size 78 4 v' (T ++ [f]).length (flat (T ++ [f]))) := by
                show w1.ownsRow _ _ _ _ _ _
                rw [flat_append, HF.out, List.length_append]; exact hown'
              clear hb1 hown' hgrow
              go_roundw
              case rel =>
                refine ⟨k + 1, by omega, by go_num, HB1.out, ?_, HA.out⟩
                rw [HTS.out]; exact HO.out
              case measure => simp [intOf]; omega
            · have ht : Op.bytesLess R.L[k].name s.toList = false := by rw [Proofs.bytesLess_eq, Lib.toList_data]; simpa using hless
              have HSP := Lib.hid (insF_split R.L ⟨s.data.toList, ByteArray.empty, 0, true⟩ k hk hall.out (fun _ => hless))
              generalize hT : R.L.take k = T at *
              have HT := Lib.hid hT
              have hTl : T.length ≤ 64 := by omega
              have HTk := Lib.hid hlk
              clear hsh hl hts hflat hall hless hT hlk k1 k2 k3
              go_wp2_with (first | (at_builtin; (refine wpList_append_own (o := ⟨some 55, _, _, _, _, _⟩) _ rfl _ _ 68 rfl w.heap.size 78 i0 (.agg #[.string ByteArray.empty, .string ByteArray.empty, .int .i64 0, .bool false]) 4 48 Try.underlying68 hi hz0 hz1 hz2 rfl (by decide) _ T.length (flat T) rfl (hown.alloc _) ⟨wr.heap.size, 0, none⟩ 1 1 (newF s) rfl rfl (cells_four _ _ _ _ _ _) (by simp [newF, Value.oneCell']) (by unfold maxLen; omega) (by omega) (by have := HB.out.size; simp; omega) ?_); intro v1 w1 hown1 hgrow1 _; have hb1 : Below w.heap.size w w1 := (HB.out.alloc HB.out.size _).grown hgrow1 (by have := HB.out.size; simp; omega) (fun k hk => (hown.lt k hk).1); have HB1 := Lib.hid hb1; have d1 := (HL.out.below hb1).cell.2.1; clear hb1 hgrow1 hown cr1 k0) | (at_builtin; (refine wpList_append_own (o := ⟨some 63, _, _, _, _, _⟩) _ rfl _ _ 68 rfl w.heap.size 78 i0 (.agg #[.string ByteArray.empty, .string ByteArray.empty, .int .i64 0, .bool false]) 4 48 Try.underlying68 hi hz0 hz1 hz2 rfl (by decide) _ (T.length + 1) (flat T ++ newF s) rfl hown1 ⟨g, k * 4, none⟩ (R.L.length - k) _ (flat (R.L.drop k)) rfl (by rw [length_flat, List.length_drop]) (HL.out.below HB1.out).tail (one_flat _) (by unfold maxLen; omega) (by omega) (HB1.out.size) ?_); intro v2 w2 hown2 hgrow2 _; obtain ⟨a2, c2, hv2⟩ := ownsRow_slice hown2; subst hv2; have hb2 : Below w.heap.size w w2 := HB1.out.grown hgrow2 HB1.out.size (fun k hk => (hown1.lt k hk).1); have HB2 := Lib.hid hb2; have d2 := (HL.out.below hb2).cell.2.1; have fr2 := (HL.out.below hb2).free.1; clear hb2 hgrow2))
              go_ret
              refine ⟨rfl, HL.out.newL HB2.out ?_⟩
              rw [HSP.out, flat_append, List.length_append, List.length_cons, List.length_drop, show (⟨s.data.toList, ByteArray.empty, 0, true⟩ :: List.drop k R.L : List Fl) = [⟨s.data.toList, ByteArray.empty, 0, true⟩] ++ List.drop k R.L from rfl, flat_append, newF_flat, ← List.append_assoc]
              have := HTk.out
              rw [show T.length + (R.L.length - k + 1) = T.length + 1 + (R.L.length - k) from by omega]
              exact hown2
          · obtain rfl : k = R.L.length := by omega
            have HSP := Lib.hid (insF_split R.L ⟨s.data.toList, ByteArray.empty, 0, true⟩ R.L.length (Nat.le_refl _) hall.out (fun hl => absurd hl hlt2))
            rw [List.take_length] at hown
            clear hl hall hlk
            have fin : ∀ (w2 : World) (v2 : Value), Below w.heap.size w w2 → w2.ownsRow w.heap.size 78 4 v2 (R.L.length + 1) (flat R.L ++ newF s) → RAfter w x fp { R with L := insF ⟨s.data.toList, ByteArray.empty, 0, true⟩ R.L } (w2.setCell ⟨x, 1, none⟩ v2) := by
              intro w2 v2 hb2 ho
              refine HL.out.newL hb2 ?_
              rw [HSP.out, List.take_length, List.drop_length, flat_append, newF_flat, List.length_append]
              exact ho
            have FIN := Lib.hid fin
            clear fin HSP
            rcases HL.out.hv.2 with ⟨hv0, he⟩ | ⟨g, cap2, cur, hv0, _, hg, _⟩
            · simp only [Value.slice.injEq] at hv0
              obtain ⟨rfl, -, rfl⟩ := hv0
              go_wp2_with (first | (at_builtin; (refine wpList_append_own (o := ⟨some 55, _, _, _, _, _⟩) _ rfl _ _ 68 rfl w.heap.size 78 i0 (.agg #[.string ByteArray.empty, .string ByteArray.empty, .int .i64 0, .bool false]) 4 48 Try.underlying68 hi hz0 hz1 hz2 rfl (by decide) _ R.L.length (flat R.L) rfl (hown.alloc _) ⟨wr.heap.size, 0, none⟩ 1 1 (newF s) rfl rfl (cells_four _ _ _ _ _ _) (by simp [newF, Value.oneCell']) (by unfold maxLen; omega) (by omega) (by have := HB.out.size; simp; omega) ?_); intro v1 w1 hown1 hgrow1 _; have hb1 : Below w.heap.size w w1 := (HB.out.alloc HB.out.size _).grown hgrow1 (by have := HB.out.size; simp; omega) (fun k hk => (hown.lt k hk).1); have HB1 := Lib.hid hb1; have d1 := (HL.out.below hb1).cell.2.1; clear hb1 hgrow1 hown cr1) | (at_builtin; (refine wpList_append_own_none (o := ⟨some 63, _, _, _, _, _⟩) rfl _ _ 68 rfl w.heap.size 78 i0 4 Try.underlying68 hi _ (R.L.length + 1) (flat R.L ++ newF s) rfl hown1 rfl ?_); obtain ⟨a2, c2, hv2⟩ := ownsRow_slice hown1; subst hv2; have d2 := (HL.out.below HB1.out).cell.2.1; have fr2 := (HL.out.below HB1.out).free.1))
              go_ret
              exact ⟨rfl, FIN.out _ _ HB1.out (by rw [he] at hown1 ⊢; exact hown1)⟩
            · simp only [Value.slice.injEq] at hv0
              obtain ⟨rfl, -, rfl⟩ := hv0
              by_cases hcl : R.L.length = cap
              · go_wp2_with (first | (at_builtin; (refine wpList_append_own (o := ⟨some 55, _, _, _, _, _⟩) _ rfl _ _ 68 rfl w.heap.size 78 i0 (.agg #[.string ByteArray.empty, .string ByteArray.empty, .int .i64 0, .bool false]) 4 48 Try.underlying68 hi hz0 hz1 hz2 rfl (by decide) _ R.L.length (flat R.L) rfl (hown.alloc _) ⟨wr.heap.size, 0, none⟩ 1 1 (newF s) rfl rfl (cells_four _ _ _ _ _ _) (by simp [newF, Value.oneCell']) (by unfold maxLen; omega) (by omega) (by have := HB.out.size; simp; omega) ?_); intro v1 w1 hown1 hgrow1 _; have hb1 : Below w.heap.size w w1 := (HB.out.alloc HB.out.size _).grown hgrow1 (by have := HB.out.size; simp; omega) (fun k hk => (hown.lt k hk).1); have HB1 := Lib.hid hb1; have d1 := (HL.out.below hb1).cell.2.1; clear hb1 hgrow1 hown cr1) | (at_builtin; (refine wpList_append_own (o := ⟨some 63, _, _, _, _, _⟩) _ rfl _ _ 68 rfl w.heap.size 78 i0 (.agg #[.string ByteArray.empty, .string ByteArray.empty, .int .i64 0, .bool false]) 4 48 Try.underlying68 hi hz0 hz1 hz2 rfl (by decide) _ (R.L.length + 1) (flat R.L ++ newF s) rfl hown1 ⟨g, 0, none⟩ 0 _ [] rfl rfl (fun j u hu => by simp at hu) (fun u hu => by simp at hu) (by unfold maxLen; omega) (by omega) (HB1.out.size) ?_); intro v2 w2 hown2 hgrow2 _; rw [List.append_nil] at hown2; obtain ⟨a2, c2, hv2⟩ := ownsRow_slice hown2; subst hv2; have hb2 : Below w.heap.size w w2 := HB1.out.grown hgrow2 HB1.out.size (fun k hk => (hown1.lt k hk).1); have HB2 := Lib.hid hb2; have d2 := (HL.out.below hb2).cell.2.1; have fr2 := (HL.out.below hb2).free.1; clear hb2 hgrow2))
                go_ret
                exact ⟨rfl, FIN.out _ _ HB2.out (by rw [← hcl]; exact hown2)⟩
              · go_wp2_with (first | (at_builtin; (refine wpList_append_own (o := ⟨some 55, _, _, _, _, _⟩) _ rfl _ _ 68 rfl w.heap.size 78 i0 (.agg #[.string ByteArray.empty, .string ByteArray.empty, .int .i64 0, .bool false]) 4 48 Try.underlying68 hi hz0 hz1 hz2 rfl (by decide) _ R.L.length (flat R.L) rfl (hown.alloc _) ⟨wr.heap.size, 0, none⟩ 1 1 (newF s) rfl rfl (cells_four _ _ _ _ _ _) (by simp [newF, Value.oneCell']) (by unfold maxLen; omega) (by omega) (by have := HB.out.size; simp; omega) ?_); intro v1 w1 hown1 hgrow1 _; have hb1 : Below w.heap.size w w1 := (HB.out.alloc HB.out.size _).grown hgrow1 (by have := HB.out.size; simp; omega) (fun k hk => (hown.lt k hk).1); have HB1 := Lib.hid hb1; have d1 := (HL.out.below hb1).cell.2.1; clear hb1 hgrow1 hown cr1) | (at_builtin; (refine wpList_append_own (o := ⟨some 63, _, _, _, _, _⟩) _ rfl _ _ 68 rfl w.heap.size 78 i0 (.agg #[.string ByteArray.empty, .string ByteArray.empty, .int .i64 0, .bool false]) 4 48 Try.underlying68 hi hz0 hz1 hz2 rfl (by decide) _ (R.L.length + 1) (flat R.L ++ newF s) rfl hown1 ⟨g, R.L.length * 4, none⟩ 0 _ [] rfl rfl (fun j u hu => by simp at hu) (fun u hu => by simp at hu) (by unfold maxLen; omega) (by omega) (HB1.out.size) ?_); intro v2 w2 hown2 hgrow2 _; rw [List.append_nil] at hown2; obtain ⟨a2, c2, hv2⟩ := ownsRow_slice hown2; subst hv2; have hb2 : Below w.heap.size w w2 := HB1.out.grown hgrow2 HB1.out.size (fun k hk => (hown1.lt k hk).1); have HB2 := Lib.hid hb2; have d2 := (HL.out.below hb2).cell.2.1; have fr2 := (HL.out.below hb2).free.1; clear hb2 hgrow2))
                go_ret
                exact ⟨rfl, FIN.out _ _ HB2.out hown2⟩
end Go.Proofs.Ytbopfdbenjnipaa
