/- Create (10). -/
import Derived.Test.YtbopfdbenjnipaaOps3
namespace Go.Proofs.Ytbopfdbenjnipaa
set_option maxRecDepth 100000
open Go.RowKit Go.Maps
variable {w : World} {d m : Nat} {es : List (Fl × Nat)} {vA vS : Value} {cA cS : List Nat} {S : Dk} {fp : List Nat}
theorem create_nil (w : World) (s : ByteArray) : Calls Try.prog 10 #[.pointer none, .string s] w fun e w' => e = .returned (.int .i64 1) ∧ w = w' := by
  go_enter Try.func10, Try.ntmps10
  go_wp2_with (go_at_call 30; refine (none_nil _).mono ?_; rintro e w' ⟨rfl, rfl⟩)
  go_ret
  exact ⟨rfl, rfl⟩
theorem Lay.below (h : Lay w d m es vA vS cA cS S fp) {w' : World} (hb : Below w.heap.size w w') : Lay w' d m es vA vS cA cS S fp := h.keep fun b hbf => hb.block b (h.lt b hbf)
theorem Lay.ins (h : Lay w d m es vA vS cA cS S fp) {f : Fl} {b : Nat} (hb : w.heap.size ≤ b) {w' : World} {S' : Dk} (hno : findF S.files f.name = none)
    (o : ∀ k, k ∈ fp → k ≠ m → w'.heap[k]? = w.heap[k]?) (hb' : FlAt w' f b) (hroom : S'.room = S.room) (hleft : S'.left = S.left)
    (hm : w'.ownsMap Try.prog 9 ptrElem m (es.length + 1) ((dataOf es).put (.string f.name) (.held b))) (hf : S'.files = insF f S.files) (ha : S'.app = S.app) (hs : S'.syn = S.syn) :
    Lay w' d m (insE (f, b) es) vA vS cA cS S' (d :: m :: (cA ++ cS ++ (insE (f, b) es).map (·.2))) := by
  have hne := h.ne
  have hm2 := h.mem
  have hlt := h.lt
  rw [h.files] at hno
  rw [put_dataOf hno] at hm
  have hm' := ownsMap_tight hm
  rw [size_dataOf] at hm'
  refine { hd := ?_, hm := hm', files := by rw [hf, map_insE, h.files], fls := fun p hp => ?_, fnA := ?_, fnS := ?_, hfp := rfl, nd := ?_ }
  · rw [o d hm2.1 hne.1, hroom, hleft]; exact h.hd
  · rcases mem_insE.1 hp with rfl | hp
    · exact hb'
    · exact (o p.2 (hm2.2.2.2.2 p hp) (hne.2.2.2.1 p hp).2).trans (h.fls p hp)
  · rw [ha]; exact h.fnA.keep fun k hk => o k (hm2.2.2.1 k hk) (hne.2.1 k hk).2
  · rw [hs]; exact h.fnS.keep fun k hk => o k (hm2.2.2.2.1 k hk) (hne.2.2.1 k hk).2
  · have hp := ((perm_insE (f, b) es).map (·.2))
    have hperm : (d :: m :: (cA ++ cS ++ (insE (f, b) es).map (·.2))).Perm (b :: fp) := by
      rw [h.hfp]
      refine (((List.Perm.append_left (cA ++ cS) hp).cons m).cons d).trans ?_
      simp only [List.map_cons]
      refine ((List.perm_middle.cons m).cons d).trans ?_
      exact ((List.Perm.swap b m _).cons d).trans (List.Perm.swap b d _)
    rw [hperm.nodup_iff, List.nodup_cons]
    exact ⟨fun hmem => by have := hlt b hmem; omega, h.nd⟩
theorem After.below {w w' : World} {fp : List Nat} (h : DiskAt w d S fp) (hb : Below w.heap.size w w') : After w d fp S w' :=
  After.of (h.keep (Ext.of_below hb (Nat.le_refl _) (fun _ => False)) (fun _ _ => id)) (Ext.of_below hb (Nat.le_refl _) _)
set_option maxHeartbeats 1000000 in
theorem create_any {K : Nat} (h : DiskAt w d S fp) (hS : S.Ok K) (s : ByteArray) (hs : s.size ≤ 140737488351232) :
    Calls Try.prog 10 #[.pointer (some ⟨d, 0, none⟩), .string s] w fun e w' => e = .returned (.int .i64 (S.create s.data.toList).2) ∧ After w d fp (S.create s.data.toList).1 w' := by
  have h0 := h
  obtain ⟨m, es, vA, vS, cA, cS, h⟩ := h
  have d2 := h.cell.2.2.1
  have hs' : s.size ≤ maxLen := by unfold maxLen; omega
  have hkey := WideMaps.keyOf_string_mk Try.underlying9 hs'
  cases hn : nameOk s.data.toList with
  | false =>
    have e1 : S.create s.data.toList = (S, 2) := by unfold Dk.create; rw [hn]; rfl
    have hc := name_any w s (by omega)
    rw [hn] at hc
    rw [e1]
    have Hc := Lib.hid hc
    clear hc hn e1 hkey h hS
    go_enter Try.func10, Try.ntmps10
    go_wp2_with (first | (go_at_call 30; refine (none_some _ d m d2).mono ?_; rintro e w' ⟨rfl, rfl⟩) | (go_at_call 31; refine Hc.out.mono ?_; rintro e w1 ⟨rfl, hb1⟩))
    go_ret
    exact ⟨rfl, After.below h0 hb1⟩
  | true =>
    have hc := name_any w s (by omega)
    rw [hn] at hc
    have Hc := Lib.hid hc
    clear hc
    cases hf : findF S.files s.data.toList with
    | some f =>
      have e1 : S.create s.data.toList = (S, 9) := by unfold Dk.create; rw [hn, hf]; rfl
      rw [e1]
      have hf2 := hf
      rw [h.files] at hf2
      obtain ⟨b, hb, hat⟩ := atKey_dataOf_some hf2
      have Hf := Lib.hid hat
      clear hn e1 hS hf hf2 hat
      go_enter Try.func10, Try.ntmps10
      go_wp2_with (go_at_call 30; refine (none_some _ d m d2).mono ?_; rintro e w' ⟨rfl, rfl⟩)
      refine Hc.out.mono ?_
      rintro e w1 ⟨rfl, hb1⟩
      have hl1 := h.below hb1
      obtain ⟨v, ps, hrun, hv⟩ := hl1.hm.lookup law9 Try.underlying59 (zero63 w1) (zd := .nil) (zp := []) rfl hkey
      rw [Hf.out] at hv
      obtain rfl := ptrElem_held hv
      have d2' := hl1.cell.2.2.1
      clear hv hl1 h hkey
      go_wp2_with fail
      go_ret
      exact ⟨rfl, After.below h0 hb1⟩
    | none =>
      have hf2 := hf
      rw [h.files] at hf2
      have hat := atKey_dataOf_none hf2
      have Hf := Lib.hid hat
      clear hat hf2
      have elen : S.files.length = es.length := by rw [h.files]; simp
      by_cases hfull : 64 ≤ S.files.length
      · have e1 : S.create s.data.toList = (S, 6) := by unfold Dk.create; rw [hn, hf]; simp only [Bool.not_true, Bool.false_eq_true, if_false, if_pos hfull]
        rw [e1]
        rw [elen] at hfull
        clear hn e1 hS hf elen
        go_enter Try.func10, Try.ntmps10
        go_wp2_with (go_at_call 30; refine (none_some _ d m d2).mono ?_; rintro e w' ⟨rfl, rfl⟩)
        refine Hc.out.mono ?_
        rintro e w1 ⟨rfl, hb1⟩
        have hl1 := h.below hb1
        obtain ⟨v, ps, hrun, hv⟩ := hl1.hm.lookup law9 Try.underlying59 (zero63 w1) (zd := .nil) (zp := []) rfl hkey
        rw [Hf.out] at hv
        obtain rfl := ptrElem_nil hv
        have d2' := hl1.cell.2.2.1
        have hlen := fun ty => hl1.hm.len (e := 63) Try.underlying59 ty
        simp only [size_dataOf] at hlen
        clear hv hl1 h hkey
        go_wp2_with fail
        go_ret
        exact ⟨rfl, After.below h0 hb1⟩
      · have e1 : S.create s.data.toList = ({ S with files := insF ⟨s.data.toList, ByteArray.empty, 0, true⟩ S.files }, 0) := by
          unfold Dk.create; rw [hn, hf]; simp only [Bool.not_true, Bool.false_eq_true, if_false, if_neg hfull]
        rw [e1]
        rw [elen] at hfull
        have hfull' : es.length < 64 := by omega
        have Hno := Lib.hid hf
        clear hn e1 hS hf elen hfull
        go_enter Try.func10, Try.ntmps10
        go_wp2_with (go_at_call 30; refine (none_some _ d m d2).mono ?_; rintro e w' ⟨rfl, rfl⟩)
        refine Hc.out.mono ?_
        rintro e w1 ⟨rfl, hb1⟩
        have hl1 := h.below hb1
        obtain ⟨v, ps, hrun, hv⟩ := hl1.hm.lookup law9 Try.underlying59 (zero63 w1) (zd := .nil) (zp := []) rfl hkey
        rw [Hf.out] at hv
        obtain rfl := ptrElem_nil hv
        have d2' := hl1.cell.2.2.1
        have hlen := fun ty => hl1.hm.len (e := 63) Try.underlying59 ty
        simp only [size_dataOf] at hlen
        have HL := Lib.hid hl1
        have hown := hl1.hm.alloc (.cells #[.string ByteArray.empty, .int .i64 0, .bool true] 65)
        clear hv hl1 h
        go_wp2_with (at_mapUpdate; go_must (refine wpList_mapUpdate_own _ rfl _ _ _ 59 rfl 9 63 law9 Try.underlying59 ptrElem m es.length (dataOf es) rfl hown (by unfold maxLen; omega) _ _ _ rfl rfl hkey (.held w1.heap.size) [] rfl ?_); intro w2 hown2 hg2)
        go_ret
        refine ⟨rfl, ?_⟩
        change World.grownBy (w1.alloc (.cells #[.string ByteArray.empty, .int .i64 0, .bool true] 65)) w2 (some m) at hg2
        have hml : m < w1.heap.size := HL.out.hm.lt
        have z1 : (w1.alloc (.cells #[.string ByteArray.empty, .int .i64 0, .bool true] 65)).heap.size = w1.heap.size + 1 := by simp
        have n1 := heap_new w1 (.cells #[.string ByteArray.empty, .int .i64 0, .bool true] 65)
        have x1 : Ext (· ∈ fp) w1 w2 := (Ext.alloc _ _ _).trans ((Ext.of_grown hg2).mono (fun k hk => by subst hk; exact HL.out.mem.2.1))
        have hl2 := HL.out.ins (f := ⟨s.data.toList, ByteArray.empty, 0, true⟩) (b := w1.heap.size) (Nat.le_refl _) (w' := w2) (S' := { S with files := insF ⟨s.data.toList, ByteArray.empty, 0, true⟩ S.files }) Hno.out
          (fun k hk h1 => by
            have hkl := HL.out.lt k hk
            rw [hg2.block k (by omega) (fun e => h1 (by injection e))]
            exact Below.heap_alloc _ _ _ hkl) (by unfold FlAt; rw [hg2.block _ (by omega) (fun e => by injection e; omega)]; exact n1) rfl (by unfold Dk.left; rw [total_insF]; simp) hown2 rfl rfl rfl
        refine ⟨_, ⟨m, _, vA, vS, cA, cS, hl2⟩, (Ext.of_below hb1 (Nat.le_refl _) _).trans x1, fun b hb => ?_⟩
        rw [HL.out.hfp]
        simp only [List.mem_cons, List.mem_append] at hb ⊢
        rcases hb with h | h | h | h
        · exact Or.inl (Or.inl h)
        · exact Or.inl (Or.inr (Or.inl h))
        · exact Or.inl (Or.inr (Or.inr (Or.inl h)))
        · obtain ⟨p, hp, rfl⟩ := List.mem_map.1 h
          rcases mem_insE.1 hp with rfl | hp
          · right; exact hb1.size
          · exact Or.inl (Or.inr (Or.inr (Or.inr (List.mem_map_of_mem hp))))
end Go.Proofs.Ytbopfdbenjnipaa
