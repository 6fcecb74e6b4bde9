/- Sync (11), Cut (25), Remove (26). -/
import Derived.Test.YtbopfdbenjnipaaOps2
import Derived.StillTailTactics
namespace Go.Proofs.Ytbopfdbenjnipaa
set_option maxRecDepth 100000
open Go.RowKit Go.Maps
variable {w : World} {d m : Nat} {es : List (Fl × Nat)} {vA vS : Value} {cA cS : List Nat} {S : Dk} {fp : List Nat}
set_option maxHeartbeats 1000000 in
theorem sync_any {w : World} {d K : Nat} {S : Dk} {fp : List Nat} (h : DiskAt w d S fp) (hS : S.Ok K) (hK : K ≤ 4611686018427387904) (s : ByteArray) (hs : s.size ≤ maxLen) :
    Calls Try.prog 11 #[.pointer (some ⟨d, 0, none⟩), .string s] w fun e w' => e = .returned (.int .i64 (S.sync s.data.toList).2) ∧ After w d fp (S.sync s.data.toList).1 w' := by
  obtain ⟨m, es, vA, vS, cA, cS, h⟩ := h
  cases hf : findF S.files s.data.toList with
  | none =>
    have e1 : S.sync s.data.toList = (S, 5) := by simp only [Dk.sync, hf]
    have hc := file_missing h s hs hf
    have ha : After w d fp S w := After.of ⟨m, es, vA, vS, cA, cS, h⟩ (Ext.refl _ _)
    rw [e1]
    clear h hf e1 hS
    have Hc := Lib.hid hc
    clear hc
    go_enter Try.func11, Try.ntmps11
    go_wp2_with (go_at_call 32; refine Hc.out.mono ?_; rintro e w' ⟨rfl, rfl⟩)
    go_ret
    exact ⟨rfl, ha⟩
  | some f =>
    obtain ⟨b, hb, hc⟩ := file_found h s hs hf
    have hbd := (h.ne.2.2.2.1 _ hb).1
    have c4 := h.cell.2.2.2.2
    have hfm := findF_mem hf
    have hsz := hS.size_le hfm.1
    have Hc := Lib.hid hc
    clear hc
    cases hfn : failsNow S.syn with
    | true =>
      have e1 : S.sync s.data.toList = ({ S with syn := tick S.syn }, 230) := by simp only [Dk.sync, hf, hfn]; rfl
      rw [e1]
      rcases h.callS hS.syn hK hfn with ⟨rfl, hc2⟩ | ⟨cb, rfl, hc2⟩
      all_goals
        have Hc2 := Lib.hid hc2
        clear hc2 hfn hf e1 h
        go_enter Try.func11, Try.ntmps11
        go_wp2_with (go_at_call 32; refine Hc.out.mono ?_; rintro e w' ⟨rfl, rfl⟩)
        refine Hc2.out.mono ?_
        rintro e w1 ⟨rfl, hl1, hx1⟩
        go_wp2_with fail
        go_ret
        exact ⟨rfl, After.of ⟨m, es, vA, _, cA, cS, hl1⟩ hx1⟩
    | false =>
      have e1 : S.sync s.data.toList = ({ S with syn := tick S.syn, files := updF S.files s.data.toList fun f => { f with synced := f.bytes.size, fresh := false } }, 0) := by simp only [Dk.sync, hf, hfn]; rfl
      have htot := total_upd_eq (fun f => { f with synced := f.bytes.size, fresh := false }) hS.rising hfm.1
      rw [hfm.2] at htot
      rw [e1]
      have Htot := Lib.hid htot
      rcases h.callS hS.syn hK hfn with ⟨rfl, hc2⟩ | ⟨cb, rfl, hc2⟩
      all_goals
        have Hc2 := Lib.hid hc2
        have Hnm := Lib.hid hfm.2
        have Hri := Lib.hid hS.rising
        have hbdk := h.mem.1
        have hbk := h.mem.2.2.2.2 _ hb
        clear hc2 hfn hf e1 h hfm htot hS
        go_enter Try.func11, Try.ntmps11
        go_wp2_with (go_at_call 32; refine Hc.out.mono ?_; rintro e w' ⟨rfl, rfl⟩)
        refine Hc2.out.mono ?_
        rintro e w1 ⟨rfl, hl1, hx1⟩
        have hfb := hl1.fls _ hb
        have b0 := hfb.cell.1
        have b1 := hfb.cell.2.1
        have b2 := hfb.cell.2.2
        have fb1 := hfb.free.2.1
        have fb2 := hfb.free.2.2
        have hbd' : d ≠ b := Ne.symm hbd
        have HL := Lib.hid hl1
        have HF := Lib.hid hfb
        clear hl1 hfb
        simp only at b0 b1 b2 fb1 fb2
        go_wp2_with fail
        go_ret
        refine ⟨rfl, After.of ⟨m, _, vA, _, cA, cS, HL.out.upd Hri.out hb (fun f => { f with synced := f.bytes.size, fresh := false }) (fun _ => rfl) (fun k h1 h2 => ?_) ?_ ?_ (by rw [Hnm.out]) rfl rfl⟩ (hx1.trans ?_)⟩
        · rw [heap_set_other h2, heap_set_other h2]
        · unfold FlAt
          rw [heap_set_same (heap_set_same HF.out)]
          rfl
        · rw [heap_set_other hbd', heap_set_other hbd', HL.out.hd]
          have : S.left = Dk.left { S with syn := tick S.syn, files := updF S.files s.data.toList fun f => { f with synced := f.bytes.size, fresh := false } } := by
            unfold Dk.left; have := Htot.out; simp only; omega
          rw [← this]
          rfl
        · have x1 := (Ext.setCell w1 ⟨b, 1, none⟩ (.int .i64 f.bytes.size)).mono (G := (· ∈ fp)) (fun k hk => by subst hk; exact hbk)
          exact x1.trans ((Ext.setCell _ ⟨b, 2, none⟩ _).mono (fun k hk => by subst hk; exact hbk))
set_option maxHeartbeats 1000000 in
theorem cut_any {w : World} {d K : Nat} {S : Dk} {fp : List Nat} (h : DiskAt w d S fp) (hS : S.Ok K) (s : ByteArray) (n : Int) (hs : s.size ≤ maxLen) :
    Calls Try.prog 25 #[.pointer (some ⟨d, 0, none⟩), .string s, .int .i64 n] w fun e w' => e = .returned (.int .i64 (S.cut s.data.toList n).2) ∧ After w d fp (S.cut s.data.toList n).1 w' := by
  obtain ⟨m, es, vA, vS, cA, cS, h⟩ := h
  cases hf : findF S.files s.data.toList with
  | none =>
    have e1 : S.cut s.data.toList n = (S, 5) := by simp only [Dk.cut, hf]
    have hc := file_missing h s hs hf
    have ha : After w d fp S w := After.of ⟨m, es, vA, vS, cA, cS, h⟩ (Ext.refl _ _)
    rw [e1]
    clear h hf e1 hS
    have Hc := Lib.hid hc
    clear hc
    go_enter Try.func25, Try.ntmps25
    go_wp2_with (go_at_call 32; refine Hc.out.mono ?_; rintro e w' ⟨rfl, rfl⟩)
    go_ret
    exact ⟨rfl, ha⟩
  | some f =>
    obtain ⟨b, hb, hc⟩ := file_found h s hs hf
    have hbd := (h.ne.2.2.2.1 _ hb).1
    have hfm := findF_mem hf
    have hsz := hS.size_le hfm.1
    have Hc := Lib.hid hc
    have hfb := h.fls _ hb
    have b0 := hfb.cell.1
    simp only at b0
    clear hc
    by_cases hn : n < 0 ∨ (f.bytes.size : Int) < n
    · have e1 : S.cut s.data.toList n = (S, 2) := by simp only [Dk.cut, hf, if_pos hn]
      have ha : After w d fp S w := After.of ⟨m, es, vA, vS, cA, cS, h⟩ (Ext.refl _ _)
      rw [e1]
      clear h hf e1 hS hfb hfm
      by_cases hn0 : n < 0
      · clear hn
        go_enter Try.func25, Try.ntmps25
        go_wp2_with (go_at_call 32; refine Hc.out.mono ?_; rintro e w' ⟨rfl, rfl⟩)
        go_ret
        exact ⟨rfl, ha⟩
      · have hn1 : (f.bytes.size : Int) < n := by omega
        clear hn
        go_enter Try.func25, Try.ntmps25
        go_wp2_with (go_at_call 32; refine Hc.out.mono ?_; rintro e w' ⟨rfl, rfl⟩)
        go_ret
        exact ⟨rfl, ha⟩
    · obtain ⟨k, rfl⟩ := Int.eq_ofNat_of_zero_le (a := n) (by omega)
      have hk : k ≤ f.bytes.size := by omega
      have e1 : S.cut s.data.toList (k : Int) = ({ S with files := updF S.files s.data.toList fun f => { f with bytes := f.bytes.extract 0 k, synced := k, fresh := false } }, 0) := by
        simp only [Dk.cut, hf, if_neg hn, Int.toNat_natCast]
      have htot := total_upd_eq (fun f => { f with bytes := f.bytes.extract 0 k, synced := k, fresh := false }) hS.rising hfm.1
      rw [hfm.2, show (({ f with bytes := f.bytes.extract 0 k, synced := k, fresh := false } : Fl).bytes.size) = k from by rw [size_cut]; omega] at htot
      rw [e1]
      have Htot := Lib.hid htot
      have Hnm := Lib.hid hfm.2
      have Hri := Lib.hid hS.rising
      have hbdk := h.mem.1
      have hbk := h.mem.2.2.2.2 _ hb
      have b1 := hfb.cell.2.1
      have b2 := hfb.cell.2.2
      have fb0 := hfb.free.1
      have fb1 := hfb.free.2.1
      have fb2 := hfb.free.2.2
      have d1 : w.cell? ⟨d, 1, none⟩ = some (.int .i64 S.left) := h.cell.2.1
      have fd1 := h.free.1
      have hl0 : 0 ≤ S.left := by unfold Dk.left; have := hS.fits; omega
      have hl1 : S.left ≤ 1048576 := by unfold Dk.left; have := hS.room1; omega
      have hbd' : d ≠ b := Ne.symm hbd
      have HL := Lib.hid h
      have HF := Lib.hid hfb
      clear h hfb hf e1 hfm htot hS hn
      simp only at b0 b1 b2 fb0 fb1 fb2
      go_enter Try.func25, Try.ntmps25
      go_wp2_with (go_at_call 32; refine Hc.out.mono ?_; rintro e w' ⟨rfl, rfl⟩)
      set_option maxRecDepth 100000 in go_still_tail 14, (by kernel_rfl)
      go_wp2
      go_ret
      refine ⟨rfl, After.of ⟨m, _, vA, vS, cA, cS, HL.out.upd Hri.out hb (fun f => { f with bytes := f.bytes.extract 0 k, synced := k, fresh := false }) (fun _ => rfl) (fun j h1 h2 => ?_) ?_ ?_ (by rw [Hnm.out]) rfl rfl⟩ ?_⟩
      · show ((((w.setCell _ _).setCell _ _).setCell _ _).setCell _ _).heap[j]? = _
        rw [heap_set_other h2, heap_set_other h2, heap_set_other h2, heap_set_other h1]
      · show ((((w.setCell _ _).setCell _ _).setCell _ _).setCell _ _).heap[b]? = _
        rw [heap_set_same (heap_set_same (heap_set_same ((heap_set_other hbd).trans HF.out)))]
        rfl
      · show ((((w.setCell _ _).setCell _ _).setCell _ _).setCell _ _).heap[d]? = _
        rw [heap_set_other hbd', heap_set_other hbd', heap_set_other hbd', heap_set_same HL.out.hd]
        have : S.left + ((f.bytes.size : Int) - (k : Int)) = Dk.left { S with files := updF S.files s.data.toList fun f => { f with bytes := f.bytes.extract 0 k, synced := k, fresh := false } } := by
          unfold Dk.left; have := Htot.out; simp only; omega
        rw [← this]
        rfl
      · have x1 := (Ext.setCell w ⟨d, 1, none⟩ (.int .i64 (S.left + ((f.bytes.size : Int) - (k : Int))))).mono (G := (· ∈ fp)) (fun k hk => by subst hk; exact hbdk)
        have x2 := fun (w : World) (o : Nat) (v : Value) => (Ext.setCell w ⟨b, o, none⟩ v).mono (G := (· ∈ fp)) (fun k hk => by subst hk; exact hbk)
        exact (((x1.trans (x2 _ 0 _)).trans (x2 _ 1 _)).trans (x2 _ 2 _)).trans (Ext.drew _ _)
theorem Lay.del (h : Lay w d m es vA vS cA cS S fp) (s : List UInt8) {w' : World} {S' : Dk}
    (o : ∀ k, k ∈ fp → k ≠ d → k ≠ m → w'.heap[k]? = w.heap[k]?) (hd' : w'.heap[d]? = some (.cells #[.int .i64 (S'.room : Int), .int .i64 S'.left, .map (some m), vA, vS] 61 (0, 0)))
    (hm : w'.ownsMap Try.prog 9 ptrElem m es.length ((dataOf es).del (.string s))) (hf : S'.files = delF S.files s) (ha : S'.app = S.app) (hs : S'.syn = S.syn) :
    Lay w' d m (es.filter fun p => !(p.1.name == s)) vA vS cA cS S' (d :: m :: (cA ++ cS ++ (es.filter fun p => !(p.1.name == s)).map (·.2))) := by
  have hne := h.ne
  have hsub : ((es.filter fun p => !(p.1.name == s)).map (·.2)).Sublist (es.map (·.2)) := (List.filter_sublist).map _
  rw [del_dataOf] at hm
  have hm' := ownsMap_tight hm
  rw [size_dataOf] at hm'
  refine { hd := hd', hm := hm', files := by rw [hf, map_filter_es, h.files], fls := fun p hp => ?_, fnA := ?_, fnS := ?_, hfp := rfl, nd := ?_ }
  · have hp' := (List.mem_filter.1 hp).1
    exact (o p.2 (h.mem.2.2.2.2 p hp') (hne.2.2.2.1 p hp').1 (hne.2.2.2.1 p hp').2).trans (h.fls p hp')
  · rw [ha]; exact h.fnA.keep fun k hk => o k (h.mem.2.2.1 k hk) (hne.2.1 k hk).1 (hne.2.1 k hk).2
  · rw [hs]; exact h.fnS.keep fun k hk => o k (h.mem.2.2.2.1 k hk) (hne.2.2.1 k hk).1 (hne.2.2.1 k hk).2
  · have hn := h.nd
    rw [h.hfp] at hn
    exact hn.sublist (((List.Sublist.refl _).append hsub).cons_cons m |>.cons_cons d)
theorem total_del {fs : List Fl} {f : Fl} (hr : fs.Pairwise fun a b => a.name < b.name) (hf : f ∈ fs) : total (delF fs f.name) + f.bytes.size = total fs := by
  induction fs with
  | nil => simp at hf
  | cons x r ih =>
    have hr' := List.Pairwise.of_cons hr
    rcases List.mem_cons.1 hf with rfl | hf'
    · have e : delF (f :: r) f.name = delF r f.name := by simp [delF]
      have e2 : delF r f.name = r := by
        unfold delF
        rw [List.filter_eq_self]
        intro y hy
        have := List.rel_of_pairwise_cons hr hy
        simp only [Bool.not_eq_true', beq_eq_false_iff_ne, ne_eq]
        intro e; rw [e] at this; exact absurd this (List.lt_irrefl _)
      rw [e, e2, total_cons]; omega
    · have hlt := List.rel_of_pairwise_cons hr hf'
      have hne : x.name ≠ f.name := fun e => by rw [e] at hlt; exact absurd hlt (List.lt_irrefl _)
      have e : delF (x :: r) f.name = x :: delF r f.name := by simp [delF, hne]
      have := ih hr' hf'
      rw [e, total_cons, total_cons]; omega
set_option maxHeartbeats 1000000 in
theorem remove_any {w : World} {d K : Nat} {S : Dk} {fp : List Nat} (h : DiskAt w d S fp) (hS : S.Ok K) (s : ByteArray) (hs : s.size ≤ maxLen) :
    Calls Try.prog 26 #[.pointer (some ⟨d, 0, none⟩), .string s] w fun e w' => e = .returned (.int .i64 (S.remove s.data.toList).2) ∧ After w d fp (S.remove s.data.toList).1 w' := by
  obtain ⟨m, es, vA, vS, cA, cS, h⟩ := h
  cases hf : findF S.files s.data.toList with
  | none =>
    have e1 : S.remove s.data.toList = (S, 5) := by simp only [Dk.remove, hf]
    have hc := file_missing h s hs hf
    have ha : After w d fp S w := After.of ⟨m, es, vA, vS, cA, cS, h⟩ (Ext.refl _ _)
    rw [e1]
    clear h hf e1 hS
    have Hc := Lib.hid hc
    clear hc
    go_enter Try.func26, Try.ntmps26
    go_wp2_with (go_at_call 32; refine Hc.out.mono ?_; rintro e w' ⟨rfl, rfl⟩)
    go_ret
    exact ⟨rfl, ha⟩
  | some f =>
    obtain ⟨b, hb, hc⟩ := file_found h s hs hf
    have hbd := (h.ne.2.2.2.1 _ hb).1
    have hfm := findF_mem hf
    have hsz := hS.size_le hfm.1
    have Hc := Lib.hid hc
    have hfb := h.fls _ hb
    have b0 := hfb.cell.1
    simp only at b0
    clear hc
    have hkey := WideMaps.keyOf_string_mk Try.underlying9 hs
    have e1 : S.remove s.data.toList = ({ S with files := delF S.files s.data.toList }, 0) := by simp only [Dk.remove, hf]
    have htot := total_del hS.rising hfm.1
    rw [hfm.2] at htot
    rw [e1]
    have Htot := Lib.hid htot
    have hmf := h.mem
    have d1 : w.cell? ⟨d, 1, none⟩ = some (.int .i64 S.left) := h.cell.2.1
    have d2 : w.cell? ⟨d, 2, none⟩ = some (.map (some m)) := h.cell.2.2.1
    have fd1 := h.free.1
    have hl0 : 0 ≤ S.left := by unfold Dk.left; have := hS.fits; omega
    have hl1 : S.left ≤ 1048576 := by unfold Dk.left; have := hS.room1; omega
    have hdm := h.ne.1
    have HL := Lib.hid h
    have hown0 : (w.setCell ⟨d, 1, none⟩ (.int .i64 (S.left + (f.bytes.size : Int)))).drew.ownsMap Try.prog 9 ptrElem m es.length (dataOf es) := ownsMap_keep h.hm (heap_set_other (Ne.symm hdm))
    have Hmf := Lib.hid hmf
    clear h hfb hf e1 hfm htot hS hmf
    go_enter Try.func26, Try.ntmps26
    go_wp2_with (go_at_call 32; refine Hc.out.mono ?_; rintro e w' ⟨rfl, rfl⟩)
    set_option maxRecDepth 100000 in go_still_tail 12, (by kernel_rfl)
    go_wp2_with (at_delete; go_must (refine wpList_delete_own _ rfl _ _ 59 9 rfl 63 law9 Try.underlying59 ptrElem m es.length (dataOf es) rfl hown0 _ _ rfl hkey ?_); intro w1 hown1 hturn1)
    go_ret
    refine ⟨rfl, ?_⟩
    have hg := hturn1.grown
    have hml : m < w.heap.size := HL.out.hm.lt
    have hdl : d < w.heap.size := (Array.getElem?_eq_some_iff.1 HL.out.hd).1
    have z0 : ((w.setCell ⟨d, 1, none⟩ (.int .i64 (S.left + (f.bytes.size : Int)))).drew).heap.size = w.heap.size := by
      show (w.setCell _ _).heap.size = _
      simp [World.setCell]
    have xs := (Ext.setCell w ⟨d, 1, none⟩ (.int .i64 (S.left + (f.bytes.size : Int)))).mono (G := (· ∈ fp)) (fun k hk => by subst hk; exact Hmf.out.1)
    have x1 := (xs.trans (Ext.drew _ _)).trans ((Ext.of_grown hg).mono (fun k hk => by subst hk; exact Hmf.out.2.1))
    have hdd : w1.heap[d]? = some (.cells #[.int .i64 (S.room : Int), .int .i64 (S.left + (f.bytes.size : Int)), .map (some m), vA, vS] 61 (0, 0)) := by
      rw [hg.block d (by rw [z0]; exact hdl) (fun e => hdm (by injection e))]
      show (w.setCell _ _).heap[d]? = _
      rw [heap_set_same HL.out.hd]; rfl
    have e2 : S.left + (f.bytes.size : Int) = Dk.left { S with files := delF S.files s.data.toList } := by
      unfold Dk.left; have := Htot.out; simp only; omega
    rw [e2] at hdd
    have hl' : ∀ k, k ∈ fp → k ≠ d → k ≠ m → w1.heap[k]? = w.heap[k]? := fun k hk h1 h2 => by
      rw [hg.block k (by rw [z0]; exact HL.out.lt k hk) (fun e => h2 (by injection e))]
      exact heap_set_other h1
    have hl2 := HL.out.del s.data.toList (w' := w1) (S' := { S with files := delF S.files s.data.toList }) hl' hdd hown1 rfl rfl rfl
    refine ⟨_, ⟨m, _, vA, vS, cA, cS, hl2⟩, x1, fun b hb => Or.inl ?_⟩
    rw [HL.out.hfp]
    simp only [List.mem_cons, List.mem_append] at hb ⊢
    rcases hb with h | h | h | h
    · exact Or.inl h
    · exact Or.inr (Or.inl h)
    · exact Or.inr (Or.inr (Or.inl h))
    · obtain ⟨p, hp, rfl⟩ := List.mem_map.1 h
      exact Or.inr (Or.inr (Or.inr (List.mem_map_of_mem (List.mem_filter.1 hp).1)))
end Go.Proofs.Ytbopfdbenjnipaa
