/- Names (27): the keys of a map, sorted. The library's contracts are laid in YtbopfdbenjnipaaShelf. -/
import Derived.Test.YtbopfdbenjnipaaShelf
import Derived.Test.YtbopfdbenjnipaaOps4
namespace Go.Proofs
open Go.RowKit Go.Maps Go.Sort Go.Shelf

/-- slices.Sort's two contracts at this dump, at the fence that asks nothing. -/
theorem Try.sorts44 (m : Nat) : AnyZ.SortsIn Try.prog Try.sorted44_ren Fence.wide m :=
  ⟨fun blk off cap ss W hH hblk hsz => callsIn_wide.2 (AnyM.slices_Sort_string Try.sort50 blk off cap ss W hH hblk hsz),
   fun p cap W => callsIn_wide.2 (AnyM.slices_Sort_string_none Try.sort50 p cap W)⟩

/-- **maps.Keys[map[string]*portcullis/disk.file,string,*portcullis/disk.file], at whatever map, the nil one too:** a function value over ONE NEW BLOCK, which holds the map. -/
theorem Try.maps_Keys_45 (mb : Option Nat) (W : World) : CallsIn Fence.wide 5 Try.prog 45 #[.map mb] W fun e w' => e = .returned (.func (.func 51) #[] #[.pointer (some ⟨W.heap.size, 0, none⟩)]) ∧ w' = W.alloc (.cells #[.map mb] 59) :=
  AnyZ.keys_in Try.keys45 Fence.wide 5 trivial rfl mb W

set_option maxHeartbeats 1000000 in
/-- **slices.Sorted[string] AT WHAT maps.Keys[map[string]*portcullis/disk.file,string,*portcullis/disk.file] HANDED BACK FOR A MAP THAT IS NOT nil** ('w': the world AHEAD of maps.Keys' call): A NEW SLICE THAT HOLDS THE MAP's KEYS, SORTED; nil just where it has none; nothing that lay before has turned. -/
theorem Try.slices_Sorted_keys_44_45 {H : Type} (b nn : Nat) (D0 : DataW H) (R : Value → Option (DataW H × List MemPlace)) (w : World) (hown : w.ownsMap Try.prog 9 R b nn D0) (hmax : Maps.size D0 ≤ maxLen) (hbytes : Maps.size D0 * 16 ≤ 140737488355328) :
    CallsIn Fence.wide 5 Try.prog 44 #[.func (.func 51) #[] #[.pointer (some ⟨w.heap.size, 0, none⟩)]] (w.alloc (.cells #[.map (some b)] 59)) fun e w' => ∃ (v : Value) (ss : List (List UInt8)), e = .returned v ∧ ss.Perm (strKeys D0) ∧
      w'.ownsRow (w.alloc (.cells #[.map (some b)] 59)).heap.size 9 1 v ss.length ((ss.mergeSort (fun x y => decide (x ≤ y))).map encStr) ∧ (v = .slice none 0 0 ↔ ss = []) ∧ Below (w.alloc (.cells #[.map (some b)] 59)).heap.size (w.alloc (.cells #[.map (some b)] 59)) w' := by
  have hbl := hown.lt
  have hseq : SeqGives Fence.wide 2 Try.prog 51 #[.pointer (some ⟨w.heap.size, 0, none⟩)] encStr (fun ss => ss.Perm (strKeys D0)) (Maps.size D0) (w.alloc (.cells #[.map (some b)] 59)) :=
    AnyZ.keys_gives (ρ := Try.keys45_ren) { Try.keys45 with } Fence.wide _ trivial rfl (by omega) w.heap.size b nn D0 _ (by simp) (by simp) (by
      obtain ⟨es, clock, hb, Ft, hs, hD⟩ := hown
      exact ⟨es, clock, (Below.heap_alloc _ _ b hbl).trans hb, Ft, hs, hD⟩)
  exact AnyZ.sorted_in Try.sorted44 Fence.wide 5 trivial trivial trivial trivial rfl (by omega) (Try.sorts44 _) (enters_of Try.func50 (by kernel_rfl) rfl) 51 #[.pointer (some ⟨w.heap.size, 0, none⟩)] trivial (enters_of Try.func51 (by kernel_rfl) rfl) _ _ hmax hbytes _ hseq

set_option maxHeartbeats 1000000 in
/-- **.. AND FOR THE nil MAP: nil.** -/
theorem Try.slices_Sorted_keys_nil_44_45 (w : World) :
    CallsIn Fence.wide 5 Try.prog 44 #[.func (.func 51) #[] #[.pointer (some ⟨w.heap.size, 0, none⟩)]] (w.alloc (.cells #[.map none] 59)) fun e w' => ∃ (v : Value) (ss : List (List UInt8)), e = .returned v ∧ ss = [] ∧
      w'.ownsRow (w.alloc (.cells #[.map none] 59)).heap.size 9 1 v ss.length ((ss.mergeSort (fun x y => decide (x ≤ y))).map encStr) ∧ (v = .slice none 0 0 ↔ ss = []) ∧ Below (w.alloc (.cells #[.map none] 59)).heap.size (w.alloc (.cells #[.map none] 59)) w' := by
  have hseq : SeqGives Fence.wide 2 Try.prog 51 #[.pointer (some ⟨w.heap.size, 0, none⟩)] encStr (fun ss : List (List UInt8) => ss = []) 0 (w.alloc (.cells #[.map none] 59)) :=
    AnyZ.keys_gives_nil (ρ := Try.keys45_ren) { Try.keys45 with } Fence.wide _ trivial rfl w.heap.size _ (by simp) (by simp)
  exact AnyZ.sorted_in Try.sorted44 Fence.wide 5 trivial trivial trivial trivial rfl (by omega) (Try.sorts44 _) (enters_of Try.func50 (by kernel_rfl) rfl) 51 #[.pointer (some ⟨w.heap.size, 0, none⟩)] trivial (enters_of Try.func51 (by kernel_rfl) rfl) _ 0 (Nat.zero_le _) (by omega) _ hseq

end Go.Proofs
namespace Go.Proofs.Ytbopfdbenjnipaa
set_option maxRecDepth 100000
open Go.RowKit Go.Maps Go.Sort
variable {w : World} {d m : Nat} {es : List (Fl × Nat)} {vA vS : Value} {cA cS : List Nat} {S : Dk} {fp : List Nat}
theorem names_nil (w : World) : Calls Try.prog 27 #[.pointer none] w fun e w' => e = .returned (.slice none 0 0) ∧ w = w' := by
  go_enter Try.func27, Try.ntmps27
  go_wp2_with (go_at_call 30; refine (none_nil _).mono ?_; rintro e w' ⟨rfl, rfl⟩)
  go_ret
  exact ⟨rfl, rfl⟩
theorem mergeSort_rising {l : List (List UInt8)} (h : l.Pairwise (· < ·)) : l.mergeSort (fun x y => decide (x ≤ y)) = l := by
  refine List.mergeSort_of_pairwise (h.imp fun {a b} hab => ?_)
  simpa using List.le_of_lt hab
/-- A slice of strings of the call's own that holds these names. -/
def NamesAt (w : World) (base : Nat) (v : Value) (l : List (List UInt8)) : Prop := w.ownsRow base 9 1 v l.length (l.map encStr) ∧ (v = .slice none 0 0 ↔ l = [])
theorem names_any {K : Nat} (h : DiskAt w d S fp) (hS : S.Ok K) :
    Calls Try.prog 27 #[.pointer (some ⟨d, 0, none⟩)] w fun e w' => ∃ v, e = .returned v ∧ NamesAt w' w.heap.size v (S.files.map (·.name)) ∧ Below w.heap.size w w' := by
  obtain ⟨m, es, vA, vS, cA, cS, h⟩ := h
  have d2 := h.cell.2.2.1
  have hfew : es.length ≤ 64 := by have := hS.few; rw [h.files] at this; simpa using this
  have hS1 := fun (w : World) (hown : w.ownsMap Try.prog 9 ptrElem m es.length (dataOf es)) => callsIn_wide.1 (Try.slices_Sorted_keys_44_45 m es.length (dataOf es) ptrElem w hown (by rw [size_dataOf]; unfold maxLen; omega) (by rw [size_dataOf]; omega))
  have hC1 := hS1 w h.hm
  have Hr := Lib.hid hS.rising
  have Hf := Lib.hid h.files
  have HC := Lib.hid hC1
  clear hS1 hC1 hS h
  go_enter Try.func27, Try.ntmps27
  go_wp2_with (first
    | (go_at_call 30; refine (none_some _ d m d2).mono ?_; rintro e w' ⟨rfl, rfl⟩)
    | (go_at_call 45; refine (callsIn_wide.1 (Try.maps_Keys_45 (some m) _)).mono ?_; rintro e w' ⟨rfl, rfl⟩)
    | (go_at_call 44; refine HC.out.mono ?_; rintro e w' ⟨v, ss, rfl, hP, hrow, hnil, hb⟩))
  go_ret
  refine ⟨v, rfl, ?_, ?_⟩
  · have e1 : ss.mergeSort (fun x y => decide (x ≤ y)) = S.files.map (·.name) := by
      rw [mergeSort_of_perm hP, strKeys_dataOf, ← Hf.out]
      exact mergeSort_rising (rising_of_names.2 Hr.out)
    have e2 : ss.length = (S.files.map (·.name)).length := by rw [hP.length_eq, strKeys_dataOf, ← Hf.out]
    rw [e1, e2] at hrow
    refine ⟨?_, ?_⟩
    · exact ⟨hrow.1, hrow.2.imp id (fun ⟨g, cap, cur, hv, hg, r⟩ => ⟨g, cap, cur, hv, by simp at hg; omega, r⟩)⟩
    · rw [hnil, ← List.length_eq_zero_iff, e2, List.length_eq_zero_iff]
  · exact ((Below.refl _ _).alloc (Nat.le_refl _) _).trans (hb.mono (by simp))
end Go.Proofs.Ytbopfdbenjnipaa
