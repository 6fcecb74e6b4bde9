/- The reference's disk: New (16), Find (47), Left (41), Read (36), Fails (19), Name (48). -/
import Derived.Test.YtbopfdbenjnipaaRefBase
namespace Go.Proofs.Ytbopfdbenjnipaa
set_option maxRecDepth 100000
open Go.RowKit Go.Maps Go.Sort
variable {w : World} {x : Nat} {R : Rf} {fp : List Nat}
theorem rnew_bad (w : World) (n : Int) (h : n < 1 ∨ 1048576 < n) : Calls Try.prog 16 #[.int .i64 n] w fun e w' => e = .returned (.tuple #[.pointer none, .int .i64 2]) ∧ w = w' := by
  rcases h with h | h
  · go_enter Try.func16, Try.ntmps16
    go_wp2
    go_ret2
    exact ⟨rfl, rfl⟩
  · have h' : 1 ≤ n := by omega
    go_enter Try.func16, Try.ntmps16
    go_wp2
    go_ret2
    exact ⟨rfl, rfl⟩
theorem rnew_world (w : World) (n : Int) (h1 : 1 ≤ n) (h2 : n ≤ 1048576) : Calls Try.prog 16 #[.int .i64 n] w fun e w' => e = .returned (.tuple #[.pointer (some ⟨w.heap.size, 0, none⟩), .int .i64 0]) ∧
    w.alloc (.cells #[.int .i64 n, .slice none 0 0, .int .i64 0, .int .i64 0] 70) = w' := by
  go_enter Try.func16, Try.ntmps16
  go_wp2
  go_ret2
  exact ⟨rfl, rfl⟩
theorem rnew_ok (w : World) (n : Int) (h1 : 1 ≤ n) (h2 : n ≤ 1048576) : Calls Try.prog 16 #[.int .i64 n] w fun e w' => e = .returned (.tuple #[.pointer (some ⟨w.heap.size, 0, none⟩), .int .i64 0]) ∧ RAfter w w.heap.size [] (Rf.new n) w' := by
  refine (rnew_world w n h1 h2).mono ?_
  rintro e w' ⟨rfl, rfl⟩
  refine ⟨rfl, [w.heap.size], ⟨.slice none 0 0, ?_⟩, Ext.alloc _ _ _, fun b hb => by simp at hb; right; omega⟩
  have en : ((n.toNat : Nat) : Int) = n := by omega
  exact { hx := by rw [heap_new]; simp only [Rf.new, en], hv := World.ownsRow_nil _ _ _ _, hfp := rfl, hne := by simp [Value.ownBlock] }
theorem rfails_any (h : RefAt w x R fp) (a s : Int) : Calls Try.prog 19 #[.pointer (some ⟨x, 0, none⟩), .int .i64 a, .int .i64 s] w fun e w' => e = .returned (.int .i64 (R.fails a s).2) ∧ RAfter w x fp (R.fails a s).1 w' := by
  obtain ⟨v, h⟩ := h
  by_cases hb : a < 0 ∨ s < 0
  · have e1 : R.fails a s = (R, 2) := by unfold Rf.fails; rw [if_pos hb]
    rw [e1]
    have hA : RAfter w x fp R w := RAfter.of ⟨v, h⟩ (Ext.refl _ _)
    clear h e1
    by_cases ha : a < 0
    · clear hb
      go_enter Try.func19, Try.ntmps19
      go_wp2
      go_ret
      exact ⟨rfl, hA⟩
    · have hs : s < 0 := by omega
      clear hb
      go_enter Try.func19, Try.ntmps19
      go_wp2
      go_ret
      exact ⟨rfl, hA⟩
  · have e1 : R.fails a s = ({ R with app := a, syn := s }, 0) := by unfold Rf.fails; rw [if_neg hb]
    rw [e1]
    obtain ⟨_, _, c2, c3⟩ := h.cell
    obtain ⟨_, f2, f3⟩ := h.free
    have ha : 0 ≤ a := by omega
    have hs : 0 ≤ s := by omega
    have HL := Lib.hid h
    clear h hb e1
    go_enter Try.func19, Try.ntmps19
    go_wp2
    go_ret
    have g := HL.out
    have hxf : x ∈ fp := by rw [g.hfp]; simp
    have x1 := fun (w : World) (o : Nat) (v : Value) => (Ext.setCell w ⟨x, o, none⟩ v).mono (G := (· ∈ fp)) (fun k hk => by subst hk; exact hxf)
    refine ⟨rfl, RAfter.of ⟨v, { hx := ?_, hv := ?_, hfp := g.hfp, hne := g.hne }⟩ ((x1 w 2 _).trans (x1 _ 3 _))⟩
    · rw [heap_set_same (heap_set_same g.hx)]; rfl
    · exact ownsRow_keep g.hv (fun b hb => by
        have hbx : b ≠ x := fun e => g.hne (by rw [hb, e])
        rw [heap_set_other hbx, heap_set_other hbx])
/-- The place of a name, as the reference gives it. -/
def placeI (l : List Fl) (s : List UInt8) : Int := match idxF l s with | some i => (i : Int) | none => -1
theorem placeI_some {l : List Fl} {s : List UInt8} {i : Nat} (h : idxF l s = some i) : placeI l s = i := by unfold placeI; rw [h]
theorem placeI_none {l : List Fl} {s : List UInt8} (h : idxF l s = none) : placeI l s = -1 := by unfold placeI; rw [h]
set_option maxHeartbeats 400000 in
theorem find_any (h : RefAt w x R fp) (hR : R.Ok) (s : ByteArray) :
    Calls Try.prog 47 #[.pointer (some ⟨x, 0, none⟩), .string s] w fun e w' => e = .returned (.int .i64 (placeI R.L s.data.toList)) ∧ w = w' := by
  obtain ⟨v, h⟩ := h
  obtain ⟨a, cap, rfl, hcap, hcapm, hsh⟩ := h.shape
  have c1 := h.cell.2.1
  have hfew : R.L.length ≤ 64 := hR.few
  have HI : Hid (∀ k, k < R.L.length → (∀ i (hi : i < k) (hl : i < R.L.length), R.L[i].name ≠ s.data.toList) → ∀ hl : k < R.L.length, R.L[k].name = s.data.toList → idxF R.L s.data.toList = some k) := by
    intro k hk hno hl he
    unfold idxF
    rw [List.findIdx?_eq_some_iff_getElem]
    exact ⟨hl, by simpa using he, fun j hj => by simpa using hno j hj (by omega)⟩
  have HN : Hid ((∀ i (hl : i < R.L.length), R.L[i].name ≠ s.data.toList) → idxF R.L s.data.toList = none) := by
    intro hno
    unfold idxF
    rw [List.findIdx?_eq_none_iff]
    intro f hf
    obtain ⟨i, hi, rfl⟩ := List.getElem_of_mem hf
    simpa using hno i hi
  clear h hR
  go_enter Try.func47, Try.ntmps47
  go_wp2
  go_loop [4, 5] (fun _ i => ∃ k : Nat, k ≤ R.L.length ∧ i = .int .i64 k ∧ Hid (∀ i (hi : i < k) (hl : i < R.L.length), R.L[i].name ≠ s.data.toList)) (fun _ i => R.L.length - (intOf i).toNat)
  case atStart => exact ⟨0, Nat.zero_le _, rfl, fun i hi => by omega⟩
  case round =>
    obtain ⟨k, hk, rfl, hno⟩ := hrel
    by_cases hlt : k < R.L.length
    · rcases hsh with h0 | ⟨g, rfl, _, _, hsh⟩
      · omega
      have hc := (hsh k hlt).1
      have hl' := hlt
      clear hsh
      by_cases he : R.L[k].name = s.data.toList
      · have hi := HI.out k hlt hno.out hl' he
        have ht : (R.L[k].name == s.toList) = true := by
          rw [beq_iff_eq, he, Lib.toList_data]
        have HE := Lib.hid hi
        clear hi he hno
        go_wp2
        go_ret
        rw [placeI_some HE.out]
        exact ⟨rfl, rfl⟩
      · have ht : (R.L[k].name == s.toList) = false := by
          rw [beq_eq_false_iff_ne]
          intro e
          apply he
          rw [Lib.toList_data] at e
          exact e
        have HE := Lib.hid he
        clear he
        go_wp2
        refine ⟨⟨k + 1, by omega, by go_num, fun i hi hl2 => ?_⟩, by simp [intOf]; omega⟩
        by_cases hik : i < k
        · exact hno.out i hik hl2
        · obtain rfl : i = k := by omega
          exact HE.out
    · have hn := HN.out (fun i hl2 => hno.out i (by omega) hl2)
      have HE := Lib.hid hn
      clear hn hno hsh
      go_wp2
      go_ret
      rw [placeI_none HE.out]
      exact ⟨rfl, rfl⟩
end Go.Proofs.Ytbopfdbenjnipaa
