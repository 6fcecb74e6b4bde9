/- The reference's disk: Copy (22), Same (24). -/
import Derived.Test.YtbopfdbenjnipaaRef7
namespace Go.Proofs.Ytbopfdbenjnipaa
set_option maxRecDepth 100000
open Go.RowKit Go.Maps Go.Sort
variable {w : World} {x : Nat} {R : Rf} {fp : List Nat}
/-- A new disk: all its blocks are new. -/
def RNew (w : World) (R : Rf) (e : Ending) (w' : World) : Prop := ∃ y fp', e = .returned (.pointer (some ⟨y, 0, none⟩)) ∧ RefAt w' y R fp' ∧ Below w.heap.size w w' ∧ ∀ b ∈ fp', w.heap.size ≤ b
theorem own_empty (w : World) : ((w.alloc (.cells #[] 78)).drew).ownsRow w.heap.size 78 4 (.slice (some ⟨w.heap.size, 0, none⟩) 0 0) 0 [] := by
  refine ⟨rfl, Or.inr ⟨w.heap.size, 0, #[], rfl, Nat.le_refl _, ?_, Nat.le_refl _, by unfold maxLen; omega, rfl, rfl⟩⟩
  show (w.alloc (.cells #[] 78)).heap[w.heap.size]? = _
  exact heap_new w _
theorem rnew_of {w1 : World} {v' : Value} (hb : Below w.heap.size w w1) (ho : w1.ownsRow w.heap.size 78 4 v' R.L.length (flat R.L)) : RNew w R.copy (.returned (.pointer (some ⟨w1.heap.size, 0, none⟩))) (w1.alloc (.cells #[.int .i64 (R.room : Int), v', .int .i64 0, .int .i64 0] 70)) := by
  have hsz := hb.size
  refine ⟨w1.heap.size, w1.heap.size :: v'.ownBlock.toList, rfl, ⟨v', ?_⟩, hb.alloc hb.size _, ?_⟩
  · have hne : v'.ownBlock ≠ some w1.heap.size := fun e => by have := (ho.lt _ e).2; omega
    refine { hx := heap_new w1 _, hv := ?_, hfp := rfl, hne := hne }
    refine ownsRow_keep (w := w1) ?_ (fun b hb => Below.heap_alloc w1 _ b (ho.lt _ hb).2)
    exact ⟨ho.1, ho.2.imp id fun ⟨g, cap, cur, hv, _, r⟩ => ⟨g, cap, cur, hv, Nat.zero_le _, r⟩⟩
  · intro b hbm
    rcases List.mem_cons.1 hbm with rfl | hbm
    · exact hsz
    · exact (ho.lt b (by simpa using hbm)).1
set_option maxHeartbeats 4000000 in
theorem rcopy_any (h : RefAt w x R fp) (hR : R.Ok) : Calls Try.prog 22 #[.pointer (some ⟨x, 0, none⟩)] w (RNew w R.copy) := by
  obtain ⟨vl, h⟩ := h
  have hfew : R.L.length ≤ 64 := hR.few
  obtain ⟨i0, hi, hz0, hz1, hz2⟩ := info_parts info78
  obtain ⟨c0, c1, _, _⟩ := h.cell
  have D0 := fun (ob : Obj) => cell_alloc' ob c0
  have D1 := fun (ob : Obj) => cell_alloc' ob c1
  rcases h.hv.2 with ⟨hv0, he⟩ | ⟨g, cap, cur, hv0, _, hg, _⟩
  · subst hv0
    have HL := Lib.hid h
    clear h
    go_enter Try.func22, Try.ntmps22
    go_wp2
    go_region_law (fail)
    all_goals
      go_wp2
      go_ret
      have hb0 : Below w.heap.size w (w.alloc (.cells #[] 78)).drew := ((Below.refl w.heap.size w).alloc (Nat.le_refl _) (.cells #[] 78)).drew
      have ho0 : ((w.alloc (.cells #[] 78)).drew).ownsRow w.heap.size 78 4 (.slice (some ⟨w.heap.size, 0, none⟩) 0 0) R.L.length [] := by rw [he]; exact own_empty w
      have hf0 : flat R.L = [] := by rw [List.length_eq_zero_iff.1 he]; rfl
      have := rnew_of (R := R) hb0 (by rw [hf0]; exact ho0)
      have e1 : ((w.alloc (.cells #[] 78)).drew).heap.size = w.heap.size + 1 := by simp
      rw [e1] at this
      exact this
  · subst hv0
    have hnews : ∀ j u, (flat R.L)[j]? = some u → (w.alloc (.cells #[] 78)).drew.cell? ((⟨g, 0, none⟩ : Addr).add j) = some u := fun j u hu => cell_alloc' (w := w) _ (h.hv.cells (g := g) rfl j u hu)
    have HN := Lib.hid hnews
    have hxl : x < w.heap.size := h.lt x (by rw [h.hfp]; simp)
    have HL := Lib.hid h
    clear h hnews
    have hlf := length_flat R.L
    go_enter Try.func22, Try.ntmps22
    go_wp2
    go_region_law (refine step_append_own rfl (.tmp 7) (.tmp 11) 68 rfl w.heap.size 78 i0 (.agg #[.string ByteArray.empty, .string ByteArray.empty, .int .i64 0, .bool false]) 4 48 Try.underlying68 hi hz0 hz1 hz2 rfl (by decide) _ 0 [] rfl (own_empty w) ⟨g, 0, none⟩ R.L.length cap (flat R.L) rfl hlf HN.out (one_flat _) (by unfold maxLen; omega) (by omega) (by simp) ?_; intro v' w1 hown' hgrow; obtain ⟨a2, c2, hv2⟩ := ownsRow_slice hown'; subst hv2; have hbx : Below w.heap.size w w1 := (((Below.refl w.heap.size w).alloc (Nat.le_refl _) (.cells #[] 78)).drew).grown hgrow (by simp) (fun k hk => ((own_empty w).lt k hk).1); have e0 := (hbx.cell (p := ⟨x, 0, none⟩) hxl).trans c0; have HBX := Lib.hid hbx; clear hbx hgrow)
    all_goals
      go_wp2
      go_ret
      have := rnew_of (R := R) HBX.out (by rw [Nat.zero_add, List.nil_append] at hown'; exact hown')
      exact this
end Go.Proofs.Ytbopfdbenjnipaa
