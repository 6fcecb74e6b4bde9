/- The reference's disk: in plain words, in memory; Find (47), Left (41), Read (36), Fails (19), New (16). -/
import Derived.Test.YtbopfdbenjnipaaOps6
import Derived.Test.YtbopfdbenjnipaaPlain3
import Derived.Deep.QuietTactic
import Derived.BigQuiet
namespace Go.Proofs.Ytbopfdbenjnipaa
set_option maxRecDepth 100000
open Go.RowKit Go.Maps Go.Sort
/-- The cells of a file of the reference. -/
def flatF (f : Fl) : List Value := [.string ⟨f.name.toArray⟩, .string f.bytes, .int .i64 (f.synced : Int), .bool f.fresh]
def flat (l : List Fl) : List Value := l.flatMap flatF
theorem length_flat (l : List Fl) : (flat l).length = l.length * 4 := by
  induction l with
  | nil => rfl
  | cons f r ih => simp only [flat, List.flatMap_cons, List.length_append, List.length_cons] at ih ⊢; rw [ih]; simp [flatF]; omega
theorem flat_append (a b : List Fl) : flat (a ++ b) = flat a ++ flat b := by simp [flat]
theorem flat_at (l : List Fl) {i j : Nat} (hi : i < l.length) (hj : j < 4) : (flat l)[i * 4 + j]? = (flatF l[i])[j]? := by
  induction l generalizing i with
  | nil => simp at hi
  | cons f r ih =>
    have e : flat (f :: r) = flatF f ++ flat r := rfl
    have l4 : (flatF f).length = 4 := rfl
    rw [e]
    cases i with
    | zero => rw [List.getElem?_append_left (by omega)]; simp
    | succ i =>
      rw [List.getElem?_append_right (by omega), l4, show (i + 1) * 4 + j - 4 = i * 4 + j from by omega]
      simpa using ih (by simpa using hi)
theorem add_zero_mk (g n : Nat) : (⟨g, 0, none⟩ : Addr).add n = ⟨g, n, none⟩ := by
  unfold Addr.add
  split
  · rename_i h; rw [h]
  · simp
/-- The reference's disk in memory: x its block, v its slice. -/
structure RLay (w : World) (x : Nat) (v : Value) (R : Rf) (fp : List Nat) : Prop where
  hx : w.heap[x]? = some (.cells #[.int .i64 (R.room : Int), v, .int .i64 R.app, .int .i64 R.syn] 70 (0, 0))
  hv : w.ownsRow 0 78 4 v R.L.length (flat R.L)
  hfp : fp = x :: v.ownBlock.toList
  hne : v.ownBlock ≠ some x
def RefAt (w : World) (x : Nat) (R : Rf) (fp : List Nat) : Prop := ∃ v, RLay w x v R fp
def RAfter (w : World) (x : Nat) (fp : List Nat) (R' : Rf) (w' : World) : Prop := ∃ fp', RefAt w' x R' fp' ∧ Ext (· ∈ fp) w w' ∧ ∀ b ∈ fp', b ∈ fp ∨ w.heap.size ≤ b
section
variable {w w' : World} {x : Nat} {v : Value} {R : Rf} {fp : List Nat}
theorem ownsRow_keep {base e size n : Nat} {xs : List Value} (h : w.ownsRow base e size v n xs) (hk : ∀ b, v.ownBlock = some b → w'.heap[b]? = w.heap[b]?) : w'.ownsRow base e size v n xs := by
  refine ⟨h.1, h.2.imp id (fun ⟨g, cap, cur, hv, hb, hg, r⟩ => ⟨g, cap, cur, hv, hb, ?_, r⟩)⟩
  rw [hk g (by rw [hv]; rfl)]; exact hg
theorem RLay.keep (h : RLay w x v R fp) (hk : ∀ b ∈ fp, w'.heap[b]? = w.heap[b]?) : RLay w' x v R fp := by
  have e := h.hfp
  exact { h with hx := (hk x (by rw [e]; simp)).trans h.hx, hv := ownsRow_keep h.hv (fun b hb => hk b (by rw [e, hb]; simp)) }
theorem RLay.lt (h : RLay w x v R fp) : ∀ b ∈ fp, b < w.heap.size := by
  intro b hb
  rw [h.hfp] at hb
  rcases List.mem_cons.1 hb with rfl | hb
  · exact (Array.getElem?_eq_some_iff.1 h.hx).1
  · have : v.ownBlock = some b := by simpa using hb
    exact (h.hv.lt b this).2
theorem RefAt.lt (h : RefAt w x R fp) : ∀ b ∈ fp, b < w.heap.size := by obtain ⟨v, h⟩ := h; exact h.lt
theorem RefAt.keep (h : RefAt w x R fp) {F : Nat → Prop} (hx : Ext F w w') (hF : ∀ b ∈ fp, ¬ F b) : RefAt w' x R fp := by
  have hl := h.lt
  obtain ⟨v, h⟩ := h
  exact ⟨v, h.keep fun b hb => hx.block b (hl b hb) (hF b hb)⟩
theorem RAfter.of (h : RefAt w' x R fp) (hx : Ext (· ∈ fp) w w') : RAfter w x fp R w' := ⟨fp, h, hx, fun _ hb => Or.inl hb⟩
theorem RAfter.trans {w1 w2 : World} {R2 : Rf} {fp1 : List Nat} (hx : Ext (· ∈ fp) w w1) (hs : ∀ b ∈ fp1, b ∈ fp ∨ w.heap.size ≤ b) (h2 : RAfter w1 x fp1 R2 w2) : RAfter w x fp R2 w2 := by
  obtain ⟨fp2, hd2, hx2, hs2⟩ := h2
  refine ⟨fp2, hd2, hx.trans' hx2 hs, fun b hb => ?_⟩
  rcases hs2 b hb with h | h
  · exact hs b h
  · right; have := hx.size; omega
theorem RLay.cell (h : RLay w x v R fp) : w.cell? ⟨x, 0, none⟩ = some (.int .i64 (R.room : Int)) ∧ w.cell? ⟨x, 1, none⟩ = some v ∧ w.cell? ⟨x, 2, none⟩ = some (.int .i64 R.app) ∧ w.cell? ⟨x, 3, none⟩ = some (.int .i64 R.syn) := by
  have hx := h.hx
  refine ⟨?_, ?_, ?_, ?_⟩ <;> simp [World.cell?, hx]
theorem RLay.free (h : RLay w x v R fp) : w.frozen? ⟨x, 1, none⟩ = false ∧ w.frozen? ⟨x, 2, none⟩ = false ∧ w.frozen? ⟨x, 3, none⟩ = false := by
  have hx := h.hx
  refine ⟨?_, ?_, ?_⟩ <;> simp [World.frozen?, hx]
/-- The slice's shape, and the cells of its elements. -/
theorem RLay.shape (h : RLay w x v R fp) : ∃ a cap, v = .slice a R.L.length cap ∧ R.L.length ≤ cap ∧ cap ≤ maxLen ∧ (R.L.length = 0 ∨ ∃ g, a = some ⟨g, 0, none⟩ ∧ g ≠ x ∧ g ∈ fp ∧ ∀ i (hi : i < R.L.length),
    w.cell? ⟨g, i * 4, none⟩ = some (.string ⟨R.L[i].name.toArray⟩) ∧ w.cell? ⟨g, i * 4 + 1, none⟩ = some (.string R.L[i].bytes) ∧ w.cell? ⟨g, i * 4 + 2, none⟩ = some (.int .i64 (R.L[i].synced : Int)) ∧ w.cell? ⟨g, i * 4 + 3, none⟩ = some (.bool R.L[i].fresh)) := by
  have hne := h.hne
  have hfp := h.hfp
  have hr := h.hv
  rcases h.hv.2 with ⟨rfl, he⟩ | ⟨g, cap, cur, rfl, _, hg, h1, h2, _⟩
  · exact ⟨none, 0, by rw [he], by omega, by unfold maxLen; omega, Or.inl he⟩
  · refine ⟨some ⟨g, 0, none⟩, cap, rfl, h1, h2, Or.inr ⟨g, rfl, fun e => hne (by rw [e]; rfl), by rw [hfp]; simp [Value.ownBlock], fun i hi => ?_⟩⟩
    have hc : ∀ j, j < 4 → ∀ u, (flatF R.L[i])[j]? = some u → w.cell? ⟨g, i * 4 + j, none⟩ = some u := fun j hj u hu => by
      have := hr.cells (g := g) rfl (i * 4 + j) u (by rw [flat_at _ hi hj]; exact hu)
      rw [add_zero_mk] at this
      exact this
    exact ⟨hc 0 (by omega) _ rfl, hc 1 (by omega) _ rfl, hc 2 (by omega) _ rfl, hc 3 (by omega) _ rfl⟩
end
end Go.Proofs.Ytbopfdbenjnipaa
