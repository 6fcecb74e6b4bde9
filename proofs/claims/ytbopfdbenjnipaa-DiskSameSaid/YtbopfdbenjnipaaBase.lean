/- How a disk lies in memory, and that it stays while other blocks turn. -/
import Derived.Test.YtbopfdbenjnipaaProg
import Derived.Test.YtbopfdbenjnipaaPlain
import Derived.Maps.OwnSet
import Derived.Maps.Ext
import Derived.WalkKit
import Derived.WalkSpells
import Derived.WalkLawsBesides
import Derived.Lib.Hide
import Derived.OneCell
import Derived.Sort.KeysCollected
namespace Go.Proofs.Ytbopfdbenjnipaa
open Go.RowKit Go.Maps
theorem law9 : Keyed Try.prog 9 := string_keyed Try.underlying9
theorem zero63 (w : World) : (zeroValue 63).run Try.prog w = .ok (.pointer none) w := by kernel_rfl
/-- How a file's pointer reads: by its block. -/
def ptrElem (v : Value) : Option (DataW Nat × List MemPlace) :=
  match v with
  | .pointer none => some (.nil, [])
  | .pointer (some ⟨b, 0, none⟩) => some (.held b, [])
  | _ => none
theorem ptrElem_held {v : Value} {b : Nat} {ps : List MemPlace} (h : ptrElem v = some (.held b, ps)) : v = .pointer (some ⟨b, 0, none⟩) := by
  unfold ptrElem at h
  split at h <;> simp at h
  rw [h.1]
theorem ptrElem_nil {v : Value} {ps : List MemPlace} (h : ptrElem v = some (.nil, ps)) : v = .pointer none := by
  unfold ptrElem at h
  split at h <;> simp at h
  rfl
/-! ### the world but for some blocks -/
/-- w' is w but for the blocks of F and new ones. -/
structure Ext (F : Nat → Prop) (w w' : World) : Prop where
  os : w'.os = w.os
  tape : w'.tape = w.tape
  output : w'.output = w.output
  size : w.heap.size ≤ w'.heap.size
  block : ∀ k, k < w.heap.size → ¬ F k → w'.heap[k]? = w.heap[k]?
theorem Ext.refl (F : Nat → Prop) (w : World) : Ext F w w := ⟨rfl, rfl, rfl, Nat.le_refl _, fun _ _ _ => rfl⟩
theorem Ext.trans {F : Nat → Prop} {a b c : World} (h : Ext F a b) (k : Ext F b c) : Ext F a c :=
  ⟨k.os.trans h.os, k.tape.trans h.tape, k.output.trans h.output, Nat.le_trans h.size k.size, fun i hi hn => (k.block i (Nat.lt_of_lt_of_le hi h.size) hn).trans (h.block i hi hn)⟩
theorem Ext.mono {F G : Nat → Prop} {w w' : World} (h : Ext F w w') (hF : ∀ k, F k → G k) : Ext G w w' := ⟨h.os, h.tape, h.output, h.size, fun k hk hn => h.block k hk (fun hf => hn (hF k hf))⟩
/-- Two steps, the second one with its own blocks: each of them is one of the first's, or new. -/
theorem Ext.trans' {F G : Nat → Prop} {a b c : World} (h : Ext F a b) (k : Ext G b c) (hG : ∀ i, G i → F i ∨ a.heap.size ≤ i) : Ext F a c :=
  ⟨k.os.trans h.os, k.tape.trans h.tape, k.output.trans h.output, Nat.le_trans h.size k.size, fun i hi hn => (k.block i (Nat.lt_of_lt_of_le hi h.size) (fun hg => by rcases hG i hg with hf | hf; exact hn hf; omega)).trans (h.block i hi hn)⟩
theorem Ext.setCell (w : World) (a : Addr) (v : Value) : Ext (· = a.block) w (w.setCell a v) := ⟨rfl, rfl, rfl, by simp [World.setCell], fun k _ hn => Below.heap_setCell _ _ _ _ hn⟩
theorem Ext.alloc (F : Nat → Prop) (w : World) (o : Obj) : Ext F w (w.alloc o) := ⟨rfl, rfl, rfl, by simp, fun k hk _ => Below.heap_alloc _ _ _ hk⟩
theorem Ext.drew (F : Nat → Prop) (w : World) : Ext F w w.drew := ⟨rfl, rfl, rfl, Nat.le_refl _, fun _ _ _ => rfl⟩
theorem Ext.of_below {B : Nat} {w w' : World} (h : Below B w w') (hB : w.heap.size ≤ B) (F : Nat → Prop) : Ext F w w' := ⟨h.os, h.tape, h.output, h.size, fun k hk _ => h.block k (by omega)⟩
theorem Ext.of_grown {w w' : World} {b : Nat} (h : w.grownBy w' (some b)) : Ext (· = b) w w' := ⟨h.os, h.tape, h.output, h.size, fun k hk hn => h.block k hk (fun e => hn (by injection e))⟩
theorem Ext.of_grown0 {w w' : World} (h : w.grownBy w' none) (F : Nat → Prop) : Ext F w w' := ⟨h.os, h.tape, h.output, h.size, fun k hk hn => h.block k hk (fun e => by cases e)⟩
theorem Ext.below {F : Nat → Prop} {w w' : World} {B : Nat} (h : Ext F w w') (hF : ∀ k, F k → B ≤ k) (hB : B ≤ w.heap.size) : Below B w w' := ⟨h.os, h.tape, h.output, h.size, fun k hk => h.block k (by omega) (fun hf => by have := hF k hf; omega)⟩
theorem heap_set_same {w : World} {b o : Nat} {c : Array Value} {e : TypeId} {fz : Nat × Nat} {v : Value} (h : w.heap[b]? = some (.cells c e fz)) : (w.setCell ⟨b, o, none⟩ v).heap[b]? = some (.cells (c.setIfInBounds o v) e fz) := by
  simp [World.setCell, Array.getElem?_modify, h]
theorem heap_set_other {w : World} {b o k : Nat} {v : Value} (h : k ≠ b) : (w.setCell ⟨b, o, none⟩ v).heap[k]? = w.heap[k]? := Below.heap_setCell _ _ _ _ h
theorem heap_new (w : World) (o : Obj) : (w.alloc o).heap[w.heap.size]? = some o := heap_alloc_new w o
/-! ### the disk -/
/-- A function value that fails its n-th call, or never. -/
def FnAt (w : World) (v : Value) : Option Int → List Nat → Prop
  | none, cs => v = .func (.func 29) #[] #[] ∧ cs = []
  | some c, cs => ∃ b, v = .func (.func 46) #[] #[.pointer (some ⟨b, 0, none⟩)] ∧ cs = [b] ∧ w.heap[b]? = some (.cells #[.int .i64 c] 3 (0, 0))
def FlAt (w : World) (f : Fl) (b : Nat) : Prop := w.heap[b]? = some (.cells #[.string f.bytes, .int .i64 f.synced, .bool f.fresh] 65 (0, 0))
def dataOf (es : List (Fl × Nat)) : DataW Nat := .map (es.map fun p => (.string p.1.name, .held p.2))
/-- A disk in memory: d its block, m its map's, es its files with their blocks, vA and vS what is to fail, with their blocks. -/
structure Lay (w : World) (d m : Nat) (es : List (Fl × Nat)) (vA vS : Value) (cA cS : List Nat) (S : Dk) (fp : List Nat) : Prop where
  hd : w.heap[d]? = some (.cells #[.int .i64 (S.room : Int), .int .i64 S.left, .map (some m), vA, vS] 61 (0, 0))
  hm : w.ownsMap Try.prog 9 ptrElem m es.length (dataOf es)
  files : S.files = es.map (·.1)
  fls : ∀ p ∈ es, FlAt w p.1 p.2
  fnA : FnAt w vA S.app cA
  fnS : FnAt w vS S.syn cS
  hfp : fp = d :: m :: (cA ++ cS ++ es.map (·.2))
  nd : fp.Nodup
def DiskAt (w : World) (d : Nat) (S : Dk) (fp : List Nat) : Prop := ∃ m es vA vS cA cS, Lay w d m es vA vS cA cS S fp
/-- What a call leaves: the disk, now S'; no other block has turned. -/
def After (w : World) (d : Nat) (fp : List Nat) (S' : Dk) (w' : World) : Prop := ∃ fp', DiskAt w' d S' fp' ∧ Ext (· ∈ fp) w w' ∧ ∀ b ∈ fp', b ∈ fp ∨ w.heap.size ≤ b
theorem FnAt.keep {w w' : World} {v : Value} {c : Option Int} {cs : List Nat} (h : FnAt w v c cs) (hk : ∀ b ∈ cs, w'.heap[b]? = w.heap[b]?) : FnAt w' v c cs := by
  cases c with
  | none => exact h
  | some c =>
    obtain ⟨b, h1, rfl, h3⟩ := h
    exact ⟨b, h1, rfl, (hk b (by simp)).trans h3⟩
theorem ownsMap_keep {w w' : World} {m n : Nat} {D : DataW Nat} (h : w.ownsMap Try.prog 9 ptrElem m n D) (hk : w'.heap[m]? = w.heap[m]?) : w'.ownsMap Try.prog 9 ptrElem m n D := by
  obtain ⟨es, clock, hb, r⟩ := h
  exact ⟨es, clock, hk.trans hb, r⟩
theorem ownsMap_tight {w : World} {m n : Nat} {D : DataW Nat} (h : w.ownsMap Try.prog 9 ptrElem m n D) : w.ownsMap Try.prog 9 ptrElem m (Maps.size D) D := by
  obtain ⟨es, clock, hb, F, _, rfl⟩ := h
  exact ⟨es, clock, hb, F, by rw [size_eq, length_read]; exact Nat.le_refl _, rfl⟩
theorem size_dataOf (es : List (Fl × Nat)) : Maps.size (dataOf es) = es.length := by simp [dataOf, size_eq]
theorem Lay.keep {w w' : World} {d m : Nat} {es : List (Fl × Nat)} {vA vS : Value} {cA cS : List Nat} {S : Dk} {fp : List Nat} (h : Lay w d m es vA vS cA cS S fp) (hk : ∀ b ∈ fp, w'.heap[b]? = w.heap[b]?) : Lay w' d m es vA vS cA cS S fp := by
  have e := h.hfp
  have k : ∀ b, b = d ∨ b = m ∨ b ∈ cA ∨ b ∈ cS ∨ b ∈ es.map (·.2) → w'.heap[b]? = w.heap[b]? := fun b hb => hk b (by rw [e]; simp only [List.mem_cons, List.mem_append]; rcases hb with h | h | h | h | h <;> simp only [h, true_or, or_true])
  exact { hd := (k d (by simp)).trans h.hd, hm := ownsMap_keep h.hm (k m (by simp)), files := h.files, fls := fun p hp => (k p.2 (Or.inr (Or.inr (Or.inr (Or.inr (List.mem_map_of_mem hp)))))).trans (h.fls p hp),
          fnA := h.fnA.keep (fun b hb => k b (Or.inr (Or.inr (Or.inl hb)))), fnS := h.fnS.keep (fun b hb => k b (Or.inr (Or.inr (Or.inr (Or.inl hb))))), hfp := h.hfp, nd := h.nd }
theorem Lay.lt {w : World} {d m : Nat} {es : List (Fl × Nat)} {vA vS : Value} {cA cS : List Nat} {S : Dk} {fp : List Nat} (h : Lay w d m es vA vS cA cS S fp) : ∀ b ∈ fp, b < w.heap.size := by
  intro b hb
  rw [h.hfp] at hb
  have lt : ∀ {b : Nat} {o : Obj}, w.heap[b]? = some o → b < w.heap.size := fun h => (Array.getElem?_eq_some_iff.1 h).1
  have fl : ∀ {v : Value} {c : Option Int} {cs : List Nat}, FnAt w v c cs → b ∈ cs → b < w.heap.size := by
    intro v c cs h hb
    cases c with
    | none => rw [h.2] at hb; simp at hb
    | some c => obtain ⟨b', _, rfl, h3⟩ := h; obtain rfl : b = b' := by simpa using hb
                exact lt h3
  simp only [List.mem_cons, List.mem_append] at hb
  rcases hb with rfl | rfl | (hb | hb) | hb
  · exact lt h.hd
  · exact h.hm.lt
  · exact fl h.fnA hb
  · exact fl h.fnS hb
  · obtain ⟨p, hp, rfl⟩ := List.mem_map.1 hb; exact lt (h.fls p hp)
theorem DiskAt.lt {w : World} {d : Nat} {S : Dk} {fp : List Nat} (h : DiskAt w d S fp) : ∀ b ∈ fp, b < w.heap.size := by
  obtain ⟨m, es, vA, vS, cA, cS, h⟩ := h; exact h.lt
/-- A disk stays while other blocks turn. -/
theorem DiskAt.keep {w w' : World} {d : Nat} {S : Dk} {fp : List Nat} (h : DiskAt w d S fp) {F : Nat → Prop} (hx : Ext F w w') (hF : ∀ b ∈ fp, ¬ F b) : DiskAt w' d S fp := by
  have hl := h.lt
  obtain ⟨m, es, vA, vS, cA, cS, h⟩ := h
  exact ⟨m, es, vA, vS, cA, cS, h.keep fun b hb => hx.block b (hl b hb) (hF b hb)⟩
theorem After.of {w w' : World} {d : Nat} {fp : List Nat} {S' : Dk} (h : DiskAt w' d S' fp) (hx : Ext (· ∈ fp) w w') : After w d fp S' w' := ⟨fp, h, hx, fun _ hb => Or.inl hb⟩
/-- The blocks' distinctness, spelled out. -/
theorem Lay.ne {w : World} {d m : Nat} {es : List (Fl × Nat)} {vA vS : Value} {cA cS : List Nat} {S : Dk} {fp : List Nat} (h : Lay w d m es vA vS cA cS S fp) :
    d ≠ m ∧ (∀ b ∈ cA, b ≠ d ∧ b ≠ m) ∧ (∀ b ∈ cS, b ≠ d ∧ b ≠ m) ∧ (∀ p ∈ es, p.2 ≠ d ∧ p.2 ≠ m) ∧ (∀ a ∈ cA, ∀ b ∈ cS, a ≠ b) ∧ (∀ a ∈ cA, ∀ p ∈ es, a ≠ p.2) ∧ (∀ a ∈ cS, ∀ p ∈ es, a ≠ p.2) ∧ (es.map (·.2)).Nodup := by
  have hn := h.nd
  rw [h.hfp] at hn
  simp only [List.nodup_cons, List.nodup_append, List.mem_cons, List.mem_append, List.mem_map, not_or, not_exists, not_and] at hn
  obtain ⟨⟨h1, ⟨h2, h3⟩, h4⟩, ⟨⟨h5, h6⟩, h7⟩, ⟨h8, h9, h10⟩, h11, h12⟩ := hn
  refine ⟨h1, fun b hb => ⟨fun e => h2 (e ▸ hb), fun e => h5 (e ▸ hb)⟩, fun b hb => ⟨fun e => h3 (e ▸ hb), fun e => h6 (e ▸ hb)⟩, fun p hp => ⟨h4 p hp, h7 p hp⟩, h10, fun a ha p hp => h12 a (Or.inl ha) p.2 ⟨p, hp, rfl⟩, fun a ha p hp => h12 a (Or.inr ha) p.2 ⟨p, hp, rfl⟩, h11⟩
/-! ### the map's datum -/
theorem atKey_dataOf_none {es : List (Fl × Nat)} {s : List UInt8} (h : findF (es.map (·.1)) s = none) : (dataOf es).atKey (.string s) .nil = .nil := by
  have h := findF_none.1 h
  simp only [List.mem_map, forall_exists_index, and_imp] at h
  have e : (es.map fun p => ((Lit.string p.1.name, DataW.held p.2) : Lit × DataW Nat)).find? (fun p => p.1.sameKey (.string s)) = none := by
    simp only [List.find?_eq_none, List.mem_map, forall_exists_index, and_imp]
    rintro _ p hp rfl
    simpa [Lit.sameKey] using h _ p hp rfl
  simp only [dataOf, DataW.atKey, e]
theorem atKey_dataOf_some : ∀ {es : List (Fl × Nat)} {s : List UInt8} {f : Fl}, findF (es.map (·.1)) s = some f → ∃ b, (f, b) ∈ es ∧ (dataOf es).atKey (.string s) .nil = .held b
  | [], _, _, h => by simp [findF] at h
  | p :: r, s, f, h => by
    by_cases e : p.1.name = s
    · have : p.1 = f := by simpa [findF, e] using h
      subst this
      exact ⟨p.2, by simp, by simp [dataOf, DataW.atKey, Lit.sameKey, e]⟩
    · have h' : findF (r.map (·.1)) s = some f := by simpa [findF, e] using h
      obtain ⟨b, hb, ha⟩ := atKey_dataOf_some h'
      refine ⟨b, List.mem_cons_of_mem _ hb, ?_⟩
      rw [← ha]
      simp [dataOf, DataW.atKey, Lit.sameKey, e]
theorem bytesBefore_lt : ∀ (x y : List UInt8), bytesBefore x y = decide (x < y)
  | [], [] => by simp [bytesBefore]
  | _ :: _, [] => by simp [bytesBefore]
  | [], _ :: _ => by simp [bytesBefore]
  | a :: x, b :: y => by
    rw [bytesBefore, bytesBefore_lt x y, Bool.eq_iff_iff]
    simp [List.cons_lt_cons_iff]
def insE (x : Fl × Nat) : List (Fl × Nat) → List (Fl × Nat)
  | [] => [x]
  | y :: r => if y.1.name < x.1.name then y :: insE x r else x :: y :: r
theorem map_insE (x : Fl × Nat) (l : List (Fl × Nat)) : (insE x l).map (·.1) = insF x.1 (l.map (·.1)) := by
  induction l with
  | nil => rfl
  | cons y r ih => simp only [insE, insF, List.map_cons]; split <;> simp [ih]
theorem mem_insE {x y : Fl × Nat} {l : List (Fl × Nat)} : y ∈ insE x l ↔ y = x ∨ y ∈ l := by
  induction l with
  | nil => simp [insE]
  | cons z r ih =>
    unfold insE
    split
    · simp only [List.mem_cons, ih]
      constructor
      · rintro (h | h | h) <;> simp [h]
      · rintro (h | h | h) <;> simp [h]
    · simp
theorem perm_insE (x : Fl × Nat) (l : List (Fl × Nat)) : (insE x l).Perm (x :: l) := by
  induction l with
  | nil => exact List.Perm.refl _
  | cons y r ih =>
    unfold insE
    split
    · exact (List.Perm.cons y ih).trans (List.Perm.swap x y r)
    · exact List.Perm.refl _
theorem put_dataOf {es : List (Fl × Nat)} {f : Fl} {b : Nat} (h0 : findF (es.map (·.1)) f.name = none) : (dataOf es).put (.string f.name) (.held b) = dataOf (insE (f, b) es) := by
  have h := findF_none.1 h0
  clear h0
  simp only [List.mem_map, forall_exists_index, and_imp] at h
  have e : (es.map fun p => ((Lit.string p.1.name, DataW.held p.2) : Lit × DataW Nat)).filter (fun p => !p.1.sameKey (.string f.name)) = es.map fun p => (Lit.string p.1.name, DataW.held p.2) := by
    rw [List.filter_eq_self]
    simp only [List.mem_map, forall_exists_index, and_imp]
    rintro _ p hp rfl
    simpa [Lit.sameKey] using h _ p hp rfl
  simp only [dataOf, DataW.put, e]
  congr 1
  clear e
  induction es with
  | nil => rfl
  | cons y r ih =>
    have ih := ih (fun a p hp => h a p (List.mem_cons_of_mem _ hp))
    have hy := h _ y (List.mem_cons_self ..) rfl
    simp only [List.map_cons, DataW.insert, insE, Lit.before, bytesBefore_lt]
    by_cases hlt : y.1.name < f.name
    · rw [if_pos hlt, if_neg (by simpa using List.le_of_lt hlt), ih]; rfl
    · have : f.name < y.1.name := by
        rcases List.le_iff_lt_or_eq.1 (List.not_lt.1 hlt) with h | h
        · exact h
        · exact absurd h.symm hy
      rw [if_neg hlt, if_pos (by simpa using this)]; rfl
theorem del_dataOf (es : List (Fl × Nat)) (s : List UInt8) : (dataOf es).del (.string s) = dataOf (es.filter fun p => !(p.1.name == s)) := by
  simp only [dataOf, DataW.del, List.filter_map]
  rfl
theorem map_filter_es (es : List (Fl × Nat)) (s : List UInt8) : (es.filter fun p => !(p.1.name == s)).map (·.1) = delF (es.map (·.1)) s := by
  simp only [delF, List.filter_map]; rfl
theorem strKeys_dataOf (es : List (Fl × Nat)) : strKeys (dataOf es) = (es.map (·.1)).map (·.name) := by
  simp [strKeys, dataOf, strOf]
end Go.Proofs.Ytbopfdbenjnipaa
