/- DiskKeeps (3) returns true. -/
import Derived.Test.YtbopfdbenjnipaaAlive
import Derived.Test.YtbopfdbenjnipaaArgs
import Derived.Laws.Bits128
namespace Go.Proofs.Ytbopfdbenjnipaa
set_option maxRecDepth 100000
open Go.RowKit Go.Maps Go.Sort
theorem i64_and1 (n : Int) : bits .and .i64 n 1 = n % 2 := by
  have h1 : (BitVec.ofInt 64 1).toNat = 2 ^ 1 - 1 := by decide
  have key : (BitVec.ofInt 64 n &&& BitVec.ofInt 64 1).toNat = (n % ((2 ^ 64 : Nat) : Int)).toNat % 2 ^ 1 := by
    rw [BitVec.toNat_and, BitVec.toNat_ofInt, h1, Nat.and_two_pow_sub_one_eq_mod]
  show IntKind.i64.wrap ((BitVec.ofInt 64 n &&& BitVec.ofInt 64 1).toNat : Nat) = n % 2
  rw [key, IntKind.wrap_i64]
  omega
/-! ### plain: what a crash leaves of a file -/
theorem crash_find : ∀ (fs : List Fl) (ks : List Int) (f : Fl), f ∈ fs → (fs.Pairwise fun a b => a.name < b.name) → f.synced ≤ f.bytes.size →
    (findF (crashF fs ks) f.name = none ∧ f.fresh = true) ∨ ∃ g, findF (crashF fs ks) f.name = some g ∧ g.synced = g.bytes.size ∧ f.synced ≤ g.bytes.size ∧ g.bytes.size ≤ f.bytes.size ∧ g.bytes = f.bytes.extract 0 g.bytes.size
  | [], _, _, h, _, _ => by simp at h
  | x :: r, ks, f, hf, hr, hs => by
    have hr' := List.Pairwise.of_cons hr
    have skip : ∀ y : Fl, y.name = x.name → ∀ l : List Fl, f ∈ r → findF (y :: l) f.name = findF l f.name := fun y hy l hm => by
      have := List.rel_of_pairwise_cons hr hm
      have hne : y.name ≠ f.name := fun e => by rw [hy] at e; rw [e] at this; exact absurd this (List.lt_irrefl _)
      simp [findF, hne]
    by_cases hc : x.fresh = false ∧ x.synced = x.bytes.size
    · rw [crashF_keep _ _ hc]
      rcases List.mem_cons.1 hf with rfl | hm
      · right
        refine ⟨f, by simp [findF], hc.2, hs, Nat.le_refl _, ?_⟩
        exact ByteArray.extract_zero_size.symm
      · rw [skip x rfl _ hm]
        exact crash_find r ks f hm hr' hs
    · by_cases hg : x.fresh = true ∧ ks.headD (-1) < 0
      · rw [crashF_gone _ _ hc hg]
        rcases List.mem_cons.1 hf with rfl | hm
        · left
          refine ⟨?_, hg.1⟩
          rw [findF_none]
          intro g hg' e
          have : g.name ∈ r.map (·.name) := (crashF_names r ks.tail).subset (List.mem_map_of_mem hg')
          obtain ⟨y, hy, ey⟩ := List.mem_map.1 this
          have hlt := List.rel_of_pairwise_cons hr hy
          rw [ey, e] at hlt
          exact absurd hlt (List.lt_irrefl _)
        · exact crash_find r ks.tail f hm hr' hs
      · rw [crashF_cut _ _ hc hg]
        rcases List.mem_cons.1 hf with rfl | hm
        · right
          have hsz : (cutTo f (ks.headD (-1))).bytes.size = f.synced + (min (max (ks.headD (-1)) 0) ((f.bytes.size : Int) - f.synced)).toNat := by
            simp only [cutTo, size_cut]; omega
          refine ⟨cutTo f (ks.headD (-1)), by simp [findF, cutTo], ?_, ?_, ?_, ?_⟩
          · rw [hsz]; rfl
          · rw [hsz]; omega
          · rw [hsz]; omega
          · rw [hsz]; rfl
        · rw [skip (cutTo x (ks.headD (-1))) rfl _ hm]
          exact crash_find r ks.tail f hm hr' hs
/-- The disk of the statement: two files. -/
def kd (A0 A1 : ByteArray) (y0 y1 : Nat) (o0 o1 : Bool) : Dk := ⟨1048576, [⟨[97], A0, y0, !o0⟩, ⟨[98], A1, y1, !o1⟩], none, none⟩
theorem kd_ok {A0 A1 : ByteArray} {y0 y1 : Nat} (o0 o1 : Bool) (h : A0.size + A1.size ≤ 1048576) (h0 : y0 ≤ A0.size) (h1 : y1 ≤ A1.size) : (kd A0 A1 y0 y1 o0 o1).Ok 0 := by
  refine { room0 := by simp [kd], room1 := by simp [kd], rising := ?_, names := ?_, few := by simp [kd], fits := ?_, synced := ?_, app := ctrOk_none _, syn := ctrOk_none _ }
  · simp [kd]; decide
  · simp [kd]
  · simp [kd, total]; omega
  · simp [kd]; omega
theorem kd_left (A0 A1 : ByteArray) (y0 y1 : Nat) (o0 o1 : Bool) : (kd A0 A1 y0 y1 o0 o1).left = 1048576 - ((A0.size : Int) + A1.size) := by
  simp [kd, Dk.left, total]
theorem kd_append0 {A0 A1 : ByteArray} {y0 y1 : Nat} {o0 o1 : Bool} (t : ByteArray) (h : A0.size + A1.size + t.size ≤ 1048576) : (kd A0 A1 y0 y1 o0 o1).append [97] t = (kd (A0 ++ t) A1 y0 y1 o0 o1, 0) := by
  have hl := kd_left A0 A1 y0 y1 o0 o1
  have hf : findF (kd A0 A1 y0 y1 o0 o1).files [97] = some ⟨[97], A0, y0, !o0⟩ := by simp [kd, findF]
  unfold Dk.append
  rw [hf]
  simp only
  rw [if_neg (by simp [kd, failsNow]), if_neg (by rw [hl]; omega)]
  simp [kd, updF, tick]
theorem kd_append1 {A0 A1 : ByteArray} {y0 y1 : Nat} {o0 o1 : Bool} (t : ByteArray) (h : A0.size + A1.size + t.size ≤ 1048576) : (kd A0 A1 y0 y1 o0 o1).append [98] t = (kd A0 (A1 ++ t) y0 y1 o0 o1, 0) := by
  have hl := kd_left A0 A1 y0 y1 o0 o1
  have hf : findF (kd A0 A1 y0 y1 o0 o1).files [98] = some ⟨[98], A1, y1, !o1⟩ := by simp [kd, findF]
  unfold Dk.append
  rw [hf]
  simp only
  rw [if_neg (by simp [kd, failsNow]), if_neg (by rw [hl]; omega)]
  simp [kd, updF, tick]
theorem kd_sync0 (A0 A1 : ByteArray) (y0 y1 : Nat) (o0 o1 : Bool) : (kd A0 A1 y0 y1 o0 o1).sync [97] = (kd A0 A1 A0.size y1 true o1, 0) := by
  simp [kd, Dk.sync, findF, failsNow, updF, tick]
theorem kd_sync1 (A0 A1 : ByteArray) (y0 y1 : Nat) (o0 o1 : Bool) : (kd A0 A1 y0 y1 o0 o1).sync [98] = (kd A0 A1 y0 A1.size o0 true, 0) := by
  simp [kd, Dk.sync, findF, failsNow, updF, tick]
theorem kd_start : ((((Dk.new 1048576).create [97]).1).create [98]).1 = kd ByteArray.empty ByteArray.empty 0 0 false false := by kernel_rfl
/-! ### the statement's memory: the disk, and three rows of its own -/
/-- The disk is S; its blocks are none of the three; the three rows hold what they hold; nothing older than the call has turned. -/
structure KInv (w0 w : World) (d qa qs qo : Nat) (S : Dk) (A0 A1 Y0 Y1 : ByteArray) (o0 o1 : Bool) : Prop where
  disk : ∃ fp, DiskAt w d S fp ∧ (∀ b ∈ fp, w0.heap.size ≤ b) ∧ qa ∉ fp ∧ qs ∉ fp ∧ qo ∉ fp
  ext : Ext (fun _ => False) w0 w
  ha : w.heap[qa]? = some (.cells #[.string A0, .string A1] 31 (0, 0))
  hs : w.heap[qs]? = some (.cells #[.string Y0, .string Y1] 31 (0, 0))
  ho : w.heap[qo]? = some (.cells #[.bool o0, .bool o1] 32 (0, 0))
  la : w0.heap.size ≤ qa
  ls : w0.heap.size ≤ qs
  lo : w0.heap.size ≤ qo
  nas : qa ≠ qs
  nao : qa ≠ qo
  nso : qs ≠ qo
section
variable {w0 w : World} {d qa qs qo : Nat} {S : Dk} {A0 A1 Y0 Y1 : ByteArray} {o0 o1 : Bool}
theorem lt_of_heap {w : World} {b : Nat} {o : Obj} (h : w.heap[b]? = some o) : b < w.heap.size := (Array.getElem?_eq_some_iff.1 h).1
theorem KInv.alloc (h : KInv w0 w d qa qs qo S A0 A1 Y0 Y1 o0 o1) (o : Obj) : KInv w0 (w.alloc o) d qa qs qo S A0 A1 Y0 Y1 o0 o1 := by
  obtain ⟨fp, hd, hr⟩ := h.disk
  exact { h with disk := ⟨fp, hd.keep (Ext.alloc (fun _ => False) w o) (fun _ _ => id), hr⟩, ext := h.ext.trans (Ext.alloc _ _ _), ha := (Below.heap_alloc _ _ _ (lt_of_heap h.ha)).trans h.ha, hs := (Below.heap_alloc _ _ _ (lt_of_heap h.hs)).trans h.hs, ho := (Below.heap_alloc _ _ _ (lt_of_heap h.ho)).trans h.ho }
theorem KInv.quiet (h : KInv w0 w d qa qs qo S A0 A1 Y0 Y1 o0 o1) {w' : World} (hx : Ext (fun _ => False) w w') : KInv w0 w' d qa qs qo S A0 A1 Y0 Y1 o0 o1 := by
  obtain ⟨fp, hd, hr⟩ := h.disk
  exact { h with disk := ⟨fp, hd.keep hx (fun _ _ => id), hr⟩, ext := h.ext.trans hx, ha := (hx.block _ (lt_of_heap h.ha) (fun h => h)).trans h.ha, hs := (hx.block _ (lt_of_heap h.hs) (fun h => h)).trans h.hs, ho := (hx.block _ (lt_of_heap h.ho) (fun h => h)).trans h.ho }
theorem KInv.call {fp : List Nat} {S' : Dk} (h : KInv w0 w d qa qs qo S A0 A1 Y0 Y1 o0 o1) (hf : ∀ b ∈ fp, w0.heap.size ≤ b) (ha : qa ∉ fp) (hs : qs ∉ fp) (ho : qo ∉ fp) {w' : World} (hA : After w d fp S' w') : KInv w0 w' d qa qs qo S' A0 A1 Y0 Y1 o0 o1 := by
  obtain ⟨fp', hd', hx, hs'⟩ := hA
  have hsz := h.ext.size
  refine { h with disk := ⟨fp', hd', fun b hb => ?_, fun hm => ?_, fun hm => ?_, fun hm => ?_⟩, ext := h.ext.trans' hx (fun b hb => Or.inr (hf b hb)), ha := (hx.block _ (lt_of_heap h.ha) ha).trans h.ha, hs := (hx.block _ (lt_of_heap h.hs) hs).trans h.hs, ho := (hx.block _ (lt_of_heap h.ho) ho).trans h.ho }
  · rcases hs' b hb with h | h
    · exact hf b h
    · omega
  · rcases hs' _ hm with h1 | h1
    · exact ha h1
    · have := lt_of_heap h.ha; omega
  · rcases hs' _ hm with h1 | h1
    · exact hs h1
    · have := lt_of_heap h.hs; omega
  · rcases hs' _ hm with h1 | h1
    · exact ho h1
    · have := lt_of_heap h.ho; omega
theorem KInv.set {q o : Nat} {v : Value} {A0' A1' Y0' Y1' : ByteArray} {o0' o1' : Bool} (h : KInv w0 w d qa qs qo S A0 A1 Y0 Y1 o0 o1) (hq : q = qa ∨ q = qs ∨ q = qo)
    (ha : (w.setCell ⟨q, o, none⟩ v).heap[qa]? = some (.cells #[.string A0', .string A1'] 31 (0, 0))) (hs : (w.setCell ⟨q, o, none⟩ v).heap[qs]? = some (.cells #[.string Y0', .string Y1'] 31 (0, 0))) (ho : (w.setCell ⟨q, o, none⟩ v).heap[qo]? = some (.cells #[.bool o0', .bool o1'] 32 (0, 0))) :
    KInv w0 (w.setCell ⟨q, o, none⟩ v) d qa qs qo S A0' A1' Y0' Y1' o0' o1' := by
  obtain ⟨fp, hd, hr, n1, n2, n3⟩ := h.disk
  have hx := Ext.setCell w ⟨q, o, none⟩ v
  refine { h with disk := ⟨fp, hd.keep hx (fun b hb e => ?_), hr, n1, n2, n3⟩, ext := h.ext.trans' hx (fun b hb => Or.inr ?_), ha := ha, hs := hs, ho := ho }
  · simp only at e; subst e; rcases hq with rfl | rfl | rfl
    · exact n1 hb
    · exact n2 hb
    · exact n3 hb
  · simp only at hb; subst hb; rcases hq with rfl | rfl | rfl
    · exact h.la
    · exact h.ls
    · exact h.lo
theorem KInv.steps (h : KInv w0 w d qa qs qo S A0 A1 Y0 Y1 o0 o1) {v : Value} {l : List Stp} (hst : StepsAt w0 w0.heap.size v l) : StepsAt w w0.heap.size v l := hst.later (Below.of_ext h.ext)
theorem KInv.append (h : KInv w0 w d qa qs qo S A0 A1 Y0 Y1 o0 o1) (hok : S.Ok 0) (s t : ByteArray) (hs : s.size ≤ maxLen) (ht : t.size ≤ 140737488351232) {S' : Dk} {r : Int} (hr : S.append s.data.toList t = (S', r)) :
    Calls Try.prog 12 #[.pointer (some ⟨d, 0, none⟩), .string s, .string t] w fun e w' => e = .returned (.int .i64 r) ∧ KInv w0 w' d qa qs qo S' A0 A1 Y0 Y1 o0 o1 := by
  obtain ⟨fp, hd, hf, n1, n2, n3⟩ := h.disk
  refine (append_any hd hok (by omega) s t hs ht).mono ?_
  rintro e w' ⟨rfl, hA⟩
  rw [hr] at hA ⊢
  exact ⟨rfl, h.call hf n1 n2 n3 hA⟩
theorem KInv.sync (h : KInv w0 w d qa qs qo S A0 A1 Y0 Y1 o0 o1) (hok : S.Ok 0) (s : ByteArray) (hs : s.size ≤ maxLen) {S' : Dk} {r : Int} (hr : S.sync s.data.toList = (S', r)) :
    Calls Try.prog 11 #[.pointer (some ⟨d, 0, none⟩), .string s] w fun e w' => e = .returned (.int .i64 r) ∧ KInv w0 w' d qa qs qo S' A0 A1 Y0 Y1 o0 o1 := by
  obtain ⟨fp, hd, hf, n1, n2, n3⟩ := h.disk
  refine (sync_any hd hok (by omega) s hs).mono ?_
  rintro e w' ⟨rfl, hA⟩
  rw [hr] at hA ⊢
  exact ⟨rfl, h.call hf n1 n2 n3 hA⟩
theorem KInv.crash (h : KInv w0 w d qa qs qo S A0 A1 Y0 Y1 o0 o1) (hok : S.Ok 0) {v : Value} {ks : List Int} (hk : KeepAt w0 v ks (fun b => b < w0.heap.size)) (hwf : ∀ i, i64ok (ks.getD i 0)) :
    Calls Try.prog 13 #[.pointer (some ⟨d, 0, none⟩), v] w fun e w' => e = .returned (.int .i64 0) ∧ KInv w0 w' d qa qs qo (S.crash ks) A0 A1 Y0 Y1 o0 o1 := by
  obtain ⟨fp, hd, hf, n1, n2, n3⟩ := h.disk
  have hk' := (hk.later (Below.of_ext h.ext)).mono' (R := fun b => b ∉ fp ∧ b < w.heap.size) (fun b hb => ⟨fun hm => by have := hf b hm; omega, by have := h.ext.size; omega⟩)
  refine (crash_any hd hok v ks hk' hwf).mono ?_
  rintro e w' ⟨rfl, hA⟩
  exact ⟨rfl, h.call hf n1 n2 n3 hA⟩
theorem KInv.read (h : KInv w0 w d qa qs qo S A0 A1 Y0 Y1 o0 o1) (s : ByteArray) (hs : s.size ≤ maxLen) {b : ByteArray} {r : Int} (hr : S.read s.data.toList = (b, r)) :
    Calls Try.prog 14 #[.pointer (some ⟨d, 0, none⟩), .string s] w fun e w' => e = .returned (.tuple #[.string b, .int .i64 r]) ∧ w = w' := by
  obtain ⟨fp, hd, _⟩ := h.disk
  have := read_any hd s hs
  rw [hr] at this
  exact this
theorem KInv.loose {K : Nat} (h : KInv w0 w d qa qs qo S A0 A1 Y0 Y1 o0 o1) (hok : S.Ok K) (s : ByteArray) (hs : s.size ≤ maxLen) {r : Int} (hr : S.loose s.data.toList = r) :
    Calls Try.prog 15 #[.pointer (some ⟨d, 0, none⟩), .string s] w fun e w' => e = .returned (.int .i64 r) ∧ KInv w0 w' d qa qs qo S A0 A1 Y0 Y1 o0 o1 := by
  obtain ⟨fp, hd, hf⟩ := h.disk
  refine (loose_any hd hok s hs).mono ?_
  rintro e w' ⟨rfl, hx⟩
  rw [hr]
  exact ⟨rfl, h.quiet hx⟩
end
end Go.Proofs.Ytbopfdbenjnipaa
