/- The scripts that came in: a slice of steps, opened to cells; heavy (7). -/
import Derived.Test.YtbopfdbenjnipaaOps6
import Derived.Deep.Slices
import Derived.Deep.Fields
import Derived.ChangeSame
import Derived.ProofKit
namespace Go.Proofs.Ytbopfdbenjnipaa
set_option maxRecDepth 100000
open Go.RowKit Go.Maps Go.Sort Go.ChangeShapes Go.WideShapes Go.Deep
/-- A step of a script: what it does, its texts, its numbers, the slice keep with its numbers. -/
structure Stp where
  act : Int
  name : ByteArray
  bytes : ByteArray
  n : Int
  m : Int
  keep : Value
  ks : List Int
instance : Inhabited Stp := ⟨⟨0, ByteArray.empty, ByteArray.empty, 0, 0, .slice none 0 0, []⟩⟩
def i64ok (x : Int) : Prop := -9223372036854775808 ≤ x ∧ x ≤ 9223372036854775807
/-- The cells of a step; B: all blocks that it leads to lie below B. -/
structure StpAt (w : World) (B : Nat) (b o : Nat) (s : Stp) : Prop where
  c0 : w.cell? ⟨b, o, none⟩ = some (.int .i64 s.act)
  c1 : w.cell? ⟨b, o + 1, none⟩ = some (.string s.name)
  c2 : w.cell? ⟨b, o + 2, none⟩ = some (.string s.bytes)
  c3 : w.cell? ⟨b, o + 3, none⟩ = some (.int .i64 s.n)
  c4 : w.cell? ⟨b, o + 4, none⟩ = some (.int .i64 s.m)
  c5 : w.cell? ⟨b, o + 5, none⟩ = some s.keep
  hn : s.name.size ≤ 140737488351232
  hb : s.bytes.size ≤ 140737488351232
  hkl : s.ks.length * 8 ≤ 140737488351232
  w3 : i64ok s.n
  w4 : i64ok s.m
  hk : KeepAt w s.keep s.ks (fun b => b < B)
  hkw : ∀ i, i64ok (s.ks.getD i 0)
  hk0 : ∀ l c, s.keep = .slice none l c → c = 0
def StepsAt (w : World) (B : Nat) (v : Value) (l : List Stp) : Prop :=
  ∃ a cap, v = .slice a l.length cap ∧ l.length ≤ 4611686018427387904 ∧ (l.length = 0 ∨ ∃ b o, a = some ⟨b, o, none⟩ ∧ b < B ∧ ∀ i, i < l.length → StpAt w B b (o + i * 6) (l.getD i default))
theorem keep_none' (w : World) : KeepAt w (.slice none 0 0) [] (fun b => b < w.heap.size) := ⟨none, 0, rfl, by simp, by unfold maxLen; omega, Or.inl rfl⟩
theorem add_mk (b o n : Nat) : (⟨b, o, none⟩ : Addr).add n = ⟨b, o + n, none⟩ := by
  unfold Addr.add
  split
  · rename_i h; rw [h]; simp
  · rfl
theorem add_spot {a : Addr} (h : a.spot = none) (n : Nat) : a.add n = ⟨a.block, a.off + n, none⟩ := by
  obtain ⟨b, o, s⟩ := a
  simp only at h
  subst h
  exact add_mk b o n
theorem spot_of_cell {w : World} {a : Addr} {v : Value} (h : w.cell? a = some v) : a.spot = none := by
  unfold World.cell? at h
  split at h
  · split at h
    · cases h
    · rename_i hs; simpa using hs
  · cases h
theorem i64_of_wf {n : Int} (h : (Lit.int .i64 n).wf = true) : i64ok n := by
  simp only [Lit.wf, Bool.and_eq_true, decide_eq_true_eq] at h
  exact ⟨h.1, h.2⟩
section
variable {H : Type} {enc : TypeId × Value → H} {w : World} {base : Nat} {spare : Nat → Bool} {held : Bool}
theorem mem_weightsAll {P : Program} {e : TypeId} {d : DataW H} {n : Nat} : ∀ {l : List (DataW H)}, d ∈ l → n ∈ d.weights P e → n ∈ DataW.weightsAll P e l
  | [], h, _ => by simp at h
  | x :: r, h, hn => by
    simp only [DataW.weightsAll, List.mem_append]
    rcases List.mem_cons.1 h with rfl | h
    · exact Or.inl hn
    · exact Or.inr (mem_weightsAll h hn)
theorem keep_of_trod {fuel : Nat} {v : Value} {x : DataW H × List MemPlace} (h : DataW.trod enc Try.prog w base spare held fuel 23 [v] = some x) (hw : ∀ n ∈ DataW.weights Try.prog 23 x.1, n ≤ reachBytes) : ∃ ks, KeepAt w v ks (fun b => b < w.heap.size) ∧ (∀ i, i64ok (ks.getD i 0)) ∧ ks.length * 8 ≤ 140737488351232 := by
  rcases open_ints Try.underlying23 Try.underlying3 (by kernel_rfl) h with ⟨hcs, _⟩ | ⟨a, len, cap, zs, hcs, hb, hl, hm, hz, hx, hcell, hwz⟩
  · obtain rfl : v = .slice none 0 0 := by simpa using hcs
    exact ⟨[], keep_none' w, fun i => by simp [i64ok], by simp⟩
  · obtain rfl : v = .slice (some a) len cap := by simpa using hcs
    have hle : len ≤ zs.length := by rw [hz]; split <;> omega
    have hlt : (zs.take len).length = len := by rw [List.length_take]; omega
    have hb3 : Try.prog.bytesOf 3 = 8 := by kernel_rfl
    have hlen8 : (zs.take len).length * 8 ≤ 140737488351232 := by
      have h1 := hw ((lits IntKind.i64 (zs.take len) : List (DataW H)).length * 8 + (lits IntKind.i64 (zs.drop len) : List (DataW H)).length * 8) (by
        rw [hx]
        simp only [DataW.weights, Try.underlying23, hb3, List.mem_cons, Nat.add_mul, true_or])
      have h2 : (lits IntKind.i64 (zs.take len) : List (DataW H)).length = (zs.take len).length := by simp [lits]
      rw [h2] at h1
      have : reachBytes = 140737488351232 := rfl
      omega
    refine ⟨zs.take len, ⟨some a, cap, by rw [hlt], by omega, hm, ?_⟩, fun i => ?_, hlen8⟩
    · by_cases h0 : len = 0
      · left; omega
      · right
        have hc0 := hcell 0 (by omega)
        have hs0 : a.spot = none := by
          have := spot_of_cell hc0
          simpa [Addr.add] using this
        refine ⟨a.block, a.off, by obtain ⟨b, o, s⟩ := a; simp only at hs0; rw [hs0], ?_, fun i hi => ?_⟩
        · have := World.block_lt_of_cell? w _ hc0
          rw [add_spot hs0] at this
          exact this
        · have hi' : i < len := by omega
          have := hcell i (by omega)
          rw [add_spot hs0] at this
          rw [this]
          congr 2
          simp [List.getD, hi']
    · by_cases hi : i < (zs.take len).length
      · have hm' : (zs.take len).getD i 0 ∈ zs := by
          have : (zs.take len).getD i 0 = (zs.take len)[i] := by rw [List.getD, List.getElem?_eq_getElem hi]; rfl
          rw [this]
          exact List.mem_of_mem_take (List.getElem_mem hi)
        exact i64_of_wf (hwz _ hm')
      · have : (zs.take len).getD i 0 = 0 := by simp only [List.getD]; rw [List.getElem?_eq_none (by omega)]; rfl
        rw [this]; simp [i64ok]
theorem keep_nil_of_trod {fuel : Nat} {v : Value} {x : DataW H × List MemPlace} (h : DataW.trod enc Try.prog w base spare held fuel 23 [v] = some x) (l c : Nat) (e : v = .slice none l c) : c = 0 := by
  rcases open_ints Try.underlying23 Try.underlying3 (by kernel_rfl) h with ⟨hcs, _⟩ | ⟨a, len, cap, zs, hcs, _⟩
  · obtain rfl : v = .slice none 0 0 := by simpa using hcs
    simp only [Value.slice.injEq] at e
    exact e.2.2.symm
  · obtain rfl : v = .slice (some a) len cap := by simpa using hcs
    simp at e
theorem step_of_trod {n : Nat} {a : Addr} {cs : List Value} {x : DataW H × List MemPlace} (hs : a.spot = none) (hc : w.cells? base a 6 = some cs) (h : DataW.trod enc Try.prog w base spare held n 34 cs = some x) (hw : ∀ n ∈ DataW.weights Try.prog 34 x.1, n ≤ reachBytes) : ∃ s, StpAt w w.heap.size a.block a.off s := by
  obtain ⟨_, hcl, hat⟩ := World.cells?_some hc
  obtain ⟨ys, n', _, hx, _, hyl, hf⟩ := DataW.trod_struct Try.underlying34 h
  match cs, hcl with
  | [v0, v1, v2, v3, v4, v5], _ =>
    have hcell : ∀ j (hj : j < 6) v, [v0, v1, v2, v3, v4, v5][j]? = some v → w.cell? ⟨a.block, a.off + j, none⟩ = some v := fun j hj v hv => by
      have := hat j hj
      rw [add_spot hs, hv] at this
      exact this
    have one3 : Try.prog.cellsOf 3 = 1 := by kernel_rfl
    have one9 : Try.prog.cellsOf 9 = 1 := by kernel_rfl
    have one23 : Try.prog.cellsOf 23 = 1 := by kernel_rfl
    have f0 := hf 0 ⟨"Do", 3, 0, false, "", "", 0⟩ rfl
    have f1 := hf 1 ⟨"Name", 9, 1, false, "", "", 8⟩ rfl
    have f2 := hf 2 ⟨"Bytes", 9, 2, false, "", "", 24⟩ rfl
    have f3 := hf 3 ⟨"N", 3, 3, false, "", "", 40⟩ rfl
    have f4 := hf 4 ⟨"M", 3, 4, false, "", "", 48⟩ rfl
    have f5 := hf 5 ⟨"Keep", 23, 5, false, "", "", 56⟩ rfl
    rw [one3] at f0 f3 f4
    rw [one9] at f1 f2
    rw [one23] at f5
    simp only [List.drop_zero, List.drop_succ_cons, List.take_succ_cons, List.take_zero] at f0 f1 f2 f3 f4 f5
    match ys, hyl with
    | [y0, y1, y2, y3, y4, y5], _ =>
      obtain ⟨x0, e0, _, _⟩ := DataW.trod_int Try.underlying3 f0
      obtain ⟨x1, e1, g1, h1⟩ := DataW.trod_string Try.underlying9 f1
      obtain ⟨x2, e2, g2, h2⟩ := DataW.trod_string Try.underlying9 f2
      obtain ⟨x3, e3, _, h3⟩ := DataW.trod_int Try.underlying3 f3
      obtain ⟨x4, e4, _, h4⟩ := DataW.trod_int Try.underlying3 f4
      rw [hx] at hw
      have hre : reachBytes = 140737488351232 := rfl
      have hwe : ∀ n, n ∈ DataW.weights Try.prog 9 y1.1 ∨ n ∈ DataW.weights Try.prog 9 y2.1 ∨ n ∈ DataW.weights Try.prog 23 y5.1 → n ≤ reachBytes := fun n hn => hw n (by
        simp only [List.map_cons, List.map_nil, DataW.weights, Try.underlying34, DataW.weightsEach, List.mem_append]
        rcases hn with h | h | h <;> simp [h])
      have l1 : x1.size ≤ 140737488351232 := by
        have := hwe x1.data.toList.length (Or.inl (by rw [g1]; simp [DataW.weights]))
        rw [hre] at this
        simpa using this
      have l2 : x2.size ≤ 140737488351232 := by
        have := hwe x2.data.toList.length (Or.inr (Or.inl (by rw [g2]; simp [DataW.weights])))
        rw [hre] at this
        simpa using this
      obtain ⟨ks, hk, hkw, hkl⟩ := keep_of_trod f5 (fun n hn => hwe n (Or.inr (Or.inr hn)))
      obtain rfl : v0 = .int .i64 x0 := by simpa using e0
      obtain rfl : v1 = .string x1 := by simpa using e1
      obtain rfl : v2 = .string x2 := by simpa using e2
      obtain rfl : v3 = .int .i64 x3 := by simpa using e3
      obtain rfl : v4 = .int .i64 x4 := by simpa using e4
      exact ⟨⟨x0, x1, x2, x3, x4, v5, ks⟩, hcell 0 (by omega) _ rfl, hcell 1 (by omega) _ rfl, hcell 2 (by omega) _ rfl, hcell 3 (by omega) _ rfl, hcell 4 (by omega) _ rfl, hcell 5 (by omega) _ rfl, l1, l2, hkl, i64_of_wf h3, i64_of_wf h4, hk, hkw, keep_nil_of_trod f5⟩
theorem steps_of_trod {fuel : Nat} {v : Value} {x : DataW H × List MemPlace} (h : DataW.trod enc Try.prog w base spare held fuel 22 [v] = some x) (hw : ∀ n ∈ DataW.weights Try.prog 22 x.1, n ≤ reachBytes) : ∃ l, StepsAt w w.heap.size v l := by
  rcases open_slice Try.underlying22 h with ⟨hcs, _⟩ | ⟨a, len, cap, m, n, D, Pl, hcs, hb, hl, hm, hmm, hx, hi⟩
  · obtain rfl : v = .slice none 0 0 := by simpa using hcs
    exact ⟨[], none, 0, rfl, by simp, Or.inl rfl⟩
  · obtain rfl : v = .slice (some a) len cap := by simpa using hcs
    have hle : len ≤ m := by rw [hmm]; split <;> omega
    have h6 : Try.prog.cellsOf 34 = 6 := by kernel_rfl
    rw [h6] at hi
    have hlen : len ≤ 4611686018427387904 := by
      have hb34 : Try.prog.bytesOf 34 = 80 := by kernel_rfl
      have h1 := hw (((List.range len).map D).length * 80 + ((List.range (m - len)).map fun j => D (len + j)).length * 80) (by
        rw [hx]
        simp only [DataW.weights, Try.underlying22, hb34, List.mem_cons, Nat.add_mul, true_or])
      simp only [List.length_map, List.length_range] at h1
      have : reachBytes = 140737488351232 := rfl
      omega
    by_cases h0 : len = 0
    · subst h0
      exact ⟨[], some a, cap, rfl, by simp, Or.inl rfl⟩
    · have hs0 : a.spot = none := by
        obtain ⟨cs, hc, _⟩ := hi 0 (by omega)
        obtain ⟨_, hcl, hat⟩ := World.cells?_some hc
        have h1 := hat 0 (by omega)
        have hv : cs[0]? = some (cs[0]'(by omega)) := List.getElem?_eq_getElem (by omega)
        rw [hv] at h1
        have := spot_of_cell h1
        simpa [Addr.add] using this
      obtain ⟨F, hF⟩ := choose_lt (n := len) (p := fun i s => StpAt w w.heap.size a.block (a.off + i * 6) s) (fun i hi' => by
        obtain ⟨cs, hc, ht⟩ := hi i (by omega)
        have := step_of_trod (a := a.add (i * 6)) (by rw [add_spot hs0]) hc ht (fun n hn => hw n (by
          rw [hx]
          simp only [DataW.weights, Try.underlying22, List.mem_cons, List.mem_append]
          exact Or.inr (Or.inl (mem_weightsAll (List.mem_map.2 ⟨i, List.mem_range.2 hi', rfl⟩) hn))))
        rw [add_spot hs0] at this
        exact this)
      refine ⟨(List.range len).map F, some a, cap, by simp, by simp; omega, Or.inr ⟨a.block, a.off, by obtain ⟨b, o, s⟩ := a; simp only at hs0; rw [hs0], ?_, fun i hi' => ?_⟩⟩
      · have := World.block_lt_of_cell? w _ (hF 0 (by omega)).c0
        exact this
      · have hi2 : i < len := by simpa using hi'
        have : ((List.range len).map F).getD i default = F i := by simp [List.getD, hi2]
        rw [this]
        exact hF i hi2
end
theorem KeepAt.mono' {w : World} {v : Value} {ks : List Int} {Q R : Nat → Prop} (h : KeepAt w v ks Q) (hQ : ∀ b, Q b → R b) : KeepAt w v ks R := by
  obtain ⟨a, cap, e, h1, h2, h3⟩ := h
  exact ⟨a, cap, e, h1, h2, h3.imp id (fun ⟨b, o, e, q, hc⟩ => ⟨b, o, e, hQ b q, hc⟩)⟩
/-- What came in stays while new blocks turn. -/
theorem KeepAt.later {w w' : World} {v : Value} {ks : List Int} {B : Nat} (h : KeepAt w v ks (fun b => b < B)) (hb : Below B w w') : KeepAt w' v ks (fun b => b < B) := by
  obtain ⟨a, cap, e, h1, h2, h3⟩ := h
  exact ⟨a, cap, e, h1, h2, h3.imp id (fun ⟨b, o, e, q, hc⟩ => ⟨b, o, e, q, fun i hi => by rw [← hc i hi]; exact hb.cell (p := ⟨b, o + i, none⟩) q⟩)⟩
theorem StpAt.later {w w' : World} {B b o : Nat} {s : Stp} (h : StpAt w B b o s) (hbB : b < B) (hb : Below B w w') : StpAt w' B b o s :=
  { c0 := (hb.cell (p := ⟨b, o, none⟩) hbB).trans h.c0, c1 := (hb.cell (p := ⟨b, o + 1, none⟩) hbB).trans h.c1, c2 := (hb.cell (p := ⟨b, o + 2, none⟩) hbB).trans h.c2, c3 := (hb.cell (p := ⟨b, o + 3, none⟩) hbB).trans h.c3,
    c4 := (hb.cell (p := ⟨b, o + 4, none⟩) hbB).trans h.c4, c5 := (hb.cell (p := ⟨b, o + 5, none⟩) hbB).trans h.c5, hn := h.hn, hb := h.hb, hkl := h.hkl, w3 := h.w3, w4 := h.w4, hk := h.hk.later hb, hkw := h.hkw, hk0 := h.hk0 }
theorem StepsAt.later {w w' : World} {B : Nat} {v : Value} {l : List Stp} (h : StepsAt w B v l) (hb : Below B w w') : StepsAt w' B v l := by
  obtain ⟨a, cap, e, h1, h2⟩ := h
  exact ⟨a, cap, e, h1, h2.imp id (fun ⟨b, o, e, q, hc⟩ => ⟨b, o, e, q, fun i hi => (hc i hi).later q hb⟩)⟩
/-! ### heavy (7) -/
def wt (s : Stp) : Nat := 16 + s.name.size + s.bytes.size + 8 * s.ks.length
def wts (l : List Stp) : Nat := (l.map wt).sum
theorem wts_succ (l : List Stp) {k : Nat} (h : k < l.length) : wts (l.take (k + 1)) = wts (l.take k) + wt (l.getD k default) := by
  have : l.getD k default = l[k] := by rw [List.getD, List.getElem?_eq_getElem h]; rfl
  rw [this, wts, wts, List.take_succ_eq_append_getElem h, List.map_append, List.sum_append]
  rfl
theorem Below.of_ext {w w' : World} (h : Ext (fun _ => False) w w') : Below w.heap.size w w' := h.below (fun _ h => h.elim) (Nat.le_refl _)
def HeavyPost (w : World) (l : List Stp) (e : Ending) (w' : World) : Prop := ∃ b : Bool, e = .returned (.bool b) ∧ (b = false → wts l ≤ 32768) ∧ Ext (fun _ => False) w w'
set_option maxHeartbeats 1000000 in
theorem heavy_any {w : World} {v : Value} {l : List Stp} {B : Nat} (h : StepsAt w B v l) (hB : B ≤ w.heap.size) :
    Calls Try.prog 7 #[v] w (HeavyPost w l) := by
  obtain ⟨a, cap, rfl, hlen, hst⟩ := h
  go_enter Try.func7, Try.ntmps7
  go_wp2
  go_loopw [3, 4] (fun n i wr => ∃ k : Nat, k ≤ l.length ∧ i = .int .i64 k ∧ n = .int .i64 (wts (l.take k)) ∧ Hid (wts (l.take k) ≤ 9007199254740992) ∧ Ext (fun _ => False) w wr) (fun _ i _ => l.length - (intOf i).toNat)
  case atStart => exact ⟨0, Nat.zero_le _, rfl, by simp [wts], by simp [wts, Hid], Ext.refl _ _⟩
  case round =>
    obtain ⟨k, hk, rfl, rfl, hn, hx⟩ := hrel
    have hn1 := hn.out
    by_cases hlt : k < l.length
    · rcases hst with h0 | ⟨b, o, rfl, hbB, hst⟩
      · omega
      have hs := (hst k hlt).later hbB ((Below.of_ext hx).mono hB)
      have h1 := hs.c1
      have h2 := hs.c2
      have h5 := hs.c5
      obtain ⟨ka, kc, hke, _, _, _⟩ := hs.hk
      rw [hke] at h5
      have b1 := hs.hn
      have b2 := hs.hb
      have b3 := hs.hkl
      have hsucc := wts_succ l hlt
      unfold wt at hsucc
      generalize l.getD k default = s at *
      clear hs hst hke hn
      by_cases hle : wts (l.take k) ≤ 32768
      · have HS := Lib.hid hsucc
        clear hsucc
        generalize hW : wts (l.take k) = W at *
        have HW := Lib.hid hW
        clear hW
        go_wp2
        go_quiet (fail)
        go_wp2
        go_roundw
        case rel =>
          refine ⟨k + 1, by omega, by go_num, ?_, ?_, hx.trans (Ext.drewN _ _ _)⟩
          · rw [HS.out]; go_num
          · show _ ≤ _
            rw [HS.out]; omega
        case measure => simp [intOf]; omega
      · clear hsucc
        go_wp2
        go_ret
        exact ⟨_, rfl, fun h => by first | omega | (simp at h; done) | (simp at h; omega), hx⟩
    · obtain rfl : k = l.length := by omega
      rw [List.take_length] at hn1
      clear hst hn
      by_cases hle : wts l ≤ 32768
      · go_wp2
        go_ret
        exact ⟨_, rfl, fun _ => by simpa using hle, hx⟩
      · go_wp2
        go_ret
        exact ⟨_, rfl, fun h => by first | omega | (simp at h; done) | (simp at h; omega), hx⟩
end Go.Proofs.Ytbopfdbenjnipaa
