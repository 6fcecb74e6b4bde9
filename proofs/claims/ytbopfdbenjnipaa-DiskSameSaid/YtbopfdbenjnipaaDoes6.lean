/- does (20): read and crash. -/
import Derived.Test.YtbopfdbenjnipaaDoes1
import Derived.Laws.AppendOwnNone
namespace Go.Proofs.Ytbopfdbenjnipaa
set_option maxRecDepth 100000
open Go.RowKit Go.Maps Go.Sort
variable {w : World} {d x : Nat} {S : Dk} {R : Rf} {fp fq : List Nat}
theorem Sim.read (h : Sim S R) (s : List UInt8) : S.read s = R.read s := by
  unfold Dk.read Rf.read
  rw [h.files]
  rfl
theorem cells_box (w : World) (cs : Array Value) : ∀ j v, cs[j]? = some v → (w.alloc (.cells cs 34)).cell? ⟨w.heap.size, j, none⟩ = some v := fun j v hv => by
  unfold World.cell?; rw [heap_new]; exact hv
set_option maxHeartbeats 4000000 in
theorem does_read {K : Nat} (h : Both w d x S R fp fq) (hS : S.Ok K) (hsim : Sim S R) (s : Stp) (hs : s.name.size ≤ 140737488351232) (ha : s.act = 3) :
    Calls Try.prog 20 #[.pointer (some ⟨d, 0, none⟩), .pointer (some ⟨x, 0, none⟩), stepV s] w (DSaid w d x fp fq S R) := by
  have hR := hsim.ok hS
  have hs' : s.name.size ≤ maxLen := by unfold maxLen; omega
  have e2 := hsim.read s.name.data.toList
  obtain ⟨act, name, bytes, n, m, keep, ks⟩ := s
  simp only at ha hs hs' e2 ⊢
  subst ha
  have hD := fun (w1 : World) (hb : Both w1 d x S R fp fq) => read_any hb.hd name hs'
  have hRf := fun (w1 : World) (hb : Both w1 d x S R fp fq) => rread_any hb.hr hR name
  rw [e2] at hD
  generalize (R.read name.data.toList).2 = r at *
  generalize (R.read name.data.toList).1 = t at *
  have HD := Lib.hid hD
  have HR := Lib.hid hRf
  have HB := Lib.hid h
  clear h hS hR hsim e2 hD hRf hs' hs
  unfold stepV
  simp only
  go_enter Try.func20, Try.ntmps20
  go_wp2_with (first
    | (go_at_call 14; refine (HD.out _ (HB.out.quiet (Ext.alloc _ _ _))).mono ?_; rintro e w1 ⟨rfl, rfl⟩)
    | (go_at_call 36; refine (HR.out _ (HB.out.quiet (Ext.alloc _ _ _))).mono ?_; rintro e w1 ⟨rfl, rfl⟩))
  go_ret
  exact ⟨rfl, PAfter.same HB.out (Ext.alloc _ _ _)⟩
theorem info3 : (Try.prog.info? 3).map (fun i => (i.zero, i.size, i.bytes)) = some (some (.int .i64 0), 1, 8) := by kernel_rfl
theorem own_empty3 (w : World) : (w.alloc (.cells #[] 3)).ownsRow w.heap.size 3 1 (.slice (some ⟨w.heap.size, 0, none⟩) 0 0) 0 [] := by
  refine ⟨rfl, Or.inr ⟨w.heap.size, 0, #[], rfl, Nat.le_refl _, ?_, Nat.le_refl _, by unfold maxLen; omega, rfl, rfl⟩⟩
  exact heap_new w _
/-- A row of ints of the call's own, as what a crash keeps. -/
theorem keep_of_row {w : World} {base n : Nat} {v : Value} {ks : List Int} (h : w.ownsRow base 3 1 v n (ks.map (Value.int .i64))) (hn : n = ks.length) : KeepAt w v ks (fun b => base ≤ b ∧ b < w.heap.size) := by
  have hlt := h.lt
  have h' := h
  rcases h.2 with ⟨rfl, he⟩ | ⟨g, cap, cur, rfl, hg, hb, h1, h2, _⟩
  · have : ks.length = 0 := by omega
    exact ⟨none, 0, by rw [this], by omega, by unfold maxLen; omega, Or.inl this⟩
  · subst hn
    refine ⟨some ⟨g, 0, none⟩, cap, rfl, h1, h2, Or.inr ⟨g, 0, rfl, hlt g rfl, fun i hi => ?_⟩⟩
    have := h'.cells (g := g) rfl i (.int .i64 (ks.getD i 0)) (by simp [hi])
    rw [add_zero_mk] at this
    rw [Nat.zero_add]; exact this
set_option maxHeartbeats 4000000 in
theorem does_crash {K : Nat} (h : Both w d x S R fp fq) (hS : S.Ok K) (hsim : Sim S R) (s : Stp) (ha : s.act = 7) (hk : KeepAt w s.keep s.ks (fun b => b ∉ fp ∧ b ∉ fq ∧ b < w.heap.size)) (hkw : ∀ i, i64ok (s.ks.getD i 0)) (hkl : s.ks.length * 8 ≤ 140737488351232) (hk0 : ∀ l c, s.keep = .slice none l c → c = 0) :
    Calls Try.prog 20 #[.pointer (some ⟨d, 0, none⟩), .pointer (some ⟨x, 0, none⟩), stepV s] w (DSaid w d x fp fq (S.crash s.ks) (R.crash s.ks)) := by
  have hR := hsim.ok hS
  obtain ⟨act, name, bytes, n, m, keep, ks⟩ := s
  simp only at ha hk hkw hkl hk0 ⊢
  subst ha
  obtain ⟨i0, hi, hz0, hz1, hz2⟩ := info_parts info3
  unfold stepV
  simp only
  have hbox := cells_box w #[.int .i64 7, .string name, .string bytes, .int .i64 n, .int .i64 m, keep]
  have q0 := hbox 0 _ rfl
  have q5 := hbox 5 _ rfl
  have hB := h.quiet (Ext.alloc (fun _ => False) w (.cells #[.int .i64 7, .string name, .string bytes, .int .i64 n, .int .i64 m, keep] 34))
  have hx1 := Ext.alloc (fun _ => False) w (.cells #[.int .i64 7, .string name, .string bytes, .int .i64 n, .int .i64 m, keep] 34)
  have hqp : w.heap.size ∉ fp := fun hm => by have := h.hd.lt _ hm; omega
  have hqq : w.heap.size ∉ fq := fun hm => by have := h.hr.lt _ hm; omega
  have hql : w.heap.size < (w.alloc (.cells #[.int .i64 7, .string name, .string bytes, .int .i64 n, .int .i64 m, keep] 34)).heap.size := by simp
  have hk1 : KeepAt (w.alloc (.cells #[.int .i64 7, .string name, .string bytes, .int .i64 n, .int .i64 m, keep] 34)) keep ks (fun b => b ∉ fp ∧ b ∉ fq ∧ b < (w.alloc (.cells #[.int .i64 7, .string name, .string bytes, .int .i64 n, .int .i64 m, keep] 34)).heap.size) := by
    obtain ⟨a, cap, e, h1, h2, h3⟩ := hk
    refine ⟨a, cap, e, h1, h2, h3.imp id (fun ⟨b, o, e, ⟨g1, g2, g3⟩, hc⟩ => ⟨b, o, e, ⟨g1, g2, by omega⟩, fun i hi => ?_⟩)⟩
    rw [← hc i hi]
    exact World.cell?_of_block (Below.heap_alloc _ _ b g3)
  have HX1 := Lib.hid hx1
  have HB := Lib.hid hB
  have HQ := Lib.hid (And.intro hqp (And.intro hqq hql))
  have HK := Lib.hid hk1
  have HW := Lib.hid (And.intro hkw (And.intro hS hR))
  obtain ⟨ka, kc, hke, hkc, hkm, _⟩ := hk
  subst hke
  clear h hS hR hsim hkw hbox hx1 hB hqp hqq hql hk1
  go_enter Try.func20, Try.ntmps20
  go_wp2_with fail
  generalize hwb : (w.alloc (.cells #[.int .i64 7, .string name, .string bytes, .int .i64 n, .int .i64 m, .slice ka ks.length kc] 34)) = wb at *
  generalize w.heap.size = q at *
  clear hwb
  refine (rcrash_any HB.out.hr HW.out.2.2 _ ks (HK.out.mono' fun b h => ⟨h.2.1, h.2.2⟩) HW.out.1).mono ?_
  rintro e w1 ⟨rfl, hA⟩
  have hP := HB.out.ref hA
  have q5' := (hP.cell HQ.out.1 HQ.out.2.1 HQ.out.2.2).trans q5
  have hK2 : ks.length = 0 ∨ ∃ b o, ka = some ⟨b, o, none⟩ ∧ (b ∉ fp ∧ b ∉ fq ∧ b < wb.heap.size) ∧ ∀ i, i < ks.length → w1.cell? ⟨b, o + i, none⟩ = some (.int .i64 (ks.getD i 0)) := by
    obtain ⟨a, cap, e, h1, h2, h3⟩ := HK.out
    simp only [Value.slice.injEq] at e
    obtain ⟨rfl, -, rfl⟩ := e
    exact h3.imp id (fun ⟨b, o, e, g, hc⟩ => ⟨b, o, e, g, fun i hi => (hP.cell g.1 g.2.1 g.2.2).trans (hc i hi)⟩)
  obtain ⟨fp1, fq1, hB1, hP⟩ := hP
  have HB1 := Lib.hid hB1
  have HP := Lib.hid hP
  have HK2 := Lib.hid hK2
  clear hB1 hP hA q0 q5 hK2
  have hql1 : q < w1.heap.size := by have := HP.out.1.size; have := HQ.out.2.2; omega
  have hcell : (w1.alloc (.cells #[] 3)).cell? ⟨q, 5, none⟩ = some (.slice ka ks.length kc) := by
    exact (World.cell?_of_block (Below.heap_alloc _ _ q hql1)).trans (q5'.trans rfl)
  have hxa : Ext (fun _ => False) w1 (w1.alloc (.cells #[] 3)) := Ext.alloc _ _ _
  have HXA := Lib.hid (And.intro hxa hql1)
  clear q5' hxa hql1
  have hfin : ∀ (W : World) (v' : Value), Ext (fun _ => False) w1 W → KeepAt W v' ks (fun b => w1.heap.size ≤ b ∧ b < W.heap.size) →
      Calls Try.prog 13 #[.pointer (some ⟨d, 0, none⟩), v'] W fun e w' => e = .returned (.int .i64 0) ∧ PAfter w d x fp fq (S.crash ks) (R.crash ks) w' := by
    intro W v' hx hk'
    have hb := HB1.out.quiet hx
    have hl := HB1.out.hd.lt
    refine (crash_any hb.hd HW.out.2.1 v' ks (hk'.mono' fun b h => ⟨fun hm => by have := hl b hm; omega, h.2⟩) HW.out.1).mono ?_
    rintro e w' ⟨rfl, hA⟩
    exact ⟨rfl, PAfter.pre HX1.out (PAfter.trans HP.out.1 HP.out.2.1 HP.out.2.2 (PAfter.pre hx (hb.disk hA)))⟩
  have HF := Lib.hid hfin
  clear hfin
  cases ka with
  | none =>
    obtain rfl : kc = 0 := hk0 _ _ rfl
    have hl0 : ks = [] := by
      rcases HK2.out with h | ⟨b, o, e, _⟩
      · exact List.length_eq_zero_iff.1 h
      · cases e
    have hc0 : (w1.alloc (.cells #[] 3)).cell? ⟨q, 5, none⟩ = some (.slice none 0 0) := by rw [hcell, hl0]; rfl
    have hl1 : ks.length = 0 := by rw [hl0]; rfl
    have HL0 := Lib.hid hl0
    clear hkm hkc hk0 hkl hcell hl0
    go_wp2_with (first
      | (at_builtin; go_must (refine wpList_append_own_none rfl _ _ 23 rfl w1.heap.size 3 i0 1 Try.underlying23 hi _ 0 [] rfl (own_empty3 w1) rfl ?_))
      | (go_at_call 13; refine (HF.out _ _ HXA.out.1 ?_).mono ?_; (exact keep_of_row (base := w1.heap.size) (n := 0) (by rw [HL0.out]; exact own_empty3 w1) (by rw [HL0.out]; rfl)); rintro e w' ⟨rfl, hA⟩))
    go_ret
    exact ⟨rfl, hA⟩
  | some ad =>
    have hnews : ∀ j u, (ks.map (Value.int .i64))[j]? = some u → (w1.alloc (.cells #[] 3)).cell? (ad.add j) = some u := by
      intro j u hu
      have hj : j < ks.length := by
        have := (List.getElem?_eq_some_iff.1 hu).1
        simpa using this
      rcases HK2.out with h | ⟨b, o, e, g, hc⟩
      · omega
      · injection e with e
        subst e
        rw [add_mk]
        have := hc j hj
        have hu' : u = .int .i64 (ks.getD j 0) := by
          rw [List.getElem?_map, List.getElem?_eq_getElem hj] at hu
          simp only [Option.map_some, Option.some.injEq] at hu
          rw [← hu]; simp [hj]
        rw [hu', ← this]
        exact World.cell?_of_block (Below.heap_alloc _ _ b (World.block_lt_of_cell? w1 _ this))
    have HN := Lib.hid hnews
    clear hnews hkc hkm hk0
    go_wp2_with (first
      | (at_builtin; go_must (refine wpList_append_own _ rfl _ _ 23 rfl w1.heap.size 3 i0 (.int .i64 0) 1 8 Try.underlying23 hi hz0 hz1 hz2 rfl (by decide) _ 0 [] rfl (own_empty3 w1) ad ks.length kc (ks.map (Value.int .i64)) rfl (by simp) HN.out (by simp [Value.oneCell']) (by unfold maxLen; omega) (by omega) (by simp) ?_); intro v' w3 hown' hgrow _; have hx3 : Ext (fun _ => False) w1 w3 := HXA.out.1.trans' (Ext.of_grown hgrow) (fun i hi => Or.inr (Nat.le_of_eq hi.symm)); have hk3 : KeepAt w3 v' ks (fun b => w1.heap.size ≤ b ∧ b < w3.heap.size) := keep_of_row hown' (by omega); have HC := Lib.hid (HF.out w3 v' hx3 hk3); clear hgrow hown' hx3 hk3)
      | (go_at_call 13; refine HC.out.mono ?_; rintro e w' ⟨rfl, hA⟩))
    go_ret
    exact ⟨rfl, hA⟩
end Go.Proofs.Ytbopfdbenjnipaa
