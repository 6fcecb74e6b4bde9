/- Copy (17) of a disk that is there. -/
import Derived.Test.YtbopfdbenjnipaaSame3
namespace Go.Proofs.Ytbopfdbenjnipaa
set_option maxRecDepth 100000
open Go.RowKit Go.Maps Go.Sort
variable {w : World} {d : Nat} {S : Dk} {fp : List Nat}
/-- A new disk: all its blocks are new. -/
def DNew (w : World) (S : Dk) (e : Ending) (w' : World) : Prop := ∃ c fp', e = .returned (.pointer (some ⟨c, 0, none⟩)) ∧ DiskAt w' c S fp' ∧ Below w.heap.size w w' ∧ ∀ b ∈ fp', w.heap.size ≤ b
/-- The copy while it is made: esC what it has so far. -/
structure CRel (w wr : World) (c mc : Nat) (room left : Int) (esC : List (Fl × Nat)) : Prop where
  bel : Below w.heap.size w wr
  hd : wr.heap[c]? = some (.cells #[.int .i64 room, .int .i64 left, .map (some mc), .func (.func 29) #[] #[], .func (.func 29) #[] #[]] 61 (0, 0))
  hm : wr.ownsMap Try.prog 9 ptrElem mc esC.length (dataOf esC)
  fls : ∀ p ∈ esC, FlAt wr p.1 p.2
  lc : w.heap.size ≤ c
  lm : w.heap.size ≤ mc
  lf : ∀ p ∈ esC, w.heap.size ≤ p.2
  nd : (c :: mc :: esC.map (·.2)).Nodup
  rising : (esC.map (·.1)).Pairwise fun a b => a.name < b.name
theorem CRel.keep {wr w2 : World} {c mc : Nat} {room left : Int} {esC : List (Fl × Nat)} (h : CRel w wr c mc room left esC) (hb : Below w.heap.size w w2) (hk : ∀ b, b = c ∨ b = mc ∨ b ∈ esC.map (·.2) → w2.heap[b]? = wr.heap[b]?) : CRel w w2 c mc room left esC :=
  { h with bel := hb, hd := (hk c (by simp)).trans h.hd, hm := ownsMap_keep h.hm (hk mc (by simp)), fls := fun p hp => (hk p.2 (Or.inr (Or.inr (List.mem_map_of_mem hp)))).trans (h.fls p hp) }
theorem CRel.lt {wr : World} {c mc : Nat} {room left : Int} {esC : List (Fl × Nat)} (h : CRel w wr c mc room left esC) : ∀ b, b = c ∨ b = mc ∨ b ∈ esC.map (·.2) → b < wr.heap.size := by
  rintro b (rfl | rfl | hb)
  · exact (Array.getElem?_eq_some_iff.1 h.hd).1
  · exact h.hm.lt
  · obtain ⟨p, hp, rfl⟩ := List.mem_map.1 hb; exact (Array.getElem?_eq_some_iff.1 (h.fls p hp)).1
/-- A file put to it. -/
theorem CRel.ins {wr w2 : World} {c mc : Nat} {room left : Int} {esC : List (Fl × Nat)} {f : Fl} {g : Nat} (h : CRel w wr c mc room left esC) (hno : findF (esC.map (·.1)) f.name = none) (hg : wr.heap.size ≤ g)
    (hb : Below w.heap.size w w2) (hk : ∀ b, b < wr.heap.size → (b = c ∨ b ∈ esC.map (·.2)) → w2.heap[b]? = wr.heap[b]?) (hgf : FlAt w2 f g)
    (hm : w2.ownsMap Try.prog 9 ptrElem mc (esC.length + 1) ((dataOf esC).put (.string f.name) (.held g))) : CRel w w2 c mc room left (insE (f, g) esC) := by
  have hl := h.lt
  rw [put_dataOf hno] at hm
  have hm' := ownsMap_tight hm
  rw [size_dataOf] at hm'
  refine { bel := hb, hd := (hk c (hl c (by simp)) (by simp)).trans h.hd, hm := hm', fls := fun p hp => ?_, lc := h.lc, lm := h.lm, lf := fun p hp => ?_, nd := ?_, rising := ?_ }
  · rcases mem_insE.1 hp with rfl | hp
    · exact hgf
    · exact (hk p.2 (hl p.2 (Or.inr (Or.inr (List.mem_map_of_mem hp)))) (Or.inr (List.mem_map_of_mem hp))).trans (h.fls p hp)
  · rcases mem_insE.1 hp with rfl | hp
    · exact Nat.le_trans h.bel.size hg
    · exact h.lf p hp
  · have hperm : (c :: mc :: (insE (f, g) esC).map (·.2)).Perm (g :: c :: mc :: esC.map (·.2)) := by
      refine ((((perm_insE (f, g) esC).map (·.2)).cons mc).cons c).trans ?_
      simp only [List.map_cons]
      exact ((List.Perm.swap g mc _).cons c).trans (List.Perm.swap g c _)
    rw [hperm.nodup_iff, List.nodup_cons]
    refine ⟨fun hmem => ?_, h.nd⟩
    simp only [List.mem_cons] at hmem
    have := hl g (by rcases hmem with h | h | h <;> simp [h])
    omega
  · rw [map_insE]
    exact rising_insF h.rising (findF_none.1 hno)
theorem CRel.done {wr : World} {c mc : Nat} {esC : List (Fl × Nat)} (h : CRel w wr c mc (S.room : Int) S.left esC) (hf : esC.map (·.1) = S.files) : DNew w S.copy (.returned (.pointer (some ⟨c, 0, none⟩))) wr := by
  refine ⟨c, c :: mc :: esC.map (·.2), rfl, ⟨mc, esC, _, _, [], [], { hd := h.hd, hm := h.hm, files := hf.symm, fls := h.fls, fnA := ⟨rfl, rfl⟩, fnS := ⟨rfl, rfl⟩, hfp := by simp, nd := h.nd }⟩, h.bel, fun b hb => ?_⟩
  simp only [List.mem_cons, List.mem_map] at hb
  rcases hb with rfl | rfl | ⟨p, hp, rfl⟩
  · exact h.lc
  · exact h.lm
  · exact h.lf p hp
/-- Which files have come. -/
def Came (es esC : List (Fl × Nat)) (left : Lit → Bool) : Prop := ∀ f, f ∈ esC.map (·.1) ↔ f ∈ es.map (·.1) ∧ left (.string f.name) = false
theorem Came.none {es esC : List (Fl × Nat)} {left : Lit → Bool} (h : Came es esC left) {s : List UInt8} (hl : left (.string s) = true) : findF (esC.map (·.1)) s = none := by
  rw [findF_none]
  rintro f hf rfl
  rw [((h f).1 hf).2] at hl
  cases hl
theorem Came.step {es esC : List (Fl × Nat)} {left : Lit → Bool} (h : Came es esC left) (hr : (es.map (·.1)).Pairwise fun a b => a.name < b.name) {p : Fl × Nat} (hp : p ∈ es) (g : Nat) : Came es (insE (p.1, g) esC) (fun z => left z && !z.sameKey (.string p.1.name)) := by
  intro f
  rw [map_insE, mem_insF, h f]
  have e : ((Lit.string f.name).sameKey (.string p.1.name)) = decide (f.name = p.1.name) := by simp only [Lit.sameKey]; exact Bool.beq_eq_decide_eq _ _
  simp only [e, Bool.and_eq_false_iff, Bool.not_eq_false', decide_eq_true_eq]
  have hpm : p.1 ∈ es.map (·.1) := List.mem_map_of_mem (f := (·.1)) hp
  constructor
  · rintro (rfl | ⟨h1, h2⟩)
    · exact ⟨hpm, Or.inr rfl⟩
    · exact ⟨h1, Or.inl h2⟩
  · rintro ⟨h1, h2 | h2⟩
    · exact Or.inr ⟨h1, h2⟩
    · exact Or.inl (find_name_unique hr h1 hpm h2)
theorem Came.all {es esC : List (Fl × Nat)} {left : Lit → Bool} (h : Came es esC left) (hr : (es.map (·.1)).Pairwise fun a b => a.name < b.name) (hrC : (esC.map (·.1)).Pairwise fun a b => a.name < b.name) (hl : ∀ kl, left kl = false) : esC.map (·.1) = es.map (·.1) := by
  have h1 := sub_of_rising _ _ hrC hr (fun f hf => ((h f).1 hf).1)
  have h2 := sub_of_rising _ _ hr hrC (fun f hf => (h f).2 ⟨hf, hl _⟩)
  exact h1.eq_of_length (Nat.le_antisymm h1.length_le h2.length_le)
set_option maxHeartbeats 4000000 in
theorem copy_any {K : Nat} (h : DiskAt w d S fp) (hS : S.Ok K) : Calls Try.prog 17 #[.pointer (some ⟨d, 0, none⟩)] w (DNew w S.copy) := by
  obtain ⟨m, es, vA, vS, cA, cS, l⟩ := h
  have d0 := l.cell.1
  have d1 := l.cell.2.1
  have d2 := l.cell.2.2.1
  have hr := hS.rising
  rw [l.files] at hr
  have r0 : (1 : Int) ≤ (S.room : Int) := by have := hS.room0; omega
  have r1 : (S.room : Int) ≤ 1048576 := by have := hS.room1; omega
  have hfew := hS.few
  rw [l.files, List.length_map] at hfew
  have hml : m < w.heap.size := l.hm.lt
  have HL := Lib.hid l
  have HR := Lib.hid hr
  clear l hr hS
  generalize hleft : S.left = left0 at *
  have hWm : ∀ w1 : World, Below w.heap.size w w1 → w1.ownsMap Try.prog 9 ptrElem m es.length (dataOf es) := fun w1 hb => ownsMap_keep HL.out.hm (hb.block m hml)
  have HW := Lib.hid hWm
  clear hWm
  go_enter Try.func17, Try.ntmps17
  go_wp2_with (go_at_call 30; refine (none_some _ d m d2).mono ?_; rintro e w' ⟨rfl, rfl⟩)
  refine (new_ok _ _ r0 r1).mono ?_
  rintro e w1 ⟨rfl, fp', ⟨mc, esC, vA', vS', cA', cS', lc⟩, hx, hs⟩
  generalize hcd : w.heap.size + 1 = c at *
  obtain rfl : esC = [] := by have := lc.files; simpa [Dk.new] using this
  obtain ⟨rfl, rfl⟩ : vA' = _ ∧ cA' = [] := lc.fnA
  obtain ⟨rfl, rfl⟩ : vS' = _ ∧ cS' = [] := lc.fnS
  have hb1 : Below w.heap.size w w1 := hx.below (fun k hk => by simp at hk) (Nat.le_refl _)
  have hdl : d < w.heap.size := HL.out.lt d (by rw [HL.out.hfp]; simp)
  have g1 : w1.cell? ⟨d, 1, none⟩ = some (.int .i64 left0) := (hb1.cell (p := ⟨d, 1, none⟩) hdl).trans d1
  have g2 : w1.cell? ⟨d, 2, none⟩ = some (.map (some m)) := (hb1.cell (p := ⟨d, 2, none⟩) hdl).trans d2
  have k1 := lc.cell.2.1
  have k2 := lc.free.1
  have hdc : d ≠ c := by omega
  have hmcs : w.heap.size ≤ mc := (hs mc (by rw [lc.hfp]; simp)).resolve_left (by simp)
  have hC0 : CRel w (w1.setCell ⟨c, 1, none⟩ (.int .i64 left0)) c mc (S.room : Int) left0 [] := by
    have hn := lc.ne
    refine { bel := hb1.setCell (p := ⟨c, 1, none⟩) (by show w.heap.size ≤ c; omega) _, hd := ?_, hm := ownsMap_keep lc.hm (heap_set_other (Ne.symm hn.1)), fls := by simp, lc := by omega, lm := hmcs, lf := by simp, nd := by simpa using hn.1, rising := by simp }
    rw [heap_set_same lc.hd]
    simp [Dk.new]
  have hown := HW.out _ hC0.bel
  have HC := Lib.hid hC0
  clear hC0 lc hx hs hb1 d0 d1 d2 hcd
  go_wp2_with (first
    | (at_range; refine wpList_range_own _ rfl _ 59 rfl 9 63 law9 Try.underlying59 ptrElem m es.length (dataOf es) rfl hown ?_; intro w0 hrg0 hg0 hs0)
    | go_in)
  have hrw : w.heap.size ≤ (w1.setCell ⟨c, 1, none⟩ (.int .i64 left0)).heap.size := HC.out.bel.size
  have hrC := HC.out.lt
  have hC1 : CRel w w0 c mc (S.room : Int) left0 [] := HC.out.keep (HC.out.bel.grown hg0 hrw (fun k hk => by cases hk)) (fun b hb => hg0.block b (hrC b hb) (by simp))
  have hnrc : (w1.setCell ⟨c, 1, none⟩ (.int .i64 left0)).heap.size ≠ c := by have := hrC c (by simp); omega
  have hnrm : (w1.setCell ⟨c, 1, none⟩ (.int .i64 left0)).heap.size ≠ mc := by have := hrC mc (by simp); omega
  have HC1 := Lib.hid hC1
  clear hC1 hrC HC hg0 hs0 hown g1 g2 k1 k2
  generalize (w1.setCell ⟨c, 1, none⟩ (.int .i64 left0)).heap.size = r at *
  go_frame
  go_loopw [5] (fun _ wr => ∃ (left : Lit → Bool) (cnt : Nat) (esC : List (Fl × Nat)), wr.ranges Try.prog 9 ptrElem m r es.length (dataOf es) left cnt ∧ Hid (CRel w wr c mc (S.room : Int) left0 esC ∧ Came es esC left ∧ ∀ p ∈ esC, p.2 ≠ r)) (fun _ wr => wr.rangeLeft m r)
  case atStart =>
    refine ⟨has (dataOf es), _, [], hrg0, HC1.out, fun f => ?_, by simp⟩
    simp only [List.map_nil, List.not_mem_nil, false_iff, not_and]
    intro hf hl
    obtain ⟨p, hp, rfl⟩ := List.mem_map.1 hf
    rw [has_of_mem HR.out hp] at hl; cases hl
  case round =>
    clear HC1 hrg0
    obtain ⟨left, cnt, esC, hrg, hH⟩ := hrel
    go_wp2_with (first
      | (at_next; refine wpList_next_ranges _ rfl _ rfl 9 law9 ptrElem Value.string (fun v => v) (fun key kl hk => Maps.keyOf_string_inv Try.underlying9 hk) (fun v y _ => ⟨v, rfl⟩) m r es.length _ _ _ rfl hrg ?_ ?_)
      | go_in)
    · intro _ hl0
      go_wp2
      go_ret
      subst hleft
      exact hH.out.1.done ((hH.out.2.1.all HR.out hH.out.1.rising hl0).trans HL.out.files.symm)
    · intro x v kl y ps w2 cnt1 hkl hlx hv hat hrg1 hlt hg1 hs1 hen
      have hkl2 : kl = .string x.data.toList ∧ x.size ≤ maxLen := by
        simp [keyOf, Try.underlying9, mapKey] at hkl
        first | exact ⟨hkl.2.symm, hkl.1⟩ | exact ⟨hkl.1.symm, hkl.2⟩ | (obtain ⟨a, b⟩ := hkl; exact ⟨b.symm, a⟩)
      obtain ⟨rfl, hxs⟩ := hkl2
      obtain ⟨p, hp, hpn, rfl⟩ := came (y := (y, ps)) hv hat
      obtain ⟨hCr, hCm, hne⟩ := hH.out
      have hb2 : Below w.heap.size w w2 := hCr.bel.grown hg1 hCr.bel.size (fun k hk => by cases hk; exact hrw)
      have hrlt := hrg.lt
      have hCr2 : CRel w w2 c mc (S.room : Int) left0 esC := hCr.keep hb2 (fun b hb => hg1.block b (hCr.lt b hb) (fun e => by
        injection e with e
        rcases hb with h | h | h
        · exact hnrc (e.symm.trans h)
        · exact hnrm (e.symm.trans h)
        · obtain ⟨q, hq, rfl⟩ := List.mem_map.1 h; exact hne q hq e))
      have hpf : FlAt w2 p.1 p.2 := (hb2.block p.2 (HL.out.lt _ (by rw [HL.out.hfp]; simp only [List.mem_cons, List.mem_append]; exact Or.inr (Or.inr (Or.inr (List.mem_map_of_mem hp)))))).trans (HL.out.fls p hp)
      have q0 := hpf.cell.1
      have q1 := hpf.cell.2.1
      have q2 := hpf.cell.2.2
      have qm : w2.cell? ⟨c, 2, none⟩ = some (.map (some mc)) := by simp [World.cell?, hCr2.hd]
      have hno : findF (esC.map (·.1)) p.1.name = none := hCm.none (by rw [hpn]; exact hlx)
      have hlen : esC.length ≤ 64 := by
        have := (sub_of_rising _ _ hCr.rising HR.out (fun f hf => ((hCm f).1 hf).1)).length_le
        simp only [List.length_map] at this
        omega
      have hkey := WideMaps.keyOf_string_mk Try.underlying9 hxs
      have hown := hCr2.hm.alloc (.cells #[.string p.1.bytes, .int .i64 (p.1.synced : Int), .bool p.1.fresh] 65)
      have hcl : c < w2.heap.size := hCr2.lt c (by simp)
      have qm2 : (w2.alloc (.cells #[.string p.1.bytes, .int .i64 (p.1.synced : Int), .bool p.1.fresh] 65)).cell? ⟨c, 2, none⟩ = some (.map (some mc)) := by
        rw [World.cell?_of_block (w := w2) (Below.heap_alloc w2 _ c hcl)]; exact qm
      have hcm := hCm.step HR.out hp w2.heap.size
      have HX := Lib.hid (And.intro hCr2 (And.intro hcm (And.intro hne (And.intro hno hpn))))
      have HG := Lib.hid (And.intro hrg (And.intro hrg1 hlt))
      clear hCr2 hcm hne hno hpn hCr hCm hH hrg hrg1 hlt hpf hb2 hp hv hat hg1 hkl hlx hs1 qm hrlt
      go_wp2_with (at_mapUpdate; go_must (refine wpList_mapUpdate_own _ rfl _ _ _ 59 rfl 9 63 law9 Try.underlying59 ptrElem mc esC.length (dataOf esC) rfl hown (by unfold maxLen; omega) _ _ _ rfl rfl hkey (.held w2.heap.size) [] rfl ?_); intro w3 hown3 hg3)
      obtain ⟨hCr2, hcm, hne, hno, hpn⟩ := HX.out
      obtain ⟨hrg, hrg1, hlt⟩ := HG.out
      have hmcl : mc < w2.heap.size := hCr2.hm.lt
      have z2 : (w2.alloc (.cells #[.string p.1.bytes, .int .i64 (p.1.synced : Int), .bool p.1.fresh] 65)).heap.size = w2.heap.size + 1 := by simp
      have n2 := heap_new w2 (.cells #[.string p.1.bytes, .int .i64 (p.1.synced : Int), .bool p.1.fresh] 65)
      change World.grownBy (w2.alloc (.cells #[.string p.1.bytes, .int .i64 (p.1.synced : Int), .bool p.1.fresh] 65)) w3 (some mc) at hg3
      have hb3 : Below w.heap.size w w3 := (hCr2.bel.alloc hCr2.bel.size _).grown hg3 (by rw [z2]; have := hCr2.bel.size; omega) (fun k hk => by cases hk; exact hmcs)
      have hkeep : ∀ b, b < w2.heap.size → b ≠ mc → w3.heap[b]? = w2.heap[b]? := fun b hb hn => (hg3.block b (by rw [z2]; omega) (fun e => hn (by injection e))).trans (Below.heap_alloc _ _ _ hb)
      have hnd := hCr2.nd
      simp only [List.nodup_cons, List.mem_cons, not_or] at hnd
      have hR3 : w3.ranges Try.prog 9 ptrElem m r es.length (dataOf es) (fun z => left z && !z.sameKey (.string x.data.toList)) cnt1 :=
        ranges_keep hrg1 (hkeep m (by have := hCr2.bel.size; omega) (by omega)) (hkeep r (hrg1.lt) hnrm)
      have hC3 := hCr2.ins (f := p.1) (g := w2.heap.size) hno (Nat.le_refl _) hb3 (fun b hb h => hkeep b hb (fun e => by
        subst e
        rcases h with h | h
        · exact hnd.1.1 h.symm
        · exact hnd.2.1 h)) ((hg3.block _ (by rw [z2]; omega) (fun e => by injection e with e; omega)).trans n2) (by rw [hpn]; exact hown3)
      go_frame
      go_roundw
      case rel =>

        refine ⟨_, cnt1, insE (p.1, w2.heap.size) esC, hR3, Lib.hid ⟨hC3, ?_, fun q hq => ?_⟩⟩
        · rw [← hpn]; exact hcm
        · rcases mem_insE.1 hq with rfl | hq
          · have := hrg1.lt; show w2.heap.size ≠ r; omega
          · exact hne q hq
      case measure =>
        rw [hR3.left_eq, hrg.left_eq]; exact hlt
end Go.Proofs.Ytbopfdbenjnipaa
