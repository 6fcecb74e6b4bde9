/- maps.EqualFunc (42) over the files of two disks, at Same's closure (43). -/
import Derived.Test.YtbopfdbenjnipaaSame1
import Derived.Test.YtbopfdbenjnipaaPlain4
import Derived.Maps.RangeWalk
import Derived.Sort.MapsRangeIn
namespace Go.Proofs.Ytbopfdbenjnipaa
set_option maxRecDepth 100000
open Go.RowKit Go.Maps Go.Sort
variable {w : World}
theorem atKey_absent {es : List (Fl × Nat)} {s : List UInt8} (h : findF (es.map (·.1)) s = none) (zd : DataW Nat) : (dataOf es).atKey (.string s) zd = zd := by
  have h := findF_none.1 h
  simp only [List.mem_map, forall_exists_index, and_imp] at h
  have e : (es.map fun p => ((Lit.string p.1.name, DataW.held p.2) : Lit × DataW Nat)).find? (fun p => p.1.sameKey (.string s)) = none := by
    rw [List.find?_eq_none]
    intro x hx
    obtain ⟨p, hp, rfl⟩ := List.mem_map.1 hx
    have := h _ p hp rfl
    simp [Lit.sameKey]
    first | exact this | exact fun e => this e | (intro e; exact this e.symm)
  simp [dataOf, DataW.atKey, e]
theorem atKey_present : ∀ {es : List (Fl × Nat)} {s : List UInt8} {f : Fl}, findF (es.map (·.1)) s = some f → ∃ b, (f, b) ∈ es ∧ ∀ zd, (dataOf es).atKey (.string s) zd = .held b
  | [], _, _, h => by simp [findF] at h
  | p :: r, s, f, h => by
    by_cases e : p.1.name = s
    · have : p.1 = f := by simpa [findF, e] using h
      subst this
      exact ⟨p.2, by simp, fun zd => by simp [dataOf, DataW.atKey, Lit.sameKey, e]⟩
    · have h' : findF (r.map (·.1)) s = some f := by simpa [findF, e] using h
      obtain ⟨b, hb, ha⟩ := atKey_present h'
      refine ⟨b, List.mem_cons_of_mem _ hb, fun zd => ?_⟩
      rw [← ha zd]
      simp [dataOf, DataW.atKey, Lit.sameKey, e]
theorem findF_of_mem {fs : List Fl} (hr : fs.Pairwise fun a b => a.name < b.name) {f : Fl} (hf : f ∈ fs) : findF fs f.name = some f := by
  cases h : findF fs f.name with
  | none => exact absurd rfl (findF_none.1 h f hf)
  | some g => rw [find_name_unique hr (findF_mem h).1 hf (findF_mem h).2]
theorem has_of_mem {es : List (Fl × Nat)} (hr : (es.map (·.1)).Pairwise fun a b => a.name < b.name) {p : Fl × Nat} (hp : p ∈ es) : has (dataOf es) (.string p.1.name) = true := by
  obtain ⟨b, _, hk⟩ := atKey_present (findF_of_mem hr (List.mem_map_of_mem (f := (·.1)) hp))
  exact has_true_of_atKey hk
theorem ranges_keep {w w' : World} {b r n cnt : Nat} {D : DataW Nat} {left : Lit → Bool} (h : w.ranges Try.prog 9 ptrElem b r n D left cnt) (h1 : w'.heap[b]? = w.heap[b]?) (h2 : w'.heap[r]? = w.heap[r]?) : w'.ranges Try.prog 9 ptrElem b r n D left cnt := by
  obtain ⟨es, clock, since, seen, c0, hb, F, hs, hD, hr, rest⟩ := h
  exact ⟨es, clock, since, seen, c0, h1.trans hb, F, hs, hD, h2.trans hr, rest⟩
/-- An entry that came: it is one of the list. -/
theorem came {es : List (Fl × Nat)} {s : List UInt8} {v : Value} {y : DataW Nat × List MemPlace} (hv : ptrElem v = some y) (hat : ∀ zd, (dataOf es).atKey (.string s) zd = y.1) : ∃ p ∈ es, p.1.name = s ∧ v = .pointer (some ⟨p.2, 0, none⟩) := by
  cases hf : findF (es.map (·.1)) s with
  | none =>
    have h1 := hat .nil
    have h2 := hat (.held 0)
    rw [atKey_absent hf] at h1 h2
    rw [← h1] at h2
    cases h2
  | some f =>
    obtain ⟨b, hb, hk⟩ := atKey_dataOf_some hf
    obtain ⟨y1, ps⟩ := y
    have : y1 = .held b := (hat .nil).symm.trans hk
    subst this
    obtain rfl := ptrElem_held hv
    refine ⟨(f, b), hb, ?_, rfl⟩
    exact (findF_mem hf).2
def EqSaid (w : World) (p : Prop) (e : Ending) (w' : World) : Prop := ∃ b, e = .returned (.bool b) ∧ (b = true ↔ p) ∧ Below w.heap.size w w'
set_option maxHeartbeats 4000000 in
theorem equal_any {m1 m2 : Nat} {es1 es2 : List (Fl × Nat)} (h1 : w.ownsMap Try.prog 9 ptrElem m1 es1.length (dataOf es1)) (h2 : w.ownsMap Try.prog 9 ptrElem m2 es2.length (dataOf es2)) (f1 : ∀ p ∈ es1, FlAt w p.1 p.2) (f2 : ∀ p ∈ es2, FlAt w p.1 p.2)
    (hr1 : (es1.map (·.1)).Pairwise fun a b => a.name < b.name) (hc1 : es1.length ≤ 64) (hc2 : es2.length ≤ 64) :
    Calls Try.prog 42 #[.map (some m1), .map (some m2), .func (.func 43) #[] #[]] w (EqSaid w (es1.length = es2.length ∧ ∀ p ∈ es1, findF (es2.map (·.1)) p.1.name = some p.1)) := by
  have hl1 := fun ty => h1.len (t := 59) Try.underlying59 ty
  have hl2 := fun ty => h2.len (t := 59) Try.underlying59 ty
  rw [size_dataOf] at hl1 hl2
  have HR1 := Lib.hid hr1
  clear hr1
  by_cases hl : es1.length = es2.length
  · have hq : ((es1.length : Int) != (es2.length : Int)) = false := by simp [hl]
    have HL := Lib.hid hl
    clear hl
    go_enter Try.func42, Try.ntmps42
    go_wp2_with (first
      | (at_range; refine wpList_range_own _ rfl _ 59 rfl 9 63 law9 Try.underlying59 ptrElem m1 es1.length (dataOf es1) rfl h1 ?_; intro w0 hrg0 hg0 hs0)
      | go_in)
    go_frame
    go_loopw [7] (fun _ wr => ∃ (left : Lit → Bool) (cnt : Nat), wr.ranges Try.prog 9 ptrElem m1 w.heap.size es1.length (dataOf es1) left cnt ∧ Below w.heap.size w wr ∧ Hid (∀ p ∈ es1, left (.string p.1.name) = false → findF (es2.map (·.1)) p.1.name = some p.1)) (fun _ wr => wr.rangeLeft m1 w.heap.size)
    case atStart =>
      refine ⟨has (dataOf es1), _, hrg0, (Below.refl w.heap.size w).grown hg0 (Nat.le_refl _) (fun k hk => by cases hk), Lib.hid (fun p hp hlf => ?_)⟩
      rw [has_of_mem HR1.out hp] at hlf; cases hlf
    case round =>
      obtain ⟨left, cnt, hrg, hb, hseen⟩ := hrel
      go_wp2_with (first
        | (at_next; refine wpList_next_ranges _ rfl _ rfl 9 law9 ptrElem Value.string (fun v => v) (fun key kl hk => Maps.keyOf_string_inv Try.underlying9 hk) (fun v y _ => ⟨v, rfl⟩) m1 w.heap.size es1.length _ _ _ rfl hrg ?_ ?_)
        | go_in)
      · intro _ hl0
        go_wp2
        go_ret
        exact ⟨true, rfl, ⟨fun _ => ⟨HL.out, fun p hp => hseen.out p hp (hl0 _)⟩, fun _ => rfl⟩, hb⟩
      · intro x c kl y ps w1 cnt1 hkl hlx hv hat hrg1 hlt hg1 hs1 hen
        have hkl2 : kl = .string x.data.toList ∧ x.size ≤ maxLen := by
          simp [keyOf, Try.underlying9, mapKey] at hkl
          first | exact ⟨hkl.2.symm, hkl.1⟩ | exact ⟨hkl.1.symm, hkl.2⟩ | (obtain ⟨a, b⟩ := hkl; exact ⟨b.symm, a⟩)
        obtain ⟨rfl, hxs⟩ := hkl2
        obtain ⟨p, hp, hpn, rfl⟩ := came (y := (y, ps)) hv hat
        have hb1 : Below w.heap.size w w1 := hb.grown hg1 hb.size (fun k hk => by cases hk; exact Nat.le_refl _)
        have h2' : w1.ownsMap Try.prog 9 ptrElem m2 es2.length (dataOf es2) := by
          obtain ⟨es, clock, hb2, r⟩ := h2
          exact ⟨es, clock, (hb1.block m2 (Array.getElem?_eq_some_iff.1 hb2).1).trans hb2, r⟩
        have hm1 : m1 < w.heap.size := h1.lt
        have hkey := WideMaps.keyOf_string_mk Try.underlying9 hxs
        have hlk := h2'.look_ok law9 Try.underlying59 (zero63 w1) (zd := .nil) (zp := []) rfl hkey
        obtain ⟨v2, ps2, hlk, hv2⟩ := hlk
        cases hf : findF (es2.map (·.1)) x.data.toList with
        | none =>
          rw [has_false_of_atKey (fun zd => atKey_absent hf zd)] at hlk
          have hd : ¬ (es1.length = es2.length ∧ ∀ p ∈ es1, findF (es2.map (·.1)) p.1.name = some p.1) := fun h => by
            have := h.2 p hp
            rw [hpn, hf] at this
            cases this
          have HB1 := Lib.hid hb1
          clear h1 h2 h2' f1 f2 hl1 hl2 hrg hrg1 hg1 hb1 hat hv hseen hf hb hp hkey hv2
          go_wp2
          go_ret
          exact ⟨false, rfl, ⟨fun h => (by cases h), fun h => (hd h).elim⟩, HB1.out⟩
        | some f =>
          obtain ⟨b2, hbm, hk2⟩ := atKey_present hf
          rw [hk2] at hv2
          obtain rfl := ptrElem_held hv2
          rw [has_true_of_atKey hk2] at hlk
          have g1 : FlAt w1 p.1 p.2 := (hb1.block p.2 (Array.getElem?_eq_some_iff.1 (f1 p hp)).1).trans (f1 p hp)
          have g2 : FlAt w1 f b2 := (hb1.block b2 (Array.getElem?_eq_some_iff.1 (f2 _ hbm)).1).trans (f2 _ hbm)
          have hcall := same1_any g1.cell.1 g1.cell.2.1 g1.cell.2.2 g2.cell.1 g2.cell.2.1 g2.cell.2.2
          have HC := Lib.hid hcall
          have HB1 := Lib.hid hb1
          have HR := Lib.hid (And.intro hrg hrg1)
          have HF := Lib.hid (And.intro hf (And.intro hp hpn))
          have hfn := (findF_mem hf).2
          have HN := Lib.hid hfn
          clear hcall hb1 hb h1 h2 h2' f1 f2 hl1 hl2 hat hv hv2 hk2 g1 g2 hkey hf hp hpn hfn hrg hrg1 hg1
          by_cases he : p.1.bytes = f.bytes ∧ p.1.synced = f.synced ∧ p.1.fresh = f.fresh
          · have HE := Lib.hid he
            clear he
            go_wp2_with (go_at_call 43; refine HC.out.mono ?_; rintro e w2 ⟨r, rfl, hr, hx2⟩; obtain rfl : r = true := hr.2 HE.out; have HX := Lib.hid hx2; clear hr hx2)
            have hpf : p.1 = f := by
              obtain ⟨⟨n, b, s, q⟩, pb⟩ := p
              obtain ⟨n', b', s', q'⟩ := f
              have h3 := HE.out
              have h4 := HF.out.2.2.trans HN.out.symm
              simp only at h3 h4
              simp [h3.1, h3.2.1, h3.2.2, h4]
            have hs1 := HB1.out.size
            have hrw := HR.out.1.lt
            have hR2 : w2.ranges Try.prog 9 ptrElem m1 w.heap.size es1.length (dataOf es1) (fun z => left z && !z.sameKey (.string x.data.toList)) cnt1 :=
              ranges_keep HR.out.2 (HX.out.block m1 (by omega) id) (HX.out.block _ HR.out.2.lt id)
            go_roundw
            case rel =>
              refine ⟨_, cnt1, hR2, HB1.out.trans (HX.out.below (fun _ h => h.elim) HB1.out.size), Lib.hid fun p' hp' hl' => ?_⟩
              simp only [Bool.and_eq_false_iff, Bool.not_eq_false'] at hl'
              rcases hl' with hl' | hl'
              · exact hseen.out p' hp' hl'
              · have hn : p'.1.name = x.data.toList := by simpa [Lit.sameKey] using hl'
                have : p'.1 = p.1 := find_name_unique HR1.out (List.mem_map_of_mem (f := (·.1)) hp') (List.mem_map_of_mem (f := (·.1)) HF.out.2.1) (hn.trans HF.out.2.2.symm)
                rw [this, HF.out.2.2, hpf, HF.out.1]
            case measure =>
              rw [hR2.left_eq, HR.out.1.left_eq]; exact hlt
          · have HE := Lib.hid he
            clear he
            go_wp2_with (go_at_call 43; refine HC.out.mono ?_; rintro e w2 ⟨r, rfl, hr, hx2⟩; obtain rfl : r = false := (by cases r with | false => rfl | true => exact absurd (hr.1 rfl) HE.out); have HX := Lib.hid hx2; clear hr hx2)
            go_ret
            refine ⟨false, rfl, ⟨fun h => (by cases h), fun h => ?_⟩, HB1.out.trans (HX.out.below (fun _ h => h.elim) HB1.out.size)⟩
            have h3 := h.2 p HF.out.2.1
            rw [HF.out.2.2, HF.out.1] at h3
            injection h3 with h3
            exact absurd ⟨by rw [h3], by rw [h3], by rw [h3]⟩ HE.out
  · have hq : ((es1.length : Int) != (es2.length : Int)) = true := by rw [bne_iff_ne]; omega
    go_enter Try.func42, Try.ntmps42
    go_wp2
    go_ret
    exact ⟨false, rfl, ⟨fun h => (by cases h), fun h => (hl h.1).elim⟩, Below.refl _ _⟩
end Go.Proofs.Ytbopfdbenjnipaa
