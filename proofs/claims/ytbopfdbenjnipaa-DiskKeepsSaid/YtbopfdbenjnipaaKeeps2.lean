/- DiskKeeps (3) returns true: the walk. -/
import Derived.Test.YtbopfdbenjnipaaKeeps
import Derived.StillTailTactics
import Derived.Deep.QuietTactic
import Derived.BigQuiet
namespace Go.Proofs.Ytbopfdbenjnipaa
set_option maxRecDepth 100000
open Go.RowKit Go.Maps Go.Sort
def KRel (w0 w : World) (d qa qs qo : Nat) (l : List Stp) (k : Nat) : Prop := ∃ A0 A1 Y0 Y1 o0 o1, KInv w0 w d qa qs qo (kd A0 A1 Y0.size Y1.size o0 o1) A0 A1 Y0 Y1 o0 o1 ∧ A0.size + A1.size ≤ wts (l.take k) ∧ Y0.size ≤ A0.size ∧ Y1.size ≤ A1.size
theorem wts_take_le (l : List Stp) (k : Nat) : wts (l.take k) ≤ wts l := by
  have h := List.take_append_drop k l
  have : wts l = wts (l.take k) + wts (l.drop k) := by
    rw [wts, wts, wts, ← List.sum_append, ← List.map_append, h]
  omega
theorem cell_alloc {w : World} {a : Addr} {v : Value} (o : Obj) (h : w.cell? a = some v) : (w.alloc o).cell? a = some v := by
  rw [World.cell?_of_block (w := w) (Below.heap_alloc w o a.block (World.block_lt_of_cell? w a h))]
  exact h
theorem frozen_alloc {w : World} {a : Addr} (o : Obj) (hlt : a.block < w.heap.size) (h : w.frozen? a = false) : (w.alloc o).frozen? a = false := by
  rw [World.frozen?_of_block (w := w) (Below.heap_alloc w o a.block hlt)]
  exact h
theorem KInv.read' {w0 w : World} {d qa qs qo : Nat} {S : Dk} {A0 A1 Y0 Y1 : ByteArray} {o0 o1 : Bool} (h : KInv w0 w d qa qs qo S A0 A1 Y0 Y1 o0 o1) (s : ByteArray) (hs : s.size ≤ maxLen) {b : ByteArray} {r : Int} (hr : S.read s.data.toList = (b, r)) :
    Calls Try.prog 14 #[.pointer (some ⟨d, 0, none⟩), .string s] w fun e w' => e = .returned (.tuple #[.string b, .int .i64 r]) ∧ KInv w0 w' d qa qs qo S A0 A1 Y0 Y1 o0 o1 := by
  refine (h.read s hs hr).mono ?_
  rintro e w' ⟨rfl, rfl⟩
  exact ⟨rfl, h⟩
def Holds (w : World) (e : Ending) (w' : World) : Prop := e = .returned (.bool true) ∧ Ext (fun _ => False) w w'
set_option maxHeartbeats 4000000 in
theorem diskKeeps_walk {w : World} {v kv : Value} {l : List Stp} {ks : List Int} (hst : StepsAt w w.heap.size v l) (hk : KeepAt w kv ks (fun b => b < w.heap.size)) (hkw : ∀ i, i64ok (ks.getD i 0)) :
    Calls Try.prog 3 #[v, kv] w (Holds w) := by
  have Hst := Lib.hid hst
  have Hk := Lib.hid (And.intro hk hkw)
  obtain ⟨ka, kc, hke, _, _, _⟩ := hk
  obtain ⟨va, vc, hve, hvl, _⟩ := hst
  clear hkw
  subst hke hve
  go_enter Try.func3, Try.ntmps3
  go_wp2_with fail
  refine (heavy_any Hst.out (Nat.le_refl _)).mono ?_
  rintro e w1 ⟨b, rfl, hb, hx1⟩
  have HX1 := Lib.hid hx1
  clear hx1
  by_cases hbig : b = true ∨ 100 < ks.length
  · by_cases hbt : b = true
    · subst hbt
      clear hb hbig
      go_wp2_with (go_at_call 8; refine (alive_any _).mono ?_; rintro e w2 ⟨rfl, hx2⟩)
      go_ret
      exact ⟨rfl, HX1.out.trans hx2⟩
    · have hbf : b = false := by simpa using hbt
      subst hbf
      have h100 : 100 < ks.length := by simpa using hbig
      clear hb hbig hbt
      go_wp2_with (go_at_call 8; refine (alive_any _).mono ?_; rintro e w2 ⟨rfl, hx2⟩)
      go_ret
      exact ⟨rfl, HX1.out.trans hx2⟩
  · obtain rfl : b = false := by
      cases b with
      | false => rfl
      | true => exact absurd (Or.inl rfl) hbig
    have h100 : ks.length ≤ 100 := by omega
    have hwt := hb rfl
    clear hb hbig
    go_wp2_with fail
    refine (new_ok _ 1048576 (by omega) (by omega)).mono ?_
    rintro e w2 ⟨rfl, hA2⟩
    have H2 := Lib.hid hA2
    clear hA2
    go_wp2_with fail
    refine (step_create H2.out (Dk.Ok.new (by omega) (by omega)) ⟨#[97]⟩ (by decide) (S' := ((Dk.new 1048576).create [97]).1) (r := 0) (by kernel_rfl)).mono ?_
    rintro e w3 ⟨rfl, hA3⟩
    have H3 := Lib.hid hA3
    clear hA3 H2
    go_wp2_with fail
    refine (step_create H3.out ((Dk.Ok.new (by omega) (by omega)).create _) ⟨#[98]⟩ (by decide) (S' := kd ByteArray.empty ByteArray.empty 0 0 false false) (r := 0) (by kernel_rfl)).mono ?_
    rintro e w4 ⟨rfl, hA4⟩
    have hsz0 := HX1.out.size
    have hinv : KInv w (((w4.alloc (.cells #[.string ByteArray.empty, .string ByteArray.empty] 31)).alloc (.cells #[.string ByteArray.empty, .string ByteArray.empty] 31)).alloc (.cells #[.bool false, .bool false] 32)) (w1.heap.size + 1) w4.heap.size (w4.heap.size + 1) (w4.heap.size + 2)
        (kd ByteArray.empty ByteArray.empty 0 0 false false) ByteArray.empty ByteArray.empty ByteArray.empty ByteArray.empty false false := by
      obtain ⟨fp, hd, hx, hs⟩ := hA4
      have hl := hd.lt
      have hsz := hx.size
      have hX4 : Ext (fun _ => False) w4 (((w4.alloc (.cells #[.string ByteArray.empty, .string ByteArray.empty] 31)).alloc (.cells #[.string ByteArray.empty, .string ByteArray.empty] 31)).alloc (.cells #[.bool false, .bool false] 32)) := ((Ext.alloc _ _ _).trans (Ext.alloc _ _ _)).trans (Ext.alloc _ _ _)
      have z1 : (w4.alloc (.cells #[.string ByteArray.empty, .string ByteArray.empty] 31)).heap.size = w4.heap.size + 1 := by simp
      have z2 : ((w4.alloc (.cells #[.string ByteArray.empty, .string ByteArray.empty] 31)).alloc (.cells #[.string ByteArray.empty, .string ByteArray.empty] 31)).heap.size = w4.heap.size + 2 := by simp
      refine { disk := ⟨fp, hd.keep hX4 (fun _ _ => id), fun b hb => ?_, fun hm => ?_, fun hm => ?_, fun hm => ?_⟩, ext := (HX1.out.trans (hx.mono (fun b h => by simp at h))).trans hX4, ha := ?_, hs := ?_, ho := ?_, la := by omega, ls := by omega, lo := by omega, nas := by omega, nao := by omega, nso := by omega }
      · rcases hs b hb with h | h
        · simp at h
        · omega
      · have := hl _ hm; omega
      · have := hl _ hm; omega
      · have := hl _ hm; omega
      · rw [Below.heap_alloc _ _ _ (by omega), Below.heap_alloc _ _ _ (by omega)]
        exact heap_new w4 _
      · rw [Below.heap_alloc _ _ _ (by omega), ← z1]
        exact heap_new _ _
      · rw [← z2]
        exact heap_new _ _
    have HI := Lib.hid hinv
    clear hinv hA4 H3 hsz0 HX1
    have HR := Lib.hid (show KRel w _ _ _ _ _ l 0 from ⟨_, _, _, _, _, _, HI.out, by simp [wts], Nat.le_refl _, Nat.le_refl _⟩)
    clear HI
    go_wp2_with fail
    generalize w1.heap.size + 1 = d at *
    rw [show w4.heap.size + 1 + 1 = w4.heap.size + 2 from rfl]
    generalize w4.heap.size + 2 = qo at *
    generalize w4.heap.size + 1 = qs at *
    generalize w4.heap.size = qa at *
    go_loopw [10] (fun i wr => ∃ k : Nat, k ≤ l.length ∧ i = .int .i64 k ∧ Hid (KRel w wr d qa qs qo l k)) (fun i _ => l.length - (intOf i).toNat)
    case atStart => exact ⟨0, Nat.zero_le _, rfl, HR.out⟩
    case round =>
      clear HR
      obtain ⟨k, hk, rfl, hrel⟩ := hrel
      obtain ⟨A0, A1, Y0, Y1, o0, o1, hi, hA, hY0, hY1⟩ := hrel.out
      by_cases hlt : k < l.length ∧ k < 60
      · obtain ⟨hlt, h60⟩ := hlt
        have hw1 := wts_take_le l (k + 1)
        have hw2 := wts_succ l hlt
        obtain ⟨a2, c2, e2, hl2, hst⟩ := Hst.out
        simp only [Value.slice.injEq] at e2
        obtain ⟨rfl, -, rfl⟩ := e2
        rcases hst with h0 | ⟨b, o, rfl, hbB, hst⟩
        · omega
        have hs0 := hst k hlt
        have hs := hs0.later hbB (Below.of_ext hi.ext)
        unfold wt at hw2
        have c0 := hs.c0
        have c2 := hs.c2
        have c3 := hs.c3
        have hbs := hs.hb
        have hand := i64_and1 (l.getD k default).n
        have hS := Lib.hid hs0
        clear hs0
        generalize l.getD k default = s at *
        have hts : s.bytes.size ≤ 32768 := by omega
        have hroom : A0.size + A1.size + s.bytes.size ≤ 32768 := by omega
        have hA0 : A0.size ≤ 32768 := by omega
        have hA1 : A1.size ≤ 32768 := by omega
        have hok : (kd A0 A1 Y0.size Y1.size o0 o1).Ok 0 := kd_ok o0 o1 (by omega) hY0 hY1
        have HW := Lib.hid hw2
        have a0 : wr.cell? ⟨qa, 0, none⟩ = some (.string A0) := by simp [World.cell?, hi.ha]
        have a1 : wr.cell? ⟨qa, 1, none⟩ = some (.string A1) := by simp [World.cell?, hi.ha]
        have y0 : wr.cell? ⟨qs, 0, none⟩ = some (.string Y0) := by simp [World.cell?, hi.hs]
        have y1 : wr.cell? ⟨qs, 1, none⟩ = some (.string Y1) := by simp [World.cell?, hi.hs]
        have p0 : wr.cell? ⟨qo, 0, none⟩ = some (.bool o0) := by simp [World.cell?, hi.ho]
        have p1 : wr.cell? ⟨qo, 1, none⟩ = some (.bool o1) := by simp [World.cell?, hi.ho]
        have C0 := fun ob => cell_alloc ob c0
        have C2 := fun ob => cell_alloc ob c2
        have HII := Lib.hid hi
        have HOK := Lib.hid hok
        clear hst hs hrel hi hok hw1 hw2
        rcases Int.emod_two_eq s.n with hmod | hmod
        · rw [hmod] at hand
          have HM := Lib.hid hmod
          clear hmod
          by_cases hact : s.act = 1
          · have ht : ((s.act : Int) == 1) = true := by simp [hact]
            have HT := Lib.hid hact
            clear hact
            go_wp2_with fail
            refine (KInv.sync (HII.out.alloc _) HOK.out ⟨#[97]⟩ (by decide) (kd_sync0 A0 A1 Y0.size Y1.size o0 o1)).mono ?_
            rintro e w5 ⟨rfl, hi5⟩
            have HI5 := Lib.hid hi5
            have b0 : w5.cell? ⟨qa, 0, none⟩ = some (.string A0) := by simp [World.cell?, hi5.ha]
            have b1 : w5.cell? ⟨qs, 0, none⟩ = some (.string Y0) := by simp [World.cell?, hi5.hs]
            have b2 : w5.cell? ⟨qo, 0, none⟩ = some (.bool o0) := by simp [World.cell?, hi5.ho]
            have fs : w5.frozen? ⟨qs, 0, none⟩ = false := by simp [World.frozen?, hi5.hs]
            have fo : w5.frozen? ⟨qo, 0, none⟩ = false := by simp [World.frozen?, hi5.ho]
            have nso := hi5.nso
            clear hi5 a0 a1 y0 y1 p0 p1 c0 c2 c3 C0 C2
            go_wp2_with fail
            go_roundw
            case rel =>
              refine ⟨k + 1, by omega, by go_num, ?_⟩
              have g := HI5.out
              have g1 := g.set (q := qs) (o := 0) (v := .string A0) (Or.inr (Or.inl rfl)) ((heap_set_other g.nas).trans g.ha) ((heap_set_same g.hs).trans rfl) ((heap_set_other (Ne.symm g.nso)).trans g.ho)
              have g2 := g1.set (q := qo) (o := 0) (v := .bool true) (Or.inr (Or.inr rfl)) ((heap_set_other g1.nao).trans g1.ha) ((heap_set_other g1.nso).trans g1.hs) ((heap_set_same g1.ho).trans rfl)
              exact ⟨A0, A1, A0, Y1, true, o1, g2, by rw [HW.out]; omega, by first | exact Nat.le_refl _ | exact hY0, by first | exact Nat.le_refl _ | exact hY1⟩
            case measure => simp [intOf]; omega
          · have ht : ((s.act : Int) == 1) = false := by simp [hact]
            have HT := Lib.hid hact
            clear hact
            go_wp2_with fail
            refine (KInv.append (HII.out.alloc _) HOK.out ⟨#[97]⟩ s.bytes (by decide) hbs (kd_append0 s.bytes (by omega))).mono ?_
            rintro e w5 ⟨rfl, hi5⟩
            have HI5 := Lib.hid hi5
            have b0 : w5.cell? ⟨qa, 0, none⟩ = some (.string A0) := by simp [World.cell?, hi5.ha]
            have fa : w5.frozen? ⟨qa, 0, none⟩ = false := by simp [World.frozen?, hi5.ha]
            have d2 := (hS.out.later hbB (Below.of_ext hi5.ext)).c2
            clear hi5 a0 a1 y0 y1 p0 p1 c0 c2 c3 C0 C2
            go_wp2_with fail
            have hadd := fun (w : World) => run_string_add_sum (P := Try.prog) (w := w) A0 s.bytes (by omega)
            go_still_tail 11, (by kernel_rfl)
            go_wp2_with fail
            go_roundw
            case rel =>
              refine ⟨k + 1, by omega, by go_num, ?_⟩
              have g := HI5.out
              have g1 := g.set (q := qa) (o := 0) (v := .string (A0 ++ s.bytes)) (Or.inl rfl) ((heap_set_same g.ha).trans rfl) ((heap_set_other (Ne.symm g.nas)).trans g.hs) ((heap_set_other (Ne.symm g.nao)).trans g.ho)
              have g2 := g1.quiet (Ext.drew _ _)
              exact ⟨(A0 ++ s.bytes), A1, Y0, Y1, o0, o1, g2, by rw [HW.out]; simp only [ByteArray.size_append]; omega, by simp only [ByteArray.size_append]; omega, by omega⟩
            case measure => simp [intOf]; omega
        · rw [hmod] at hand
          have HM := Lib.hid hmod
          clear hmod
          by_cases hact : s.act = 1
          · have ht : ((s.act : Int) == 1) = true := by simp [hact]
            have HT := Lib.hid hact
            clear hact
            go_wp2_with fail
            refine (KInv.sync (HII.out.alloc _) HOK.out ⟨#[98]⟩ (by decide) (kd_sync1 A0 A1 Y0.size Y1.size o0 o1)).mono ?_
            rintro e w5 ⟨rfl, hi5⟩
            have HI5 := Lib.hid hi5
            have b0 : w5.cell? ⟨qa, 1, none⟩ = some (.string A1) := by simp [World.cell?, hi5.ha]
            have b1 : w5.cell? ⟨qs, 1, none⟩ = some (.string Y1) := by simp [World.cell?, hi5.hs]
            have b2 : w5.cell? ⟨qo, 1, none⟩ = some (.bool o1) := by simp [World.cell?, hi5.ho]
            have fs : w5.frozen? ⟨qs, 1, none⟩ = false := by simp [World.frozen?, hi5.hs]
            have fo : w5.frozen? ⟨qo, 1, none⟩ = false := by simp [World.frozen?, hi5.ho]
            have nso := hi5.nso
            clear hi5 a0 a1 y0 y1 p0 p1 c0 c2 c3 C0 C2
            go_wp2_with fail
            go_roundw
            case rel =>
              refine ⟨k + 1, by omega, by go_num, ?_⟩
              have g := HI5.out
              have g1 := g.set (q := qs) (o := 1) (v := .string A1) (Or.inr (Or.inl rfl)) ((heap_set_other g.nas).trans g.ha) ((heap_set_same g.hs).trans rfl) ((heap_set_other (Ne.symm g.nso)).trans g.ho)
              have g2 := g1.set (q := qo) (o := 1) (v := .bool true) (Or.inr (Or.inr rfl)) ((heap_set_other g1.nao).trans g1.ha) ((heap_set_other g1.nso).trans g1.hs) ((heap_set_same g1.ho).trans rfl)
              exact ⟨A0, A1, Y0, A1, o0, true, g2, by rw [HW.out]; omega, by first | exact Nat.le_refl _ | exact hY0, by first | exact Nat.le_refl _ | exact hY1⟩
            case measure => simp [intOf]; omega
          · have ht : ((s.act : Int) == 1) = false := by simp [hact]
            have HT := Lib.hid hact
            clear hact
            go_wp2_with fail
            refine (KInv.append (HII.out.alloc _) HOK.out ⟨#[98]⟩ s.bytes (by decide) hbs (kd_append1 s.bytes (by omega))).mono ?_
            rintro e w5 ⟨rfl, hi5⟩
            have HI5 := Lib.hid hi5
            have b0 : w5.cell? ⟨qa, 1, none⟩ = some (.string A1) := by simp [World.cell?, hi5.ha]
            have fa : w5.frozen? ⟨qa, 1, none⟩ = false := by simp [World.frozen?, hi5.ha]
            have d2 := (hS.out.later hbB (Below.of_ext hi5.ext)).c2
            clear hi5 a0 a1 y0 y1 p0 p1 c0 c2 c3 C0 C2
            go_wp2_with fail
            have hadd := fun (w : World) => run_string_add_sum (P := Try.prog) (w := w) A1 s.bytes (by omega)
            go_still_tail 11, (by kernel_rfl)
            go_wp2_with fail
            go_roundw
            case rel =>
              refine ⟨k + 1, by omega, by go_num, ?_⟩
              have g := HI5.out
              have g1 := g.set (q := qa) (o := 1) (v := .string (A1 ++ s.bytes)) (Or.inl rfl) ((heap_set_same g.ha).trans rfl) ((heap_set_other (Ne.symm g.nas)).trans g.hs) ((heap_set_other (Ne.symm g.nao)).trans g.ho)
              have g2 := g1.quiet (Ext.drew _ _)
              exact ⟨A0, (A1 ++ s.bytes), Y0, Y1, o0, o1, g2, by rw [HW.out]; simp only [ByteArray.size_append]; omega, by omega, by simp only [ByteArray.size_append]; omega⟩
            case measure => simp [intOf]; omega
      · have hend : (k < l.length ∧ 60 ≤ k) ∨ ¬ k < l.length := by omega
        have hwl := wts_take_le l k
        have hok : (kd A0 A1 Y0.size Y1.size o0 o1).Ok 0 := kd_ok o0 o1 (by omega) hY0 hY1
        have hfa := crash_find (kd A0 A1 Y0.size Y1.size o0 o1).files ks ⟨[97], A0, Y0.size, !o0⟩ (by simp [kd]) hok.rising hY0
        have hfb := crash_find (kd A0 A1 Y0.size Y1.size o0 o1).files ks ⟨[98], A1, Y1.size, !o1⟩ (by simp [kd]) hok.rising hY1
        have hsA0 : A0.size ≤ 32768 := by omega
        have hsA1 : A1.size ≤ 32768 := by omega
        have HOK := Lib.hid hok
        have HC := Lib.hid (hi.crash hok Hk.out.1 Hk.out.2)
        have HF := Lib.hid (And.intro hfa hfb)
        clear hi hrel hwl hok hA hfa hfb hwt
        clear hlt
        rcases hend with ⟨hend1, hend2⟩ | hend1
        all_goals
          go_wp2_with fail
          refine HC.out.mono ?_
          rintro e w5 ⟨rfl, hi5⟩
          have hok5 := HOK.out.crash ks
          obtain ⟨hfa, hfb⟩ := HF.out
          have e5 : ((kd A0 A1 Y0.size Y1.size o0 o1).crash ks).files = crashF (kd A0 A1 Y0.size Y1.size o0 o1).files ks := rfl
          rw [← e5] at hfa hfb
          clear e5
          generalize (kd A0 A1 Y0.size Y1.size o0 o1).crash ks = S5 at *
          have a0 : w5.cell? ⟨qa, 0, none⟩ = some (.string A0) := by simp [World.cell?, hi5.ha]
          have a1 : w5.cell? ⟨qa, 1, none⟩ = some (.string A1) := by simp [World.cell?, hi5.ha]
          have y0 : w5.cell? ⟨qs, 0, none⟩ = some (.string Y0) := by simp [World.cell?, hi5.hs]
          have y1 : w5.cell? ⟨qs, 1, none⟩ = some (.string Y1) := by simp [World.cell?, hi5.hs]
          have p0 : w5.cell? ⟨qo, 0, none⟩ = some (.bool o0) := by simp [World.cell?, hi5.ho]
          have p1 : w5.cell? ⟨qo, 1, none⟩ = some (.bool o1) := by simp [World.cell?, hi5.ho]
          have HI5 := Lib.hid (And.intro hi5 hok5)
          clear hi5 hok5 HC HF HOK
          go_wp2_with fail
          have ra : (S5.read [97] = (ByteArray.empty, 5) ∧ o0 = false) ∨ ∃ G : ByteArray, S5.read [97] = (G, 0) ∧ S5.loose [97] = 0 ∧ Y0.size ≤ G.size ∧ G.size ≤ A0.size ∧ (G.toList == (A0.extract 0 G.size).toList) = true := by
            rcases hfa with ⟨hf, ho⟩ | ⟨g, hf, h1, h2, h3, h4⟩
            · exact Or.inl ⟨by simp only [Dk.read, hf], by simpa using ho⟩
            · exact Or.inr ⟨g.bytes, by simp only [Dk.read, hf], by simp only [Dk.loose, hf, h1]; omega, h2, h3, by rw [beq_iff_eq]; exact congrArg ByteArray.toList h4⟩
          have rb : (S5.read [98] = (ByteArray.empty, 5) ∧ o1 = false) ∨ ∃ G : ByteArray, S5.read [98] = (G, 0) ∧ S5.loose [98] = 0 ∧ Y1.size ≤ G.size ∧ G.size ≤ A1.size ∧ (G.toList == (A1.extract 0 G.size).toList) = true := by
            rcases hfb with ⟨hf, ho⟩ | ⟨g, hf, h1, h2, h3, h4⟩
            · exact Or.inl ⟨by simp only [Dk.read, hf], by simpa using ho⟩
            · exact Or.inr ⟨g.bytes, by simp only [Dk.read, hf], by simp only [Dk.loose, hf, h1]; omega, h2, h3, by rw [beq_iff_eq]; exact congrArg ByteArray.toList h4⟩
          clear hfa hfb
          have RB := Lib.hid rb
          clear rb
          refine wp_loop_rounds 3 ?_
          rw [rounds_succ]
          have HOK5 := Lib.hid HI5.out.2
          have HI := Lib.hid HI5.out.1
          clear HI5
          rcases ra with ⟨ra, rfl⟩ | ⟨G, ra, rl, rg1, rg2, rg3⟩
          · have RA := Lib.hid ra
            clear ra a0 a1 y0 y1 p0 p1
            go_wp2_with fail
            refine ((HI.out.alloc _).read' ⟨#[97]⟩ (by decide) RA.out).mono ?_
            rintro e w6 ⟨rfl, hi6⟩
            have HI6 := Lib.hid hi6
            clear hi6
            have a0 : w6.cell? ⟨qa, 0, none⟩ = some (.string A0) := by simp [World.cell?, HI6.out.ha]
            have a1 : w6.cell? ⟨qa, 1, none⟩ = some (.string A1) := by simp [World.cell?, HI6.out.ha]
            have y0 : w6.cell? ⟨qs, 0, none⟩ = some (.string Y0) := by simp [World.cell?, HI6.out.hs]
            have y1 : w6.cell? ⟨qs, 1, none⟩ = some (.string Y1) := by simp [World.cell?, HI6.out.hs]
            have p0 : w6.cell? ⟨qo, 0, none⟩ = some (.bool false) := by simp [World.cell?, HI6.out.ho]
            have p1 : w6.cell? ⟨qo, 1, none⟩ = some (.bool o1) := by simp [World.cell?, HI6.out.ho]
            go_wp2_with fail
            rw [rounds_succ]
            rcases RB.out with ⟨rb, rfl⟩ | ⟨G2, rb, rl2, rh1, rh2, rh3⟩
            · have RB2 := Lib.hid rb
              clear rb RB
              go_wp2_with fail
              refine ((HI6.out.alloc _).read' ⟨#[98]⟩ (by decide) RB2.out).mono ?_
              rintro e w8 ⟨rfl, hi8⟩
              have a0 : w8.cell? ⟨qa, 0, none⟩ = some (.string A0) := by simp [World.cell?, hi8.ha]
              have a1 : w8.cell? ⟨qa, 1, none⟩ = some (.string A1) := by simp [World.cell?, hi8.ha]
              have y0 : w8.cell? ⟨qs, 0, none⟩ = some (.string Y0) := by simp [World.cell?, hi8.hs]
              have y1 : w8.cell? ⟨qs, 1, none⟩ = some (.string Y1) := by simp [World.cell?, hi8.hs]
              have p0 : w8.cell? ⟨qo, 0, none⟩ = some (.bool false) := by simp [World.cell?, hi8.ho]
              have p1 : w8.cell? ⟨qo, 1, none⟩ = some (.bool false) := by simp [World.cell?, hi8.ho]
              have HI8 := Lib.hid hi8
              clear hi8 a0 a1 y0 y1 p0 p1
              have a0 : w8.cell? ⟨qa, 0, none⟩ = some (.string A0) := by simp [World.cell?, HI8.out.ha]
              have a1 : w8.cell? ⟨qa, 1, none⟩ = some (.string A1) := by simp [World.cell?, HI8.out.ha]
              have y0 : w8.cell? ⟨qs, 0, none⟩ = some (.string Y0) := by simp [World.cell?, HI8.out.hs]
              have y1 : w8.cell? ⟨qs, 1, none⟩ = some (.string Y1) := by simp [World.cell?, HI8.out.hs]
              have p0 : w8.cell? ⟨qo, 0, none⟩ = some (.bool false) := by simp [World.cell?, HI8.out.ho]
              have p1 : w8.cell? ⟨qo, 1, none⟩ = some (.bool false) := by simp [World.cell?, HI8.out.ho]
              go_wp2_with fail
              rw [rounds_succ]
              go_wp2_with (go_at_call 8; refine (alive_any _).mono ?_; rintro e w9 ⟨rfl, hx9⟩)
              go_ret
              exact ⟨rfl, HI8.out.ext.trans hx9⟩
            · have RB2 := Lib.hid (And.intro rb rl2)
              clear rb rl2 RB
              go_wp2_with fail
              refine ((HI6.out.alloc _).read' ⟨#[98]⟩ (by decide) RB2.out.1).mono ?_
              rintro e w8 ⟨rfl, hi8⟩
              have HI8 := Lib.hid hi8
              clear hi8 a0 a1 y0 y1 p0 p1
              have a0 : w8.cell? ⟨qa, 0, none⟩ = some (.string A0) := by simp [World.cell?, HI8.out.ha]
              have a1 : w8.cell? ⟨qa, 1, none⟩ = some (.string A1) := by simp [World.cell?, HI8.out.ha]
              have y0 : w8.cell? ⟨qs, 0, none⟩ = some (.string Y0) := by simp [World.cell?, HI8.out.hs]
              have y1 : w8.cell? ⟨qs, 1, none⟩ = some (.string Y1) := by simp [World.cell?, HI8.out.hs]
              have p0 : w8.cell? ⟨qo, 0, none⟩ = some (.bool false) := by simp [World.cell?, HI8.out.ho]
              have p1 : w8.cell? ⟨qo, 1, none⟩ = some (.bool o1) := by simp [World.cell?, HI8.out.ho]
              go_wp2_with fail
              refine (HI8.out.loose HOK5.out ⟨#[98]⟩ (by decide) RB2.out.2).mono ?_
              rintro e w9 ⟨rfl, hi9⟩
              have HI9 := Lib.hid hi9
              clear hi9 a0 a1 y0 y1 p0 p1
              go_wp2_with fail
              rw [rounds_succ]
              go_wp2_with (go_at_call 8; refine (alive_any _).mono ?_; rintro e w10 ⟨rfl, hx10⟩)
              go_ret
              exact ⟨rfl, HI9.out.ext.trans hx10⟩
          · have RA := Lib.hid (And.intro ra rl)
            clear ra rl a0 a1 y0 y1 p0 p1
            go_wp2_with fail
            refine ((HI.out.alloc _).read' ⟨#[97]⟩ (by decide) RA.out.1).mono ?_
            rintro e w6 ⟨rfl, hi6⟩
            have HI6 := Lib.hid hi6
            clear hi6
            have a0 : w6.cell? ⟨qa, 0, none⟩ = some (.string A0) := by simp [World.cell?, HI6.out.ha]
            have a1 : w6.cell? ⟨qa, 1, none⟩ = some (.string A1) := by simp [World.cell?, HI6.out.ha]
            have y0 : w6.cell? ⟨qs, 0, none⟩ = some (.string Y0) := by simp [World.cell?, HI6.out.hs]
            have y1 : w6.cell? ⟨qs, 1, none⟩ = some (.string Y1) := by simp [World.cell?, HI6.out.hs]
            have p0 : w6.cell? ⟨qo, 0, none⟩ = some (.bool o0) := by simp [World.cell?, HI6.out.ho]
            have p1 : w6.cell? ⟨qo, 1, none⟩ = some (.bool o1) := by simp [World.cell?, HI6.out.ho]
            go_wp2_with fail
            refine (HI6.out.loose HOK5.out ⟨#[97]⟩ (by decide) RA.out.2).mono ?_
            rintro e w7 ⟨rfl, hi7⟩
            have HI7 := Lib.hid hi7
            clear hi7 a0 a1 y0 y1 p0 p1
            have a0 : w7.cell? ⟨qa, 0, none⟩ = some (.string A0) := by simp [World.cell?, HI7.out.ha]
            have a1 : w7.cell? ⟨qa, 1, none⟩ = some (.string A1) := by simp [World.cell?, HI7.out.ha]
            have y0 : w7.cell? ⟨qs, 0, none⟩ = some (.string Y0) := by simp [World.cell?, HI7.out.hs]
            have y1 : w7.cell? ⟨qs, 1, none⟩ = some (.string Y1) := by simp [World.cell?, HI7.out.hs]
            have p0 : w7.cell? ⟨qo, 0, none⟩ = some (.bool o0) := by simp [World.cell?, HI7.out.ho]
            have p1 : w7.cell? ⟨qo, 1, none⟩ = some (.bool o1) := by simp [World.cell?, HI7.out.ho]
            go_wp2_with fail
            rw [rounds_succ]
            rcases RB.out with ⟨rb, rfl⟩ | ⟨G2, rb, rl2, rh1, rh2, rh3⟩
            · have RB2 := Lib.hid rb
              clear rb RB
              go_wp2_with fail
              refine ((HI7.out.alloc _).read' ⟨#[98]⟩ (by decide) RB2.out).mono ?_
              rintro e w8 ⟨rfl, hi8⟩
              have a0 : w8.cell? ⟨qa, 0, none⟩ = some (.string A0) := by simp [World.cell?, hi8.ha]
              have a1 : w8.cell? ⟨qa, 1, none⟩ = some (.string A1) := by simp [World.cell?, hi8.ha]
              have y0 : w8.cell? ⟨qs, 0, none⟩ = some (.string Y0) := by simp [World.cell?, hi8.hs]
              have y1 : w8.cell? ⟨qs, 1, none⟩ = some (.string Y1) := by simp [World.cell?, hi8.hs]
              have p0 : w8.cell? ⟨qo, 0, none⟩ = some (.bool o0) := by simp [World.cell?, hi8.ho]
              have p1 : w8.cell? ⟨qo, 1, none⟩ = some (.bool false) := by simp [World.cell?, hi8.ho]
              have HI8 := Lib.hid hi8
              clear hi8 a0 a1 y0 y1 p0 p1
              have a0 : w8.cell? ⟨qa, 0, none⟩ = some (.string A0) := by simp [World.cell?, HI8.out.ha]
              have a1 : w8.cell? ⟨qa, 1, none⟩ = some (.string A1) := by simp [World.cell?, HI8.out.ha]
              have y0 : w8.cell? ⟨qs, 0, none⟩ = some (.string Y0) := by simp [World.cell?, HI8.out.hs]
              have y1 : w8.cell? ⟨qs, 1, none⟩ = some (.string Y1) := by simp [World.cell?, HI8.out.hs]
              have p0 : w8.cell? ⟨qo, 0, none⟩ = some (.bool o0) := by simp [World.cell?, HI8.out.ho]
              have p1 : w8.cell? ⟨qo, 1, none⟩ = some (.bool false) := by simp [World.cell?, HI8.out.ho]
              go_wp2_with fail
              rw [rounds_succ]
              go_wp2_with (go_at_call 8; refine (alive_any _).mono ?_; rintro e w9 ⟨rfl, hx9⟩)
              go_ret
              exact ⟨rfl, HI8.out.ext.trans hx9⟩
            · have RB2 := Lib.hid (And.intro rb rl2)
              clear rb rl2 RB
              go_wp2_with fail
              refine ((HI7.out.alloc _).read' ⟨#[98]⟩ (by decide) RB2.out.1).mono ?_
              rintro e w8 ⟨rfl, hi8⟩
              have HI8 := Lib.hid hi8
              clear hi8 a0 a1 y0 y1 p0 p1
              have a0 : w8.cell? ⟨qa, 0, none⟩ = some (.string A0) := by simp [World.cell?, HI8.out.ha]
              have a1 : w8.cell? ⟨qa, 1, none⟩ = some (.string A1) := by simp [World.cell?, HI8.out.ha]
              have y0 : w8.cell? ⟨qs, 0, none⟩ = some (.string Y0) := by simp [World.cell?, HI8.out.hs]
              have y1 : w8.cell? ⟨qs, 1, none⟩ = some (.string Y1) := by simp [World.cell?, HI8.out.hs]
              have p0 : w8.cell? ⟨qo, 0, none⟩ = some (.bool o0) := by simp [World.cell?, HI8.out.ho]
              have p1 : w8.cell? ⟨qo, 1, none⟩ = some (.bool o1) := by simp [World.cell?, HI8.out.ho]
              go_wp2_with fail
              refine (HI8.out.loose HOK5.out ⟨#[98]⟩ (by decide) RB2.out.2).mono ?_
              rintro e w9 ⟨rfl, hi9⟩
              have HI9 := Lib.hid hi9
              clear hi9 a0 a1 y0 y1 p0 p1
              go_wp2_with fail
              rw [rounds_succ]
              go_wp2_with (go_at_call 8; refine (alive_any _).mono ?_; rintro e w10 ⟨rfl, hx10⟩)
              go_ret
              exact ⟨rfl, HI9.out.ext.trans hx10⟩
end Go.Proofs.Ytbopfdbenjnipaa
