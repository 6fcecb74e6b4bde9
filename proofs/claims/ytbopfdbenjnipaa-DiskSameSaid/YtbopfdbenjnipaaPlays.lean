/- DiskPlays (4) returns true: the walk. -/
import Derived.Test.YtbopfdbenjnipaaDoes7
import Derived.Test.YtbopfdbenjnipaaAlive
namespace Go.Proofs.Ytbopfdbenjnipaa
set_option maxRecDepth 100000
open Go.RowKit Go.Maps Go.Sort
def Holds (w : World) (e : Ending) (w' : World) : Prop := e = .returned (.bool true) ∧ Ext (fun _ => False) w w'
variable {w0 w : World} {d c x : Nat} {S Sc : Dk} {R : Rf} {fp fc fq : List Nat}
/-- A disk, its copy, and the reference's. -/
structure MidAt (w0 w : World) (d c x : Nat) (K : Nat) (S Sc : Dk) (R : Rf) (fp fc fq : List Nat) : Prop where
  disk : DiskAt w d S fp
  cop : DiskAt w c Sc fc
  ref : RefAt w x R fq
  npc : ∀ b ∈ fp, b ∉ fc
  npq : ∀ b ∈ fp, b ∉ fq
  ncq : ∀ b ∈ fc, b ∉ fq
  sim : Sim Sc R.copy
  ok : S.Ok K
  okc : Sc.Ok 0
  named : Sc.Named
  hp : ∀ b ∈ fp, w0.heap.size ≤ b
  hc : ∀ b ∈ fc, w0.heap.size ≤ b
  hq : ∀ b ∈ fq, w0.heap.size ≤ b
  ext : Ext (fun _ => False) w0 w
theorem DuoAt.copy {K : Nat} (h : DuoAt w0 w d x K S R fp fq) : Calls Try.prog 17 #[.pointer (some ⟨d, 0, none⟩)] w fun e w' => ∃ c fc, e = .returned (.pointer (some ⟨c, 0, none⟩)) ∧ MidAt w0 w' d c x K S S.copy R fp fc fq := by
  refine (copy_any h.both.hd h.ok).mono ?_
  rintro e w' ⟨c, fc, rfl, hd, hb, hn⟩
  have hx : Ext (fun _ => False) w w' := Ext.of_below hb (Nat.le_refl _) _
  have h' := h.quiet hx
  have z := h.ext.size
  have l1 := h.both.hd.lt
  have l2 := h.both.hr.lt
  exact ⟨c, fc, rfl, { disk := h'.both.hd, cop := hd, ref := h'.both.hr, npc := (fun b h1 h2 => by have := l1 b h1; have := hn b h2; omega), npq := h.both.hn, ncq := (fun b h1 h2 => by have := l2 b h2; have := hn b h1; omega), sim := h.sim.copy, ok := h.ok, okc := h.ok.copy, named := h.named, hp := h.hp, hc := (fun b hb => by have := hn b hb; omega), hq := h.hq, ext := h'.ext }⟩
theorem MidAt.after {K K' : Nat} {S' : Dk} {w' : World} (h : MidAt w0 w d c x K S Sc R fp fc fq) (hA : After w d fp S' w') (ho : S'.Ok K') : ∃ fp', MidAt w0 w' d c x K' S' Sc R fp' fc fq := by
  obtain ⟨fp', hd, hx, hs⟩ := hA
  have z := h.ext.size
  have l1 := h.cop.lt
  have l2 := h.ref.lt
  refine ⟨fp', { h with disk := hd, cop := h.cop.keep hx (fun b h1 h2 => h.npc b h2 h1), ref := h.ref.keep hx (fun b h1 h2 => h.npq b h2 h1), npc := fun b h1 h2 => ?_, npq := fun b h1 h2 => ?_, ok := ho, hp := fun b hb => ?_, ext := h.ext.trans' hx fun i hi => Or.inr (h.hp i hi) }⟩
  · rcases hs b h1 with h' | h'
    · exact h.npc b h' h2
    · have := l1 b h2; omega
  · rcases hs b h1 with h' | h'
    · exact h.npq b h' h2
    · have := l2 b h2; omega
  · rcases hs b hb with h' | h'
    · exact h.hp b h'
    · omega
theorem MidAt.done {K : Nat} {w' : World} (h : MidAt w0 w d c x K S Sc R fp fc fq) (hA : RAfter w x fq R.copy w') : ∃ fq', DuoAt w0 w' c x 0 Sc R.copy fc fq' := by
  obtain ⟨fq', hr, hx, hs⟩ := hA
  have z := h.ext.size
  have l1 := h.cop.lt
  refine ⟨fq', { both := ⟨h.cop.keep hx (fun b h1 h2 => h.ncq b h1 h2), hr, fun b h1 h2 => ?_⟩, sim := h.sim, ok := h.okc, named := h.named, hp := h.hc, hq := fun b hb => ?_, ext := h.ext.trans' hx fun i hi => Or.inr (h.hq i hi) }⟩
  · rcases hs b h2 with h' | h'
    · exact h.ncq b h1 h'
    · have := l1 b h1; omega
  · rcases hs b hb with h' | h'
    · exact h.hq b h'
    · omega
theorem rfails00 (R : Rf) : R.fails 0 0 = (R.copy, 0) := rfl
theorem Duo.mono {K K' : Nat} (h : Duo w0 w d x K) (hk : K ≤ K') : Duo w0 w d x K' := by
  obtain ⟨S, R, fp, fq, h⟩ := h; exact ⟨S, R, fp, fq, { h with ok := h.ok.mono hk }⟩
set_option maxHeartbeats 4000000 in
theorem diskPlays_walk {w : World} {v : Value} {l : List Stp} {room : Int} (hst : StepsAt w w.heap.size v l) : Calls Try.prog 4 #[.int .i64 room, v] w (Holds w) := by
  have Hst := Lib.hid hst
  obtain ⟨va, vc, hve, hvl, _⟩ := hst
  subst hve
  go_enter Try.func4, Try.ntmps4
  go_wp2_with fail
  refine (heavy_any Hst.out (Nat.le_refl _)).mono ?_
  rintro e w1 ⟨b, rfl, hb, hx1⟩
  have HX1 := Lib.hid hx1
  clear hx1
  cases b with
  | true =>
    clear hb
    go_wp2_with (go_at_call 8; refine (alive_any _).mono ?_; rintro e w2 ⟨rfl, hx2⟩)
    go_ret
    exact ⟨rfl, HX1.out.trans hx2⟩
  | false =>
    clear hb
    by_cases hroom : room < 1 ∨ 1048576 < room
    · go_wp2_with (first
        | (go_at_call 9; refine (new_bad _ room hroom).mono ?_; rintro e w2 ⟨rfl, rfl⟩)
        | (go_at_call 16; refine (rnew_bad _ room hroom).mono ?_; rintro e w2 ⟨rfl, rfl⟩)
        | (go_at_call 8; refine (alive_any _).mono ?_; rintro e w2 ⟨rfl, hx2⟩))
      go_ret
      exact ⟨rfl, HX1.out.trans hx2⟩
    · have hr1 : 1 ≤ room := by omega
      have hr2 : room ≤ 1048576 := by omega
      have HRm := Lib.hid (And.intro hr1 hr2)
      clear hroom hr1 hr2
      go_wp2_with fail
      refine (new_ok _ room HRm.out.1 HRm.out.2).mono ?_
      rintro e w2 ⟨rfl, hA2⟩
      have H2 := Lib.hid hA2
      clear hA2
      go_wp2_with fail
      refine (rnew_ok _ room HRm.out.1 HRm.out.2).mono ?_
      rintro e w3 ⟨rfl, hA3⟩
      have HD := Lib.hid (DuoAt.new HRm.out.1 HRm.out.2 HX1.out H2.out hA3)
      clear hA3 H2 HX1
      go_wp2_with fail
      generalize w1.heap.size + 1 = d at *
      generalize w2.heap.size = x at *
      go_loopw [5, 9] (fun dv i wr => ∃ (k : Nat) (d : Nat), k ≤ l.length ∧ i = .int .i64 k ∧ dv = .pointer (some ⟨d, 0, none⟩) ∧ Hid (Duo w wr d x k)) (fun _ i _ => l.length - (intOf i).toNat)
      case atStart => exact ⟨0, d, Nat.zero_le _, rfl, rfl, HD.out⟩
      case round =>
        clear HD
        obtain ⟨k, d, hk, rfl, rfl, hduo⟩ := hrel
        by_cases hlt : k < l.length ∧ k < 60
        · obtain ⟨hlt, h60⟩ := hlt
          obtain ⟨a2, c2, e2, hl2, hst⟩ := Hst.out
          simp only [Value.slice.injEq] at e2
          obtain ⟨rfl, -, rfl⟩ := e2
          rcases hst with h0 | ⟨b, o, rfl, hbB, hst⟩
          · omega
          have hs0 := hst k hlt
          obtain ⟨S, R, fp, fq, hD⟩ := hduo.out
          have hs := hs0.later hbB (Below.of_ext hD.ext)
          have c0 := hs.c0
          have c1 := hs.c1
          have c2 := hs.c2
          have c3 := hs.c3
          have c4 := hs.c4
          have c5 := hs.c5
          have hbs := hs.hn
          have HS := Lib.hid hs0
          have HD := Lib.hid hD
          clear hs hst hs0 hD hduo
          generalize l.getD k default = s at *
          by_cases h8 : s.act = 8
          · have ht : ((s.act : Int) == 8) = true := by simp [h8]
            clear h8 c2 c3 c4 c5
            have hnm : s.name.size ≤ maxLen := by unfold maxLen; omega
            have HNm := Lib.hid hnm
            clear hnm
            go_wp2_with (first
              | (go_at_call 17; refine HD.out.copy.mono ?_; rintro e w5 ⟨c, fc, rfl, hM⟩; have c1' := (HS.out.later hbB (Below.of_ext hM.ext)).c1; have HM := Lib.hid hM; clear hM)
              | (go_at_call 12; refine (append_any HM.out.disk HM.out.ok (by omega) s.name ⟨#[120]⟩ HNm.out (by decide)).mono ?_; rintro e w6 ⟨rfl, hA⟩; obtain ⟨fp6, hM6⟩ := HM.out.after hA (HM.out.ok.append _ _); have HM6 := Lib.hid hM6; clear hM6 hA)
              | (go_at_call 18; refine (fails_any HM6.out.disk 1 1).mono ?_; rintro e w7 ⟨rfl, hA⟩; obtain ⟨fp7, hM7⟩ := HM6.out.after hA (HM6.out.ok.fails 1 1 (by omega) (by omega)); have HM7 := Lib.hid hM7; clear hM7 hA)
              | (go_at_call 19; (refine (rfails_any HM7.out.ref 0 0).mono ?_; rintro e w8 ⟨rfl, hA⟩; obtain ⟨fq8, hD8⟩ := HM7.out.done (show RAfter w7 x fq R.copy w8 from hA); have HD8 := Lib.hid hD8; clear hA hD8))
              | (go_at_call 21; refine HD8.out.stands.mono ?_; rintro e w9 ⟨rfl, hD9⟩; have HD9 := Lib.hid (Duo.mono (show Duo w w9 c x 0 from ⟨_, _, _, _, hD9⟩) (Nat.zero_le (k + 1))); clear hD9))
            refine ⟨⟨k + 1, c, by omega, by go_num, rfl, HD9.out⟩, ?_⟩
            simp [intOf]; omega
          · have ht : ((s.act : Int) == 8) = false := by simp [h8]
            clear h8
            have hdo := HD.out.does (by omega) HS.out
            have HDo := Lib.hid hdo
            clear hdo
            go_wp2_with (first
              | (go_at_call 20; refine HDo.out.mono ?_; rintro e w5 ⟨rfl, hD5⟩; obtain ⟨S5, R5, fp5, fq5, hD5⟩ := hD5; have HD5 := Lib.hid hD5; clear hD5)
              | (go_at_call 21; refine HD5.out.stands.mono ?_; rintro e w6 ⟨rfl, hD6⟩; have HD6 := Lib.hid (show Duo w w6 d x (k + 1) from ⟨_, _, _, _, hD6⟩); clear hD6))
            refine ⟨⟨k + 1, d, by omega, by go_num, rfl, HD6.out⟩, ?_⟩
            simp [intOf]; omega
        · obtain ⟨S, R, fp, fq, hD⟩ := hduo.out
          have HX := Lib.hid hD.ext
          have hend : k = l.length ∨ (k < l.length ∧ 60 ≤ k) := by omega
          clear hD hduo hlt
          rcases hend with rfl | ⟨h1, h2⟩
          all_goals
            go_wp2_with (go_at_call 8; refine (alive_any _).mono ?_; rintro e w9 ⟨rfl, hx9⟩)
            go_ret
            exact ⟨rfl, HX.out.trans hx9⟩
end Go.Proofs.Ytbopfdbenjnipaa
