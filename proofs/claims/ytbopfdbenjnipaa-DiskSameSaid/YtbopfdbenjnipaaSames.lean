/- DiskSame (5) returns true: the walk. -/
import Derived.Test.YtbopfdbenjnipaaPlays
namespace Go.Proofs.Ytbopfdbenjnipaa
set_option maxRecDepth 100000
open Go.RowKit Go.Maps Go.Sort
variable {w0 w : World} {d c x y : Nat} {S S2 Sc : Dk} {R R2 : Rf} {fp fc fq fp2 fq2 : List Nat}
/-- Two duos, apart. -/
structure Duo2At (w0 w : World) (d x c y : Nat) (K K2 : Nat) (S : Dk) (R : Rf) (fp fq : List Nat) (S2 : Dk) (R2 : Rf) (fp2 fq2 : List Nat) : Prop where
  one : DuoAt w0 w d x K S R fp fq
  two : DuoAt w0 w c y K2 S2 R2 fp2 fq2
  apart : ∀ b, b ∈ fp ∨ b ∈ fq → b ∉ fp2 ∧ b ∉ fq2
theorem Duo2At.quiet {K K2 : Nat} {w' : World} (h : Duo2At w0 w d x c y K K2 S R fp fq S2 R2 fp2 fq2) (hx : Ext (fun _ => False) w w') : Duo2At w0 w' d x c y K K2 S R fp fq S2 R2 fp2 fq2 :=
  ⟨h.one.quiet hx, h.two.quiet hx, h.apart⟩
theorem MidAt.fork {K : Nat} {e : Ending} {w' : World} (h : MidAt w0 w d c x K S Sc R fp fc fq) (hs : Sim S R) (hn : S.Named) (hN : RNew w R.copy e w') :
    ∃ y fy, e = .returned (.pointer (some ⟨y, 0, none⟩)) ∧ Duo2At w0 w' d x c y K 0 S R fp fq Sc R.copy fc fy := by
  obtain ⟨y, fy, rfl, hr, hb, hnew⟩ := hN
  have hx : Ext (fun _ => False) w w' := Ext.of_below hb (Nat.le_refl _) _
  have z := h.ext.size
  have l1 := h.disk.lt
  have l2 := h.cop.lt
  have l3 := h.ref.lt
  have k : ∀ {F : List Nat}, (∀ b ∈ F, b < w.heap.size) → ∀ b ∈ F, b ∉ fy := fun hF b hb hm => by have := hF b hb; have := hnew b hm; omega
  refine ⟨y, fy, rfl, ⟨⟨h.disk.keep hx (fun _ _ => id), h.ref.keep hx (fun _ _ => id), h.npq⟩, hs, h.ok, hn, h.hp, h.hq, h.ext.trans hx⟩, ⟨⟨h.cop.keep hx (fun _ _ => id), hr, k l2⟩, h.sim, h.okc, h.named, h.hc, fun b hb => by have := hnew b hb; omega, h.ext.trans hx⟩, ?_⟩
  rintro b (hb | hb)
  · exact ⟨h.npc b hb, k l1 b hb⟩
  · exact ⟨fun hm => h.ncq b hm hb, k l3 b hb⟩
def Duo2 (w0 w : World) (d x c y : Nat) (K K2 : Nat) : Prop := ∃ S R fp fq S2 R2 fp2 fq2, Duo2At w0 w d x c y K K2 S R fp fq S2 R2 fp2 fq2
theorem Duo2At.does2 {K K2 b o : Nat} {s : Stp} (h : Duo2At w0 w d x c y K K2 S R fp fq S2 R2 fp2 fq2) (hK : K2 ≤ 4611686018427387904) (hs : StpAt w0 w0.heap.size b o s) :
    Calls Try.prog 20 #[.pointer (some ⟨c, 0, none⟩), .pointer (some ⟨y, 0, none⟩), stepV s] w fun e w' => e = .returned (.bool true) ∧ Duo2 w0 w' d x c y K (K2 + 1) := by
  refine (does_any h.two.both h.two.ok hK h.two.sim h.two.hp h.two.hq h.two.ext hs).mono ?_
  rintro e w' ⟨rfl, hA⟩
  refine ⟨rfl, ?_⟩
  have z := h.one.ext.size
  have l1 := h.one.both.hd.lt
  have l2 := h.one.both.hr.lt
  have hx1 : Ext (fun b => b ∈ fp2 ∨ b ∈ fq2) w w' := by obtain ⟨_, _, _, hx, _⟩ := hA; exact hx
  have hxw : Ext (fun _ => False) w0 w' := h.one.ext.trans' hx1 fun i hi => Or.inr (by rcases hi with h' | h'; exact h.two.hp i h'; exact h.two.hq i h')
  obtain ⟨fp', fq', hb, hx, g1, g2⟩ := hA
  refine ⟨S, R, fp, fq, _, _, fp', fq', ⟨h.one.both.keep hx1 (fun b hb => ?_) (fun b hb => ?_), h.one.sim, h.one.ok, h.one.named, h.one.hp, h.one.hq, hxw⟩, ⟨hb, h.two.sim.step s, h.two.ok.step s hs.w3 hs.w4, h.two.named.step s, fun b hb => ?_, fun b hb => ?_, hxw⟩, fun b hb => ⟨fun hm => ?_, fun hm => ?_⟩⟩
  · have := h.apart b (Or.inl hb); exact fun h => by rcases h with h | h; exact this.1 h; exact this.2 h
  · have := h.apart b (Or.inr hb); exact fun h => by rcases h with h | h; exact this.1 h; exact this.2 h
  · rcases g1 b hb with h' | h'
    · exact h.two.hp b h'
    · omega
  · rcases g2 b hb with h' | h'
    · exact h.two.hq b h'
    · omega
  · rcases g1 b hm with h' | h'
    · exact (h.apart b hb).1 h'
    · rcases hb with hb | hb
      · have := l1 b hb; omega
      · have := l2 b hb; omega
  · rcases g2 b hm with h' | h'
    · exact (h.apart b hb).2 h'
    · rcases hb with hb | hb
      · have := l1 b hb; omega
      · have := l2 b hb; omega
set_option maxHeartbeats 8000000 in
theorem diskSame_walk {w : World} {v1 v2 : Value} {l kk : List Stp} {room : Int} (hst : StepsAt w w.heap.size v1 l) (hst2 : StepsAt w w.heap.size v2 kk) : Calls Try.prog 5 #[.int .i64 room, v1, v2] w (Holds w) := by
  have Hst := Lib.hid hst
  have Hst2 := Lib.hid hst2
  obtain ⟨va, vc, hve, hvl, _⟩ := hst
  obtain ⟨va2, vc2, hve2, hvl2, _⟩ := hst2
  subst hve hve2
  go_enter Try.func5, Try.ntmps5
  go_wp2_with fail
  refine (heavy_any Hst.out (Nat.le_refl _)).mono ?_
  rintro e w1 ⟨b, rfl, hb, hx1⟩
  have HX1 := Lib.hid hx1
  clear hx1 hb
  cases b with
  | true =>
    go_wp2_with (go_at_call 8; refine (alive_any _).mono ?_; rintro e w2 ⟨rfl, hx2⟩)
    go_ret
    exact ⟨rfl, HX1.out.trans hx2⟩
  | false =>
    go_wp2_with fail
    refine (heavy_any (Hst2.out.later (Below.of_ext HX1.out)) HX1.out.size).mono ?_
    rintro e w1b ⟨b, rfl, hb, hx1⟩
    have HX := Lib.hid (HX1.out.trans hx1)
    clear hx1 hb HX1
    cases b with
    | true =>
      go_wp2_with (go_at_call 8; refine (alive_any _).mono ?_; rintro e w2 ⟨rfl, hx2⟩)
      go_ret
      exact ⟨rfl, HX.out.trans hx2⟩
    | false =>
      by_cases hroom : room < 1 ∨ 1048576 < room
      · go_wp2_with (first
          | (go_at_call 9; refine (new_bad _ room hroom).mono ?_; rintro e w2 ⟨rfl, rfl⟩)
          | (go_at_call 16; refine (rnew_bad _ room hroom).mono ?_; rintro e w2 ⟨rfl, rfl⟩)
          | (go_at_call 8; refine (alive_any _).mono ?_; rintro e w2 ⟨rfl, hx2⟩))
        go_ret
        exact ⟨rfl, HX.out.trans hx2⟩
      · have hr1 : 1 ≤ room := by omega
        have hr2 : room ≤ 1048576 := by omega
        have HRm := Lib.hid (And.intro hr1 hr2)
        clear hroom hr1 hr2
        go_wp2_with fail
        refine (new_ok _ room HRm.out.1 HRm.out.2).mono ?_
        rintro e w2 ⟨rfl, hA2⟩
        have H2 := Lib.hid hA2
        clear hA2
        go_wp2_with fail
        refine (rnew_ok _ room HRm.out.1 HRm.out.2).mono ?_
        rintro e w3 ⟨rfl, hA3⟩
        have HD := Lib.hid (DuoAt.new HRm.out.1 HRm.out.2 HX.out H2.out hA3)
        clear hA3 H2 HX
        go_wp2_with fail
        generalize w1b.heap.size + 1 = d at *
        generalize w2.heap.size = x at *
        go_loopw [11] (fun i wr => ∃ k : Nat, k ≤ l.length ∧ i = .int .i64 k ∧ Hid (Duo w wr d x k)) (fun i _ => l.length - (intOf i).toNat)
        case atStart => exact ⟨0, Nat.zero_le _, rfl, HD.out⟩
        case round =>
          clear HD
          obtain ⟨k, hk, rfl, hduo⟩ := hrel
          obtain ⟨S, R, fp, fq, hD⟩ := hduo.out
          have HD := Lib.hid hD
          clear hD hduo
          by_cases hlt : k < l.length ∧ k < 40
          · obtain ⟨hlt, h60⟩ := hlt
            obtain ⟨a2, c2, e2, hl2, hst⟩ := Hst.out
            simp only [Value.slice.injEq] at e2
            obtain ⟨rfl, -, rfl⟩ := e2
            rcases hst with h0 | ⟨b, o, rfl, hbB, hst⟩
            · omega
            have hs0 := hst k hlt
            have hs := hs0.later hbB (Below.of_ext HD.out.ext)
            have c0 := hs.c0
            have c1 := hs.c1
            have c2 := hs.c2
            have c3 := hs.c3
            have c4 := hs.c4
            have c5 := hs.c5
            have HDo := Lib.hid (HD.out.does (by omega) hs0)
            clear hs hst hs0
            generalize l.getD k default = s at *
            go_wp2_with (go_at_call 20; refine HDo.out.mono ?_; rintro e w5 ⟨rfl, hD5⟩; have HD5 := Lib.hid hD5; clear hD5)
            refine ⟨⟨k + 1, by omega, by go_num, HD5.out⟩, ?_⟩
            simp [intOf]; omega
          · have hend : k = l.length ∨ (k < l.length ∧ 40 ≤ k) := by omega
            clear hlt
            have HC := Lib.hid HD.out.copy
            rcases hend with rfl | ⟨h1, h2⟩
            all_goals
              go_wp2_with fail
              refine HC.out.mono ?_
              rintro e w4 ⟨c, fc, rfl, hM⟩
              have HM := Lib.hid hM
              have HRC := Lib.hid (rcopy_any hM.ref (HD.out.sim.ok HD.out.ok))
              clear hM HC
              go_wp2_with fail
              refine HRC.out.mono ?_
              rintro e w5 hN
              obtain ⟨y, fy, rfl, hF⟩ := HM.out.fork HD.out.sim HD.out.named hN
              have HF := Lib.hid hF
              have HS1 := Lib.hid (same_any hF.two.both.hd hF.one.both.hd hF.two.ok hF.one.ok)
              clear hF hN HM HRC HD
              go_wp2_with fail
              refine HS1.out.mono ?_
              rintro e w6 ⟨r, rfl, hr, hb6⟩
              obtain rfl : r = true := hr.2 ⟨rfl, rfl⟩
              have HF6 := Lib.hid (HF.out.quiet (Ext.of_below hb6 (Nat.le_refl _) _))
              have HS2 := Lib.hid (same_any HF6.out.one.both.hd HF6.out.two.both.hd HF6.out.one.ok HF6.out.two.ok)
              clear hr hb6 HS1 HF
              go_wp2_with fail
              refine HS2.out.mono ?_
              rintro e w7 ⟨r, rfl, hr, hb7⟩
              obtain rfl : r = true := hr.2 ⟨rfl, rfl⟩
              have HF7 := Lib.hid (show Duo2 w w7 d x c y _ 0 from ⟨_, _, _, _, _, _, _, _, HF6.out.quiet (Ext.of_below hb7 (Nat.le_refl _) _)⟩)
              clear hr hb7 HS2 HF6
              go_wp2_with fail
              go_loopw [14] (fun i wr => ∃ (j K : Nat), j ≤ kk.length ∧ i = .int .i64 j ∧ Hid (Duo2 w wr d x c y K j)) (fun i _ => kk.length - (intOf i).toNat)
              case atStart => exact ⟨0, _, Nat.zero_le _, rfl, HF7.out⟩
              case round =>
                clear HF7
                obtain ⟨j, K, hj, rfl, hduo⟩ := hrel
                obtain ⟨Sa, Ra, fpa, fqa, Sb, Rb, fpb, fqb, hE⟩ := hduo.out
                have HE := Lib.hid hE
                clear hE hduo
                by_cases hlt : j < kk.length ∧ j < 40
                · obtain ⟨hlt, h40⟩ := hlt
                  obtain ⟨a2, c2, e2, hl2, hst⟩ := Hst2.out
                  simp only [Value.slice.injEq] at e2
                  obtain ⟨rfl, -, rfl⟩ := e2
                  rcases hst with h0 | ⟨b, o, rfl, hbB, hst⟩
                  · omega
                  have hs0 := hst j hlt
                  have hs := hs0.later hbB (Below.of_ext HE.out.one.ext)
                  have c0 := hs.c0
                  have c1 := hs.c1
                  have c2 := hs.c2
                  have c3 := hs.c3
                  have c4 := hs.c4
                  have c5 := hs.c5
                  have HDo := Lib.hid (HE.out.does2 (by omega) hs0)
                  clear hs hst hs0
                  generalize kk.getD j default = s at *
                  go_wp2_with (go_at_call 20; refine HDo.out.mono ?_; rintro e w8 ⟨rfl, hD8⟩; have HD8 := Lib.hid hD8; clear hD8)
                  refine ⟨⟨j + 1, _, by omega, by go_num, HD8.out⟩, ?_⟩
                  simp [intOf]; omega
                · have hend : j = kk.length ∨ (j < kk.length ∧ 40 ≤ j) := by omega
                  clear hlt
                  have HS3 := Lib.hid (same_any HE.out.two.both.hd HE.out.one.both.hd HE.out.two.ok HE.out.one.ok)
                  rcases hend with rfl | ⟨g1, g2⟩
                  all_goals
                    go_wp2_with fail
                    refine HS3.out.mono ?_
                    rintro e w8 ⟨r, rfl, hr, hb8⟩
                    have HE8 := Lib.hid (HE.out.quiet (Ext.of_below hb8 (Nat.le_refl _) _))
                    have HRS := Lib.hid (rsame_any HE8.out.two.both.hr HE8.out.one.both.hr (HE8.out.two.sim.ok HE8.out.two.ok) (HE8.out.one.sim.ok HE8.out.one.ok))
                    have HR := Lib.hid hr
                    clear hr hb8 HS3
                    go_wp2_with fail
                    refine HRS.out.mono ?_
                    rintro e w9 ⟨r2, rfl, hr2, hx9⟩
                    obtain rfl : r2 = r := by
                      have e1 := HE8.out.one.sim
                      have e2 := HE8.out.two.sim
                      have h3 := HR.out
                      rw [e1.room, e1.files, e2.room, e2.files] at h3
                      cases r <;> cases r2 <;> simp_all
                    have HE9 := Lib.hid (HE8.out.quiet hx9)
                    have HT1 := Lib.hid (stands_any HE9.out.one.both HE9.out.one.ok HE9.out.one.sim HE9.out.one.named)
                    clear hr2 hx9 HRS HE8 HR
                    go_wp2_with fail
                    refine HT1.out.mono ?_
                    rintro e w10 ⟨rfl, hx10⟩
                    have HE10 := Lib.hid (HE9.out.quiet hx10)
                    have HT2 := Lib.hid (stands_any HE10.out.two.both HE10.out.two.ok HE10.out.two.sim HE10.out.two.named)
                    clear hx10 HT1 HE9
                    go_wp2_with fail
                    refine HT2.out.mono ?_
                    rintro e w11 ⟨rfl, hx11⟩
                    have HX11 := Lib.hid (HE10.out.quiet hx11).one.ext
                    clear hx11 HT2 HE10
                    go_wp2_with (go_at_call 8; refine (alive_any _).mono ?_; rintro e w12 ⟨rfl, hx12⟩)
                    go_ret
                    exact ⟨rfl, HX11.out.trans hx12⟩
end Go.Proofs.Ytbopfdbenjnipaa
