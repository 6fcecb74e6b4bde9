/- Same (23) of two disks that are there. -/
import Derived.Test.YtbopfdbenjnipaaSame2
import Derived.Test.YtbopfdbenjnipaaNil
import Derived.Test.YtbopfdbenjnipaaArgs
import Derived.StillTailTactics
namespace Go.Proofs.Ytbopfdbenjnipaa
set_option maxRecDepth 100000
open Go.RowKit Go.Maps Go.Sort
variable {w : World} {a b : Nat} {S1 S2 : Dk} {fp1 fp2 : List Nat}
set_option maxHeartbeats 4000000 in
theorem same_any {K1 K2 : Nat} (h1 : DiskAt w a S1 fp1) (h2 : DiskAt w b S2 fp2) (hS1 : S1.Ok K1) (hS2 : S2.Ok K2) :
    Calls Try.prog 23 #[.pointer (some ⟨a, 0, none⟩), .pointer (some ⟨b, 0, none⟩)] w (EqSaid w (S1.room = S2.room ∧ S1.files = S2.files)) := by
  obtain ⟨m1, es1, vA1, vS1, cA1, cS1, l1⟩ := h1
  obtain ⟨m2, es2, vA2, vS2, cA2, cS2, l2⟩ := h2
  have a0 := l1.cell.1
  have a2 := l1.cell.2.2.1
  have b0 := l2.cell.1
  have b2 := l2.cell.2.2.1
  have e1 := l1.files
  have e2 := l2.files
  have hf1 := hS1.few
  have hf2 := hS2.few
  have hr1 := hS1.rising
  have hr2 := hS2.rising
  rw [e1] at hf1 hr1
  rw [e2] at hf2 hr2
  rw [List.length_map] at hf1 hf2
  have hE : S1.files = S2.files ↔ es1.length = es2.length ∧ ∀ p ∈ es1, findF (es2.map (·.1)) p.1.name = some p.1 := by
    rw [e1, e2]
    constructor
    · intro h
      refine ⟨by have := congrArg List.length h; simpa using this, fun p hp => ?_⟩
      rw [← h]; exact findF_of_mem hr1 (List.mem_map_of_mem (f := (·.1)) hp)
    · rintro ⟨hl, hm⟩
      refine same_of_rising hr1 hr2 (by simpa using hl) fun f hf => ?_
      obtain ⟨p, hp, rfl⟩ := List.mem_map.1 hf
      exact (findF_mem (hm p hp)).1
  have hC := fun n : Nat => equal_any (w := w.drewN n) (ownsMap_keep l1.hm rfl) (ownsMap_keep l2.hm rfl) (fun p hp => l1.fls p hp) (fun p hp => l2.fls p hp) hr1 hf1 hf2
  have hC2 := fun n : Nat => equal_any (w := (w.drewN n).drew) (ownsMap_keep l1.hm rfl) (ownsMap_keep l2.hm rfl) (fun p hp => l1.fls p hp) (fun p hp => l2.fls p hp) hr1 hf1 hf2
  have HC := Lib.hid hC
  have HC2 := Lib.hid hC2
  have HE := Lib.hid hE
  clear hC hC2 hE l1 l2 hf1 hf2 hr1 hr2 e1 e2 hS1 hS2
  by_cases hr : S1.room = S2.room
  · have hq : ((S1.room : Int) != (S2.room : Int)) = false := by simp [hr]
    have HR := Lib.hid hr
    clear hr
    go_enter Try.func23, Try.ntmps23
    go_wp2_with fail
    go_quiet ((go_at_call 30; exact Calls.quiet_of_same (qnone_some _ _ _ (by assumption))))
    go_wp2_with fail
    refine gen_world (P := fun v => v.cell? ⟨a, 2, none⟩ = some (.map (some m1)) ∧ v.cell? ⟨b, 2, none⟩ = some (.map (some m2)) ∧ (Ext (fun _ => False) w v ∧ Calls Try.prog 42 #[.map (some m1), .map (some m2), .func (.func 43) #[] #[]] v.drew (EqSaid v.drew (es1.length = es2.length ∧ ∀ p ∈ es1, findF (es2.map (·.1)) p.1.name = some p.1)))) ⟨a2, b2, Ext.drewN _ _ _, HC2.out _⟩ ?_
    clear a0 b0 a2 b2 HC HC2
    rintro wq ⟨a2, b2, hxq, hcq⟩
    have HX := Lib.hid hxq
    have HQ := Lib.hid hcq
    clear hxq hcq
    go_wp2_with fail
    go_still_tail 8, (by kernel_rfl)
    go_wp2_with (go_at_call 42; refine HQ.out.mono ?_; rintro e w' ⟨r, rfl, hr, hb⟩)
    go_ret
    exact ⟨r, rfl, by rw [hr, HE.out]; exact ⟨fun h => ⟨HR.out, h⟩, fun h => h.2⟩, ((Below.of_ext HX.out).trans (Below.of_ext (Ext.drew _ _) |>.mono HX.out.size)).trans (hb.mono HX.out.size)⟩
  · have hq : ((S1.room : Int) != (S2.room : Int)) = true := by rw [bne_iff_ne]; omega
    go_enter Try.func23, Try.ntmps23
    go_wp2_with fail
    go_quiet ((go_at_call 30; exact Calls.quiet_of_same (qnone_some _ _ _ (by assumption))))
    go_wp2_with fail
    go_ret
    exact ⟨false, rfl, ⟨fun h => (by cases h), fun h => (hr h.1).elim⟩, Below.of_ext (Ext.drewN _ _ _)⟩
end Go.Proofs.Ytbopfdbenjnipaa
