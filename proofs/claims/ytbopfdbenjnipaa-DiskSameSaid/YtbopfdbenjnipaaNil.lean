/- DiskNil (6) returns true; Copy (17) and Same (23) of a disk that is not there. -/
import Derived.Test.YtbopfdbenjnipaaAlive
namespace Go.Proofs.Ytbopfdbenjnipaa
set_option maxRecDepth 100000
open Go.RowKit Go.Maps Go.Sort
theorem append_nil (w : World) (s t : ByteArray) : Calls Try.prog 12 #[.pointer none, .string s, .string t] w fun e w' => e = .returned (.int .i64 1) ∧ w = w' := by
  go_enter Try.func12, Try.ntmps12
  go_wp2_with (go_at_call 32; refine (file_nil _ _).mono ?_; rintro e w' ⟨rfl, rfl⟩)
  go_ret
  exact ⟨rfl, rfl⟩
theorem sync_nil (w : World) (s : ByteArray) : Calls Try.prog 11 #[.pointer none, .string s] w fun e w' => e = .returned (.int .i64 1) ∧ w = w' := by
  go_enter Try.func11, Try.ntmps11
  go_wp2_with (go_at_call 32; refine (file_nil _ _).mono ?_; rintro e w' ⟨rfl, rfl⟩)
  go_ret
  exact ⟨rfl, rfl⟩
theorem cut_nil (w : World) (s : ByteArray) (n : Int) : Calls Try.prog 25 #[.pointer none, .string s, .int .i64 n] w fun e w' => e = .returned (.int .i64 1) ∧ w = w' := by
  go_enter Try.func25, Try.ntmps25
  go_wp2_with (go_at_call 32; refine (file_nil _ _).mono ?_; rintro e w' ⟨rfl, rfl⟩)
  go_ret
  exact ⟨rfl, rfl⟩
theorem remove_nil (w : World) (s : ByteArray) : Calls Try.prog 26 #[.pointer none, .string s] w fun e w' => e = .returned (.int .i64 1) ∧ w = w' := by
  go_enter Try.func26, Try.ntmps26
  go_wp2_with (go_at_call 32; refine (file_nil _ _).mono ?_; rintro e w' ⟨rfl, rfl⟩)
  go_ret
  exact ⟨rfl, rfl⟩
theorem copy_nil (w : World) : Calls Try.prog 17 #[.pointer none] w fun e w' => e = .returned (.pointer none) ∧ w = w' := by
  go_enter Try.func17, Try.ntmps17
  go_wp2_with (go_at_call 30; refine (none_nil _).mono ?_; rintro e w' ⟨rfl, rfl⟩)
  go_ret
  exact ⟨rfl, rfl⟩
theorem qnone_nil (w : World) : Calls Try.prog 30 #[.pointer none] w fun e w' => e = .returned (.bool true) ∧ w' = w := (none_nil w).mono fun _ _ h => ⟨h.1, h.2.symm⟩
theorem qnone_some (w : World) (d m : Nat) (h2 : w.cell? ⟨d, 2, none⟩ = some (.map (some m))) : Calls Try.prog 30 #[.pointer (some ⟨d, 0, none⟩)] w fun e w' => e = .returned (.bool false) ∧ w' = w := (none_some w d m h2).mono fun _ _ h => ⟨h.1, h.2.symm⟩
theorem same_nil1 (w : World) (v : Value) : Calls Try.prog 23 #[.pointer none, v] w fun e w' => e = .returned (.bool false) ∧ Ext (fun _ => False) w w' := by
  go_enter Try.func23, Try.ntmps23
  go_wp2_with fail
  go_quiet ((go_at_call 30; exact Calls.quiet_of_same (qnone_nil _)))
  go_wp2_with fail
  go_ret
  exact ⟨rfl, Ext.drewN _ _ _⟩
set_option maxHeartbeats 1000000 in
theorem same_nil2 (w : World) (d m : Nat) (h2 : w.cell? ⟨d, 2, none⟩ = some (.map (some m))) : Calls Try.prog 23 #[.pointer (some ⟨d, 0, none⟩), .pointer none] w fun e w' => e = .returned (.bool false) ∧ Ext (fun _ => False) w w' := by
  go_enter Try.func23, Try.ntmps23
  go_wp2_with fail
  refine wp_region_quiet_lit (by kernel_rfl) (by kernel_rfl) ?_
  repeat go_big_quiet_step (fail)
  go_big_quiet_step ((go_at_call 30; exact Calls.quiet_of_same (qnone_some _ d m h2)))
  repeat go_big_quiet_step (fail)
  go_big_quiet_step ((go_at_call 30; exact Calls.quiet_of_same (qnone_nil _)))
  repeat go_big_quiet_step (fail)
  refine wpQuiet_nil ?_
  intro _ hw'
  obtain ⟨nq, hw''⟩ := hw'
  subst hw''
  go_wp2_with fail
  go_ret
  exact ⟨rfl, Ext.drewN _ _ _⟩
set_option maxHeartbeats 1000000 in
theorem diskNil_walk (s : ByteArray) (n : Int) (hs : s.size ≤ maxLen) (w : World) : Calls Try.prog 6 #[.string s, .int .i64 n] w fun e w' => e = .returned (.bool true) ∧ Ext (fun _ => False) w w' := by
  unfold maxLen at hs
  by_cases hl : 4096 < s.size
  · go_enter Try.func6, Try.ntmps6
    go_wp2_with (go_at_call 8; refine (alive_any _).mono ?_; rintro e w1 ⟨rfl, hx⟩)
    go_ret
    exact ⟨rfl, hx⟩
  · go_enter Try.func6, Try.ntmps6
    go_wp2_with (go_at_call 14; refine (read_nil _ _).mono ?_; rintro e w1 ⟨rfl, rfl⟩)
    refine (new_ok _ 1 (by omega) (by omega)).mono ?_
    rintro e w1 ⟨rfl, hA⟩
    have HA := Lib.hid hA
    clear hA
    obtain ⟨fp1, ⟨m, es, vA, vS, cA, cS, hl1⟩, hx1, _⟩ := HA.out
    have d2 := hl1.cell.2.2.1
    have HX1 := Lib.hid hx1
    clear hl1 HA hx1
    go_wp2_with (first
      | (go_at_call 10; refine (create_nil _ _).mono ?_; rintro e w2 ⟨rfl, rfl⟩)
      | (go_at_call 12; refine (append_nil _ _ _).mono ?_; rintro e w2 ⟨rfl, rfl⟩)
      | (go_at_call 11; refine (sync_nil _ _).mono ?_; rintro e w2 ⟨rfl, rfl⟩)
      | (go_at_call 25; refine (cut_nil _ _ _).mono ?_; rintro e w2 ⟨rfl, rfl⟩)
      | (go_at_call 26; refine (remove_nil _ _).mono ?_; rintro e w2 ⟨rfl, rfl⟩)
      | (go_at_call 18; refine (nil_fails _ _ _).mono ?_; rintro e w2 ⟨rfl, rfl⟩)
      | (go_at_call 13; refine (crash_nil _ _).mono ?_; rintro e w2 ⟨rfl, rfl⟩)
      | (go_at_call 27; refine (names_nil _).mono ?_; rintro e w2 ⟨rfl, rfl⟩)
      | (go_at_call 15; refine (loose_nil _ _).mono ?_; rintro e w2 ⟨rfl, rfl⟩)
      | (go_at_call 28; refine (room_nil _).mono ?_; rintro e w2 ⟨rfl, rfl⟩)
      | (go_at_call 17; refine (copy_nil _).mono ?_; rintro e w2 ⟨rfl, rfl⟩))
    refine (same_nil1 _ _).mono ?_
    rintro e w2 ⟨rfl, hx2⟩
    have d2' : w2.cell? ⟨w.heap.size + 1, 2, none⟩ = some (.map (some m)) := by
      have hl : w.heap.size + 1 < w1.heap.size := World.block_lt_of_cell? w1 _ d2
      rw [World.cell?_of_block (w := w1.alloc (.cells #[.int .i64 n] 3)) (hx2.block (w.heap.size + 1) (by simp; omega) (fun h => h)), World.cell?_of_block (w := w1) (Below.heap_alloc _ _ _ hl), d2]
    have HX2 := Lib.hid hx2
    clear hx2 d2
    go_wp2_with fail
    refine (same_nil2 _ _ m d2').mono ?_
    rintro e w3 ⟨rfl, hx3⟩
    have HX3 := Lib.hid hx3
    clear hx3 d2'
    go_wp2_with (go_at_call 8; refine (alive_any _).mono ?_; rintro e w4 ⟨rfl, hx4⟩)
    go_ret
    exact ⟨rfl, ((((HX1.out.mono (fun b h => by simp at h)).trans (Ext.alloc _ _ _)).trans HX2.out).trans HX3.out).trans hx4⟩
end Go.Proofs.Ytbopfdbenjnipaa
