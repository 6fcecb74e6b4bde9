/- The small known run: portcullislaw23.alive (8) returns true. -/
import Derived.Test.YtbopfdbenjnipaaOps6
namespace Go.Proofs.Ytbopfdbenjnipaa
set_option maxRecDepth 100000
open Go.RowKit Go.Maps Go.Sort
variable {w w1 : World} {d K : Nat} {S S' : Dk} {fp : List Nat} {r : Int}
/-! ### the calls, one behind the other -/
theorem step_create (hA : After w d fp S w1) (hok : S.Ok K) (s : ByteArray) (hs : s.size ≤ 140737488351232) (hr : S.create s.data.toList = (S', r)) :
    Calls Try.prog 10 #[.pointer (some ⟨d, 0, none⟩), .string s] w1 fun e w2 => e = .returned (.int .i64 r) ∧ After w d fp S' w2 := by
  obtain ⟨fp1, hd, hx, hs1⟩ := hA
  refine (create_any hd hok s hs).mono ?_
  rintro e w2 ⟨rfl, hA2⟩
  rw [hr] at hA2 ⊢
  exact ⟨rfl, After.trans hx hs1 hA2⟩
theorem step_append (hA : After w d fp S w1) (hok : S.Ok K) (hK : K ≤ 4611686018427387904) (s t : ByteArray) (hs : s.size ≤ maxLen) (ht : t.size ≤ 140737488351232) (hr : S.append s.data.toList t = (S', r)) :
    Calls Try.prog 12 #[.pointer (some ⟨d, 0, none⟩), .string s, .string t] w1 fun e w2 => e = .returned (.int .i64 r) ∧ After w d fp S' w2 := by
  obtain ⟨fp1, hd, hx, hs1⟩ := hA
  refine (append_any hd hok hK s t hs ht).mono ?_
  rintro e w2 ⟨rfl, hA2⟩
  rw [hr] at hA2 ⊢
  exact ⟨rfl, After.trans hx hs1 hA2⟩
theorem step_sync (hA : After w d fp S w1) (hok : S.Ok K) (hK : K ≤ 4611686018427387904) (s : ByteArray) (hs : s.size ≤ maxLen) (hr : S.sync s.data.toList = (S', r)) :
    Calls Try.prog 11 #[.pointer (some ⟨d, 0, none⟩), .string s] w1 fun e w2 => e = .returned (.int .i64 r) ∧ After w d fp S' w2 := by
  obtain ⟨fp1, hd, hx, hs1⟩ := hA
  refine (sync_any hd hok hK s hs).mono ?_
  rintro e w2 ⟨rfl, hA2⟩
  rw [hr] at hA2 ⊢
  exact ⟨rfl, After.trans hx hs1 hA2⟩
theorem step_room (hA : After w d fp S w1) (hr : S.left = r) :
    Calls Try.prog 28 #[.pointer (some ⟨d, 0, none⟩)] w1 fun e w2 => e = .returned (.int .i64 r) ∧ w1 = w2 := by
  obtain ⟨fp1, hd, hx, hs1⟩ := hA
  rw [← hr]
  exact room_any hd
theorem step_read (hA : After w d fp S w1) (s : ByteArray) (hs : s.size ≤ maxLen) {b : ByteArray} (hr : S.read s.data.toList = (b, r)) :
    Calls Try.prog 14 #[.pointer (some ⟨d, 0, none⟩), .string s] w1 fun e w2 => e = .returned (.tuple #[.string b, .int .i64 r]) ∧ w1 = w2 := by
  obtain ⟨fp1, hd, hx, hs1⟩ := hA
  have h := read_any hd s hs
  rw [hr] at h
  exact h
theorem After.more {w2 : World} (hA : After w d fp S w1) (hx2 : Ext (fun _ => False) w1 w2) : After w d fp S w2 := by
  obtain ⟨fp1, hd, hx, hs1⟩ := hA
  exact ⟨fp1, hd.keep hx2 (fun _ _ => id), hx.trans (hx2.mono (fun _ h => h.elim)), hs1⟩
theorem step_loose (hA : After w d fp S w1) (hok : S.Ok K) (s : ByteArray) (hs : s.size ≤ maxLen) (hr : S.loose s.data.toList = r) :
    Calls Try.prog 15 #[.pointer (some ⟨d, 0, none⟩), .string s] w1 fun e w2 => e = .returned (.int .i64 r) ∧ After w d fp S w2 := by
  have hA' := hA
  obtain ⟨fp1, hd, hx, hs1⟩ := hA
  refine (loose_any hd hok s hs).mono ?_
  rintro e w2 ⟨rfl, hx2⟩
  rw [hr]
  exact ⟨rfl, hA'.more hx2⟩
theorem step_crash {w2 : World} (hA : After w d fp S w1) (hok : S.Ok K) (hx2 : Ext (fun _ => False) w1 w2) (v : Value) (ks : List Int) (hk : ∀ fp1, DiskAt w1 d S fp1 → (∀ b ∈ fp1, b ∈ fp ∨ w.heap.size ≤ b) → KeepAt w2 v ks (fun b => b ∉ fp1 ∧ b < w2.heap.size))
    (hwf : ∀ i, -9223372036854775808 ≤ ks.getD i 0 ∧ ks.getD i 0 ≤ 9223372036854775807) (hr : S.crash ks = S') :
    Calls Try.prog 13 #[.pointer (some ⟨d, 0, none⟩), v] w2 fun e w3 => e = .returned (.int .i64 0) ∧ After w d fp S' w3 := by
  obtain ⟨fp1, hd, hx, hs1⟩ := hA
  have hd2 := hd.keep hx2 (fun _ _ => id)
  refine (crash_any hd2 hok v ks (hk fp1 hd hs1) hwf).mono ?_
  rintro e w3 ⟨rfl, hA2⟩
  rw [hr] at hA2
  exact ⟨rfl, After.trans (hx.trans (hx2.mono (fun _ h => h.elim))) hs1 hA2⟩
theorem keep_none (w : World) (Q : Nat → Prop) : KeepAt w (.slice none 0 0) [] Q := ⟨none, 0, rfl, by simp, by unfold maxLen; omega, Or.inl rfl⟩
theorem step_crash0 (hA : After w d fp S w1) (hok : S.Ok K) (hr : S.crash [] = S') :
    Calls Try.prog 13 #[.pointer (some ⟨d, 0, none⟩), .slice none 0 0] w1 fun e w2 => e = .returned (.int .i64 0) ∧ After w d fp S' w2 :=
  step_crash hA hok (Ext.refl _ _) _ [] (fun _ _ _ => keep_none _ _) (by simp) hr
theorem step_crash1 (hA : After w d fp S w1) (hok : S.Ok K) (x : Int) (hx1 : -9223372036854775808 ≤ x) (hx2 : x ≤ 9223372036854775807) (hr : S.crash [x] = S') :
    Calls Try.prog 13 #[.pointer (some ⟨d, 0, none⟩), .slice (some ⟨w1.heap.size, 0, none⟩) 1 1] (w1.alloc (.cells #[.int .i64 x] 3)) fun e w2 => e = .returned (.int .i64 0) ∧ After w d fp S' w2 := by
  refine step_crash hA hok (Ext.alloc _ _ _) _ [x] (fun fp1 hd _ => ?_) (fun i => ?_) hr
  · refine ⟨some ⟨w1.heap.size, 0, none⟩, 1, rfl, by simp, by unfold maxLen; omega, Or.inr ⟨_, 0, rfl, ⟨fun h => by have := hd.lt _ h; omega, by simp⟩, fun i hi => ?_⟩⟩
    have : i = 0 := by simp at hi; exact hi
    subst this
    have hn := heap_new w1 (.cells #[.int .i64 x] 3)
    simp only [World.cell?, hn]
    rfl
  · cases i with
    | zero => simpa using ⟨hx1, hx2⟩
    | succ i => simp
theorem step_names (hA : After w d fp S w1) (hok : S.Ok K) :
    Calls Try.prog 27 #[.pointer (some ⟨d, 0, none⟩)] w1 fun e w2 => ∃ v, e = .returned v ∧ NamesAt w2 w1.heap.size v (S.files.map (·.name)) ∧ Below w1.heap.size w1 w2 := by
  obtain ⟨fp1, hd, hx, hs1⟩ := hA
  exact names_any hd hok
/-! ### the known run, reckoned -/
def k0 : Dk := Dk.new 10
def k1 : Dk := (k0.create [97]).1
def k2 : Dk := (k1.append [97] ⟨#[49, 50, 51, 52, 53]⟩).1
def k3 : Dk := (k2.sync [97]).1
def k4 : Dk := (k3.append [97] ⟨#[54, 55, 56]⟩).1
def k5 : Dk := (k4.append [97] ⟨#[57, 48, 49]⟩).1
def k6 : Dk := k5.crash [2]
def k7 : Dk := (k6.create [98]).1
def k8 : Dk := k7.crash []
theorem r1 : k0.create [97] = (k1, 0) := by kernel_rfl
theorem r1' : k1.create [97] = (k1, 9) := by kernel_rfl
theorem r2 : k1.append [97] ⟨#[49, 50, 51, 52, 53]⟩ = (k2, 0) := by kernel_rfl
theorem r3 : k2.sync [97] = (k3, 0) := by kernel_rfl
theorem r4 : k3.append [97] ⟨#[54, 55, 56]⟩ = (k4, 0) := by kernel_rfl
theorem r5 : k4.append [97] ⟨#[57, 48, 49]⟩ = (k5, 6) := by kernel_rfl
theorem r5' : k5.left = 2 := by kernel_rfl
theorem r6 : k6.read [97] = (⟨#[49, 50, 51, 52, 53, 54, 55]⟩, 0) := by kernel_rfl
theorem r6' : k6.loose [97] = 0 := by kernel_rfl
theorem r7 : k6.create [98] = (k7, 0) := by kernel_rfl
theorem r8 : (k8.files.map (·.name)).length = 1 := by kernel_rfl
theorem o0 : k0.Ok 0 := Dk.Ok.new (by omega) (by omega)
theorem o1 : k1.Ok 0 := o0.create _
theorem o2 : k2.Ok 1 := o1.append _ _
theorem o3 : k3.Ok 2 := o2.sync _
theorem o4 : k4.Ok 3 := o3.append _ _
theorem o5 : k5.Ok 4 := o4.append _ _
theorem o6 : k6.Ok 0 := o5.crash _
theorem o7 : k7.Ok 0 := o6.create _
theorem o8 : k8.Ok 0 := o7.crash _
theorem len_names {w : World} {base : Nat} {v : Value} {l : List (List UInt8)} (h : NamesAt w base v l) : ∃ a cap, v = .slice a l.length cap := by
  obtain ⟨a, cap, e, _⟩ := names_shape h
  exact ⟨a, cap, e⟩
set_option maxHeartbeats 1000000 in
theorem alive_any (w : World) : Calls Try.prog 8 #[] w fun e w' => e = .returned (.bool true) ∧ Ext (fun _ => False) w w' := by
  go_enter Try.func8, Try.ntmps8
  go_wp2_with fail
  refine (new_ok _ 10 (by omega) (by omega)).mono ?_
  rintro e w1 ⟨rfl, hA⟩
  have H := Lib.hid hA
  clear hA
  go_wp2_with fail
  refine (step_create H.out o0 ⟨#[97]⟩ (by decide) r1).mono ?_
  rintro e w2 ⟨rfl, hA⟩
  have H2 := Lib.hid hA
  clear hA H
  go_wp2_with fail
  refine (step_create H2.out o1 ⟨#[97]⟩ (by decide) r1').mono ?_
  rintro e w3 ⟨rfl, hA⟩
  have H3 := Lib.hid hA
  clear hA H2
  go_wp2_with fail
  refine (step_append H3.out o1 (by omega) ⟨#[97]⟩ ⟨#[49, 50, 51, 52, 53]⟩ (by decide) (by decide) r2).mono ?_
  rintro e w4 ⟨rfl, hA⟩
  have H4 := Lib.hid hA
  clear hA H3
  go_wp2_with fail
  refine (step_sync H4.out o2 (by omega) ⟨#[97]⟩ (by decide) r3).mono ?_
  rintro e w5 ⟨rfl, hA⟩
  have H5 := Lib.hid hA
  clear hA H4
  go_wp2_with fail
  refine (step_append H5.out o3 (by omega) ⟨#[97]⟩ ⟨#[54, 55, 56]⟩ (by decide) (by decide) r4).mono ?_
  rintro e w6 ⟨rfl, hA⟩
  have H6 := Lib.hid hA
  clear hA H5
  go_wp2_with fail
  refine (step_append H6.out o4 (by omega) ⟨#[97]⟩ ⟨#[57, 48, 49]⟩ (by decide) (by decide) r5).mono ?_
  rintro e w7 ⟨rfl, hA⟩
  have H7 := Lib.hid hA
  clear hA H6
  go_wp2_with fail
  refine (step_room H7.out r5').mono ?_
  rintro e w8 ⟨rfl, rfl⟩
  go_wp2_with fail
  refine (step_crash1 H7.out o5 2 (by omega) (by omega) (S' := k6) rfl).mono ?_
  rintro e w8 ⟨rfl, hA⟩
  have H8 := Lib.hid hA
  clear hA H7
  go_wp2_with fail
  refine (step_read H8.out ⟨#[97]⟩ (by decide) r6).mono ?_
  rintro e w9 ⟨rfl, rfl⟩
  go_wp2_with fail
  refine (step_loose H8.out o6 ⟨#[97]⟩ (by decide) r6').mono ?_
  rintro e w9 ⟨rfl, hA⟩
  have H9 := Lib.hid hA
  clear hA H8
  go_wp2_with fail
  refine (step_create H9.out o6 ⟨#[98]⟩ (by decide) r7).mono ?_
  rintro e w10 ⟨rfl, hA⟩
  have H10 := Lib.hid hA
  clear hA H9
  go_wp2_with fail
  refine (step_crash0 H10.out o7 (S' := k8) rfl).mono ?_
  rintro e w11 ⟨rfl, hA⟩
  have H11 := Lib.hid hA
  clear hA H10
  go_wp2_with fail
  refine (step_names H11.out o8).mono ?_
  rintro e w12 ⟨v, rfl, hn, hb⟩
  obtain ⟨a, cap, e⟩ := len_names hn
  rw [r8] at e
  subst e
  clear hn
  have HB := Lib.hid hb
  clear hb
  go_wp2_with fail
  go_ret
  refine ⟨rfl, (H11.out.ext.mono (fun b h => by simp at h)).trans (Ext.of_below HB.out (Nat.le_refl _) _)⟩
end Go.Proofs.Ytbopfdbenjnipaa
