/- does (20): sync, create. Printed by does.py. -/
import Derived.Test.YtbopfdbenjnipaaDoes1
import Derived.Deep.RegionHeld3
namespace Go.Proofs.Ytbopfdbenjnipaa
set_option maxRecDepth 100000
open Go.RowKit Go.Maps Go.Sort
variable {w : World} {d x : Nat} {S : Dk} {R : Rf} {fp fq : List Nat}
set_option maxHeartbeats 4000000 in
theorem does_sync {K : Nat} (h : Both w d x S R fp fq) (hS : S.Ok K) (hK : K ≤ 4611686018427387904) (hsim : Sim S R) (s : Stp) (hs : s.name.size ≤ 140737488351232) (ht : s.bytes.size ≤ 140737488351232) (ha : s.act = 1) :
    Calls Try.prog 20 #[.pointer (some ⟨d, 0, none⟩), .pointer (some ⟨x, 0, none⟩), stepV s] w (DSaid w d x fp fq (S.sync s.name.data.toList).1 (R.flush s.name.data.toList).1) := by
  have hR := hsim.ok hS
  have hs' : s.name.size ≤ maxLen := by unfold maxLen; omega
  have e2 := (hsim.sync s.name.data.toList).1
  obtain ⟨act, name, bytes, n, m, keep, ks⟩ := s
  simp only at ha hs hs' ht e2 ⊢
  subst ha
  have hD := fun (w1 : World) (hb : Both w1 d x S R fp fq) => sync_any hb.hd hS hK name hs'
  have hRf := fun (w1 : World) (S1 : Dk) (fp1 fq1 : List Nat) (hb : Both w1 d x S1 R fp1 fq1) => rflush_any hb.hr hR name
  rw [e2] at hD
  generalize (R.flush name.data.toList).2 = r at *
  generalize (R.flush name.data.toList).1 = R' at *
  generalize (S.sync name.data.toList).1 = S' at *
  have HD := Lib.hid hD
  have HR := Lib.hid hRf
  have HB := Lib.hid h
  clear h hS hR hsim e2 hD hRf hs' hs ht
  unfold stepV
  simp only
  go_enter Try.func20, Try.ntmps20
  go_wp2_with fail
  have hc : ∀ j v, #[Value.int .i64 1, .string name, .string bytes, .int .i64 n, .int .i64 m, keep][j]? = some v → (w.alloc (.cells #[.int .i64 1, .string name, .string bytes, .int .i64 n, .int .i64 m, keep] 34)).cell? ⟨w.heap.size, j, none⟩ = some v := fun j v hv => by
    unfold World.cell?; rw [heap_new]; exact hv
  have q1 := hc 1 _ rfl
  have hB1 : Both (w.alloc (.cells #[.int .i64 1, .string name, .string bytes, .int .i64 n, .int .i64 m, keep] 34)) d x S R fp fq := HB.out.quiet (Ext.alloc _ _ _)
  have hx1 : Ext (fun _ => False) w (w.alloc (.cells #[.int .i64 1, .string name, .string bytes, .int .i64 n, .int .i64 m, keep] 34)) := Ext.alloc _ _ _
  have hqp : w.heap.size ∉ fp := fun hm => by have := HB.out.hd.lt _ hm; omega
  have hqq : w.heap.size ∉ fq := fun hm => by have := HB.out.hr.lt _ hm; omega
  have hql : w.heap.size < (w.alloc (.cells #[.int .i64 1, .string name, .string bytes, .int .i64 n, .int .i64 m, keep] 34)).heap.size := by simp
  have HX1 := Lib.hid hx1
  have HB1 := Lib.hid hB1
  have HQ := Lib.hid (And.intro hqp (And.intro hqq hql))
  clear hx1 hB1 hc HB hqp hqq hql
  generalize (w.alloc (.cells #[.int .i64 1, .string name, .string bytes, .int .i64 n, .int .i64 m, keep] 34)) = wb at *
  generalize w.heap.size = q at *
  go_region_held3 (fun w' => w'.cell? ⟨q, 1, none⟩ = some (.string name)) (first | exact q1 | exact q1' | exact q1'' | go_keep) (first
    | (go_at_call 11; refine (HD.out _ (HB1.out.quiet (Ext.drew _ _))).mono ?_; rintro e w1 ⟨rfl, hA⟩; obtain ⟨fp1, fq1, hB2, hP, hq1⟩ := ((HB1.out.quiet (Ext.drew _ _)).disk hA).opened HQ.out.1 HQ.out.2.1 HQ.out.2.2; have q1' : w1.cell? ⟨q, 1, none⟩ = some (.string name) := (hq1.2.2.2 _).trans q1; have HB2 := Lib.hid hB2; have HP := Lib.hid hP; have HQ1 := Lib.hid hq1; clear hA hB2 hP hq1)
    | (go_at_call 34; refine (HR.out _ _ _ _ HB2.out).mono ?_; rintro e w2 ⟨rfl, hA2⟩; obtain ⟨fp2, fq2, hB3, hP3, hq2⟩ := (HB2.out.ref hA2).opened HQ1.out.1 HQ1.out.2.1 HQ1.out.2.2.1; have q1'' : w2.cell? ⟨q, 1, none⟩ = some (.string name) := (hq2.2.2.2 _).trans q1'; clear hB3 hP3 hq2))
  all_goals
    go_wp2_with fail
    go_ret
    exact ⟨rfl, PAfter.pre (HX1.out.trans (Ext.drew _ _)) (PAfter.trans HP.out.1 HP.out.2.1 HP.out.2.2 (HB2.out.ref hA2))⟩
set_option maxHeartbeats 4000000 in
theorem does_create {K : Nat} (h : Both w d x S R fp fq) (hS : S.Ok K) (hK : K ≤ 4611686018427387904) (hsim : Sim S R) (s : Stp) (hs : s.name.size ≤ 140737488351232) (ht : s.bytes.size ≤ 140737488351232) (ha : s.act = 2) :
    Calls Try.prog 20 #[.pointer (some ⟨d, 0, none⟩), .pointer (some ⟨x, 0, none⟩), stepV s] w (DSaid w d x fp fq (S.create s.name.data.toList).1 (R.create s.name.data.toList).1) := by
  have hR := hsim.ok hS
  have hs' : s.name.size ≤ maxLen := by unfold maxLen; omega
  have e2 := (hsim.create s.name.data.toList).1
  obtain ⟨act, name, bytes, n, m, keep, ks⟩ := s
  simp only at ha hs hs' ht e2 ⊢
  subst ha
  have hD := fun (w1 : World) (hb : Both w1 d x S R fp fq) => create_any hb.hd hS name hs
  have hRf := fun (w1 : World) (S1 : Dk) (fp1 fq1 : List Nat) (hb : Both w1 d x S1 R fp1 fq1) => rcreate_any hb.hr hR name hs
  rw [e2] at hD
  generalize (R.create name.data.toList).2 = r at *
  generalize (R.create name.data.toList).1 = R' at *
  generalize (S.create name.data.toList).1 = S' at *
  have HD := Lib.hid hD
  have HR := Lib.hid hRf
  have HB := Lib.hid h
  clear h hS hR hsim e2 hD hRf hs' hs ht
  unfold stepV
  simp only
  go_enter Try.func20, Try.ntmps20
  go_wp2_with fail
  have hc : ∀ j v, #[Value.int .i64 2, .string name, .string bytes, .int .i64 n, .int .i64 m, keep][j]? = some v → (w.alloc (.cells #[.int .i64 2, .string name, .string bytes, .int .i64 n, .int .i64 m, keep] 34)).cell? ⟨w.heap.size, j, none⟩ = some v := fun j v hv => by
    unfold World.cell?; rw [heap_new]; exact hv
  have q1 := hc 1 _ rfl
  have hB1 : Both (w.alloc (.cells #[.int .i64 2, .string name, .string bytes, .int .i64 n, .int .i64 m, keep] 34)) d x S R fp fq := HB.out.quiet (Ext.alloc _ _ _)
  have hx1 : Ext (fun _ => False) w (w.alloc (.cells #[.int .i64 2, .string name, .string bytes, .int .i64 n, .int .i64 m, keep] 34)) := Ext.alloc _ _ _
  have hqp : w.heap.size ∉ fp := fun hm => by have := HB.out.hd.lt _ hm; omega
  have hqq : w.heap.size ∉ fq := fun hm => by have := HB.out.hr.lt _ hm; omega
  have hql : w.heap.size < (w.alloc (.cells #[.int .i64 2, .string name, .string bytes, .int .i64 n, .int .i64 m, keep] 34)).heap.size := by simp
  have HX1 := Lib.hid hx1
  have HB1 := Lib.hid hB1
  have HQ := Lib.hid (And.intro hqp (And.intro hqq hql))
  clear hx1 hB1 hc HB hqp hqq hql
  generalize (w.alloc (.cells #[.int .i64 2, .string name, .string bytes, .int .i64 n, .int .i64 m, keep] 34)) = wb at *
  generalize w.heap.size = q at *
  go_region_held3 (fun w' => w'.cell? ⟨q, 1, none⟩ = some (.string name)) (first | exact q1 | exact q1' | exact q1'' | go_keep) (first
    | (go_at_call 10; refine (HD.out _ (HB1.out.quiet (Ext.drew _ _))).mono ?_; rintro e w1 ⟨rfl, hA⟩; obtain ⟨fp1, fq1, hB2, hP, hq1⟩ := ((HB1.out.quiet (Ext.drew _ _)).disk hA).opened HQ.out.1 HQ.out.2.1 HQ.out.2.2; have q1' : w1.cell? ⟨q, 1, none⟩ = some (.string name) := (hq1.2.2.2 _).trans q1; have HB2 := Lib.hid hB2; have HP := Lib.hid hP; have HQ1 := Lib.hid hq1; clear hA hB2 hP hq1)
    | (go_at_call 35; refine (HR.out _ _ _ _ HB2.out).mono ?_; rintro e w2 ⟨rfl, hA2⟩; obtain ⟨fp2, fq2, hB3, hP3, hq2⟩ := (HB2.out.ref hA2).opened HQ1.out.1 HQ1.out.2.1 HQ1.out.2.2.1; have q1'' : w2.cell? ⟨q, 1, none⟩ = some (.string name) := (hq2.2.2.2 _).trans q1'; clear hB3 hP3 hq2))
  all_goals
    go_wp2_with fail
    go_ret
    exact ⟨rfl, PAfter.pre (HX1.out.trans (Ext.drew _ _)) (PAfter.trans HP.out.1 HP.out.2.1 HP.out.2.2 (HB2.out.ref hA2))⟩
end Go.Proofs.Ytbopfdbenjnipaa
