/- does (20): append. Printed by does.py. -/
import Derived.Test.YtbopfdbenjnipaaDoes1
import Derived.Deep.RegionHeld3
namespace Go.Proofs.Ytbopfdbenjnipaa
set_option maxRecDepth 100000
open Go.RowKit Go.Maps Go.Sort
variable {w : World} {d x : Nat} {S : Dk} {R : Rf} {fp fq : List Nat}
set_option maxHeartbeats 4000000 in
theorem does_append {K : Nat} (h : Both w d x S R fp fq) (hS : S.Ok K) (hK : K ≤ 4611686018427387904) (hsim : Sim S R) (s : Stp) (hs : s.name.size ≤ 140737488351232) (ht : s.bytes.size ≤ 140737488351232) (ha : ∀ i : Int, 1 ≤ i → i ≤ 7 → s.act ≠ i) :
    Calls Try.prog 20 #[.pointer (some ⟨d, 0, none⟩), .pointer (some ⟨x, 0, none⟩), stepV s] w (DSaid w d x fp fq (S.append s.name.data.toList s.bytes).1 (R.put s.name.data.toList s.bytes).1) := by
  have hR := hsim.ok hS
  have hs' : s.name.size ≤ maxLen := by unfold maxLen; omega
  have e2 := (hsim.append s.name.data.toList s.bytes).1
  obtain ⟨act, name, bytes, n, m, keep, ks⟩ := s
  simp only at ha hs hs' ht e2 ⊢
  have t1 : ((act : Int) == 1) = false := by rw [beq_eq_false_iff_ne]; exact ha 1 (by omega) (by omega)
  have t2 : ((act : Int) == 2) = false := by rw [beq_eq_false_iff_ne]; exact ha 2 (by omega) (by omega)
  have t3 : ((act : Int) == 3) = false := by rw [beq_eq_false_iff_ne]; exact ha 3 (by omega) (by omega)
  have t4 : ((act : Int) == 4) = false := by rw [beq_eq_false_iff_ne]; exact ha 4 (by omega) (by omega)
  have t5 : ((act : Int) == 5) = false := by rw [beq_eq_false_iff_ne]; exact ha 5 (by omega) (by omega)
  have t6 : ((act : Int) == 6) = false := by rw [beq_eq_false_iff_ne]; exact ha 6 (by omega) (by omega)
  have t7 : ((act : Int) == 7) = false := by rw [beq_eq_false_iff_ne]; exact ha 7 (by omega) (by omega)
  clear ha
  have hD := fun (w1 : World) (hb : Both w1 d x S R fp fq) => append_any hb.hd hS hK name bytes hs' ht
  have hRf := fun (w1 : World) (S1 : Dk) (fp1 fq1 : List Nat) (hb : Both w1 d x S1 R fp1 fq1) => rput_any hb.hr hR name bytes ht
  rw [e2] at hD
  generalize (R.put name.data.toList bytes).2 = r at *
  generalize (R.put name.data.toList bytes).1 = R' at *
  generalize (S.append name.data.toList bytes).1 = S' at *
  have HD := Lib.hid hD
  have HR := Lib.hid hRf
  have HB := Lib.hid h
  clear h hS hR hsim e2 hD hRf hs' hs ht
  unfold stepV
  simp only
  go_enter Try.func20, Try.ntmps20
  go_wp2_with fail
  have hc : ∀ j v, #[Value.int .i64 act, .string name, .string bytes, .int .i64 n, .int .i64 m, keep][j]? = some v → (w.alloc (.cells #[.int .i64 act, .string name, .string bytes, .int .i64 n, .int .i64 m, keep] 34)).cell? ⟨w.heap.size, j, none⟩ = some v := fun j v hv => by
    unfold World.cell?; rw [heap_new]; exact hv
  have q0 := hc 0 _ rfl
  have q1 := hc 1 _ rfl
  have q2 := hc 2 _ rfl
  have hB1 : Both (w.alloc (.cells #[.int .i64 act, .string name, .string bytes, .int .i64 n, .int .i64 m, keep] 34)) d x S R fp fq := HB.out.quiet (Ext.alloc _ _ _)
  have hx1 : Ext (fun _ => False) w (w.alloc (.cells #[.int .i64 act, .string name, .string bytes, .int .i64 n, .int .i64 m, keep] 34)) := Ext.alloc _ _ _
  have hqp : w.heap.size ∉ fp := fun hm => by have := HB.out.hd.lt _ hm; omega
  have hqq : w.heap.size ∉ fq := fun hm => by have := HB.out.hr.lt _ hm; omega
  have hql : w.heap.size < (w.alloc (.cells #[.int .i64 act, .string name, .string bytes, .int .i64 n, .int .i64 m, keep] 34)).heap.size := by simp
  have HX1 := Lib.hid hx1
  have HB1 := Lib.hid hB1
  have HQ := Lib.hid (And.intro hqp (And.intro hqq hql))
  clear hx1 hB1 hc HB hqp hqq hql
  generalize (w.alloc (.cells #[.int .i64 act, .string name, .string bytes, .int .i64 n, .int .i64 m, keep] 34)) = wb at *
  generalize w.heap.size = q at *
  go_region_held3 (fun w' => w'.cell? ⟨q, 1, none⟩ = some (.string name) ∧ w'.cell? ⟨q, 2, none⟩ = some (.string bytes)) (first | exact ⟨q1, q2⟩ | exact ⟨q1', q2'⟩ | exact ⟨q1'', q2''⟩ | go_keep) (first
    | (go_at_call 12; refine (HD.out _ (HB1.out.quiet (Ext.drew _ _))).mono ?_; rintro e w1 ⟨rfl, hA⟩; obtain ⟨fp1, fq1, hB2, hP, hq1⟩ := ((HB1.out.quiet (Ext.drew _ _)).disk hA).opened HQ.out.1 HQ.out.2.1 HQ.out.2.2; have q1' : w1.cell? ⟨q, 1, none⟩ = some (.string name) := (hq1.2.2.2 _).trans q1; have q2' : w1.cell? ⟨q, 2, none⟩ = some (.string bytes) := (hq1.2.2.2 _).trans q2; have HB2 := Lib.hid hB2; have HP := Lib.hid hP; have HQ1 := Lib.hid hq1; clear hA hB2 hP hq1)
    | (go_at_call 40; refine (HR.out _ _ _ _ HB2.out).mono ?_; rintro e w2 ⟨rfl, hA2⟩; obtain ⟨fp2, fq2, hB3, hP3, hq2⟩ := (HB2.out.ref hA2).opened HQ1.out.1 HQ1.out.2.1 HQ1.out.2.2.1; have q1'' : w2.cell? ⟨q, 1, none⟩ = some (.string name) := (hq2.2.2.2 _).trans q1'; have q2'' : w2.cell? ⟨q, 2, none⟩ = some (.string bytes) := (hq2.2.2.2 _).trans q2'; clear hB3 hP3 hq2))
  all_goals
    go_wp2_with fail
    go_ret
    exact ⟨rfl, PAfter.pre (HX1.out.trans (Ext.drew _ _)) (PAfter.trans HP.out.1 HP.out.2.1 HP.out.2.2 (HB2.out.ref hA2))⟩
end Go.Proofs.Ytbopfdbenjnipaa
