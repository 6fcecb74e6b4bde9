/- The reference's disk: Same (24). -/
import Derived.Test.YtbopfdbenjnipaaRef8
import Derived.Laws.StructEq
namespace Go.Proofs.Ytbopfdbenjnipaa
set_option maxRecDepth 100000
open Go.RowKit Go.Maps Go.Sort
variable {w : World} {x y : Nat} {R R2 : Rf} {fp fp2 : List Nat}
def RSaid (w : World) (p : Prop) (e : Ending) (w' : World) : Prop := ∃ b, e = .returned (.bool b) ∧ (b = true ↔ p) ∧ Ext (fun _ => False) w w'
theorem fields78 : Try.prog.underlying 78 = some (.struct (Try.prog.fieldsOf 78)) := by kernel_rfl
theorem held78 : Try.prog.stoodInHeld 78 = false := by kernel_rfl
theorem neq_fl (w : World) (f f' : Fl) : (binOp .neq 78 (.agg #[.string ⟨f.name.toArray⟩, .string f.bytes, .int .i64 (f.synced : Int), .bool f.fresh]) (.agg #[.string ⟨f'.name.toArray⟩, .string f'.bytes, .int .i64 (f'.synced : Int), .bool f'.fresh])).run Try.prog w = .ok (.bool (@decide (f ≠ f') (Classical.propDecidable _))) w := by
  rw [run_neq_struct, run_equalIn_agg _ 9999 78 _ _ fields78 held78]
  go_simp
  obtain ⟨n, b, c, d⟩ := f
  obtain ⟨n', b', c', d'⟩ := f'
  have e1 : b.toList = b'.toList ↔ b = b' := by
    rw [Lib.toList_data, Lib.toList_data]
    exact ⟨fun h => by cases b; cases b'; simp only at h; congr 1; exact Array.toList_inj.1 h, fun h => by rw [h]⟩
  have e2 : (⟨n.toArray⟩ : ByteArray).toList = (⟨n'.toArray⟩ : ByteArray).toList ↔ n = n' := by
    rw [Lib.toList_data, Lib.toList_data]
  have e3 : ((c : Int) = (c' : Int)) ↔ c = c' := by omega
  by_cases h1 : n = n' <;> by_cases h2 : b = b' <;> by_cases h3 : c = c' <;> by_cases h4 : d = d' <;> simp [e1, e2, e3, h1, h2, h3, h4]
set_option maxHeartbeats 4000000 in
theorem rsame_any (h : RefAt w x R fp) (h2 : RefAt w y R2 fp2) (hR : R.Ok) (hR2 : R2.Ok) : Calls Try.prog 24 #[.pointer (some ⟨x, 0, none⟩), .pointer (some ⟨y, 0, none⟩)] w (RSaid w (R.room = R2.room ∧ R.L = R2.L)) := by
  obtain ⟨v, h⟩ := h
  obtain ⟨v2, h2⟩ := h2
  have hfew : R.L.length ≤ 64 := hR.few
  have hfew2 : R2.L.length ≤ 64 := hR2.few
  obtain ⟨a, cap, e, hcap, hcapm, _⟩ := h.shape
  subst e
  obtain ⟨a2, cap2, e, hcap2, hcapm2, _⟩ := h2.shape
  subst e
  have c0 := h.cell.1
  have c1 := h.cell.2.1
  have k0 := h2.cell.1
  have k1 := h2.cell.2.1
  have HL := Lib.hid h
  have HL2 := Lib.hid h2
  clear h h2
  by_cases hr : R.room = R2.room
  · have hq : ((R.room : Int) != (R2.room : Int)) = false := by simp [hr]
    by_cases hl : R.L.length = R2.L.length
    · have hq2 : ((R.L.length : Int) != (R2.L.length : Int)) = false := by simp [hl]
      go_enter Try.func24, Try.ntmps24
      go_wp2
      go_quiet (fail)
      go_wp2
      go_loopw [5] (fun i wr => ∃ k : Nat, k ≤ R.L.length ∧ i = .int .i64 k ∧ Hid (Ext (fun _ => False) w wr) ∧ Hid (R.L.take k = R2.L.take k)) (fun i _ => R.L.length - (intOf i).toNat)
      case atStart => exact ⟨0, Nat.zero_le _, rfl, Ext.drewN _ _ _, by show _ = _; simp⟩
      case round =>
        obtain ⟨k, hk, rfl, hx, ht⟩ := hrel
        have l1 := HL.out.keep (fun b hb => hx.out.block b (HL.out.lt b hb) (fun h => h))
        have l2 := HL2.out.keep (fun b hb => hx.out.block b (HL2.out.lt b hb) (fun h => h))
        have q1 := l1.cell.2.1
        have q2 := l2.cell.2.1
        by_cases hlt : k < R.L.length
        · have hlt2 : k < R2.L.length := by omega
          obtain ⟨a', cap', e, _, _, hs⟩ := l1.shape
          simp only [Value.slice.injEq] at e
          obtain ⟨rfl, -, rfl⟩ := e
          obtain ⟨a', cap', e, _, _, hs2⟩ := l2.shape
          simp only [Value.slice.injEq] at e
          obtain ⟨rfl, -, rfl⟩ := e
          rcases hs with hz | ⟨g, rfl, _, _, hs⟩
          · omega
          rcases hs2 with hz | ⟨g2, rfl, _, _, hs2⟩
          · omega
          obtain ⟨p0, p1, p2, p3⟩ := hs k hlt
          obtain ⟨r0, r1, r2, r3⟩ := hs2 k hlt2
          have ts1 := take_snoc' R.L hlt
          have ts2 := take_snoc' R2.L hlt2
          have hn := fun w => neq_fl w R.L[k] R2.L[k]
          by_cases hf : R.L[k] = R2.L[k]
          · have hn2 : ∀ w, _ := fun w => (hn w).trans (by rw [show @decide (R.L[k] ≠ R2.L[k]) (Classical.propDecidable _) = false from by simp [hf]])
            have HT : Hid (R.L.take (k + 1) = R2.L.take (k + 1)) := by show _ = _; rw [ts1, ts2, ht.out, hf]
            clear hn l1 l2 ts1 ts2 hf hs hs2
            generalize R.L[k] = f at *
            generalize R2.L[k] = f2 at *
            go_wp2
            go_quiet (fail)
            go_wp2
            go_roundw
            case rel => exact ⟨k + 1, by omega, by go_num, hx.out.trans (Ext.drewN _ _ _), HT.out⟩
            case measure => simp [intOf]; omega
          · have hn2 : ∀ w, _ := fun w => (hn w).trans (by rw [show @decide (R.L[k] ≠ R2.L[k]) (Classical.propDecidable _) = true from by simp [hf]])
            have hd : ¬ (R.room = R2.room ∧ R.L = R2.L) := fun h => hf (by simp [h.2])
            clear hn l1 l2 ts1 ts2 hf hs hs2
            generalize R.L[k] = f at *
            generalize R2.L[k] = f2 at *
            go_wp2
            go_quiet (fail)
            go_wp2
            go_ret
            exact ⟨false, rfl, ⟨fun h => (by cases h), fun h => (hd h).elim⟩, hx.out.trans (Ext.drewN _ _ _)⟩
        · obtain rfl : k = R.L.length := by omega
          have hd : R.room = R2.room ∧ R.L = R2.L := ⟨hr, by have := ht.out; rwa [List.take_length, hl, List.take_length] at this⟩
          clear l1 l2
          go_wp2
          go_ret
          exact ⟨true, rfl, ⟨fun _ => hd, fun _ => rfl⟩, hx.out⟩
    · have hq2 : ((R.L.length : Int) != (R2.L.length : Int)) = true := by rw [bne_iff_ne]; omega
      have hd : ¬ (R.room = R2.room ∧ R.L = R2.L) := fun h => hl (by rw [h.2])
      go_enter Try.func24, Try.ntmps24
      go_wp2
      go_quiet (fail)
      go_wp2
      go_ret
      exact ⟨false, rfl, ⟨fun h => (by cases h), fun h => (hd h).elim⟩, Ext.drewN _ _ _⟩
  · have hq : ((R.room : Int) != (R2.room : Int)) = true := by rw [bne_iff_ne]; omega
    have hd : ¬ (R.room = R2.room ∧ R.L = R2.L) := fun h => hr h.1
    go_enter Try.func24, Try.ntmps24
    go_wp2
    go_quiet (fail)
    go_wp2
    go_ret
    exact ⟨false, rfl, ⟨fun h => (by cases h), fun h => (hd h).elim⟩, Ext.drewN _ _ _⟩
end Go.Proofs.Ytbopfdbenjnipaa
