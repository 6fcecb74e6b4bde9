/- Same's closure (43). -/
import Derived.Test.YtbopfdbenjnipaaRef9
namespace Go.Proofs.Ytbopfdbenjnipaa
set_option maxRecDepth 100000
open Go.RowKit Go.Maps Go.Sort
variable {w : World}
theorem fields65 : Try.prog.underlying 65 = some (.struct (Try.prog.fieldsOf 65)) := by kernel_rfl
theorem held65 : Try.prog.stoodInHeld 65 = false := by kernel_rfl
theorem eql_file (w : World) (b b' : ByteArray) (c c' : Nat) (d d' : Bool) : (binOp .eql 65 (.agg #[.string b, .int .i64 (c : Int), .bool d]) (.agg #[.string b', .int .i64 (c' : Int), .bool d'])).run Try.prog w = .ok (.bool (@decide (b = b' ∧ c = c' ∧ d = d') (Classical.propDecidable _))) w := by
  rw [run_eql_struct, run_equalIn_agg _ 9999 65 _ _ fields65 held65]
  go_simp
  have e1 : b.toList = b'.toList ↔ b = b' := by
    rw [Lib.toList_data, Lib.toList_data]
    exact ⟨fun h => by cases b; cases b'; simp only at h; congr 1; exact Array.toList_inj.1 h, fun h => by rw [h]⟩
  have e3 : ((c : Int) = (c' : Int)) ↔ c = c' := by omega
  by_cases h2 : b = b' <;> by_cases h3 : c = c' <;> by_cases h4 : d = d' <;> simp [e1, e3, h2, h3, h4]
theorem same1_any {q q' : Nat} {b b' : ByteArray} {c c' : Nat} {d d' : Bool}
    (k0 : w.cell? ⟨q, 0, none⟩ = some (.string b)) (k1 : w.cell? ⟨q, 1, none⟩ = some (.int .i64 (c : Int))) (k2 : w.cell? ⟨q, 2, none⟩ = some (.bool d))
    (l0 : w.cell? ⟨q', 0, none⟩ = some (.string b')) (l1 : w.cell? ⟨q', 1, none⟩ = some (.int .i64 (c' : Int))) (l2 : w.cell? ⟨q', 2, none⟩ = some (.bool d')) :
    Calls Try.prog 43 #[.pointer (some ⟨q, 0, none⟩), .pointer (some ⟨q', 0, none⟩)] w (RSaid w (b = b' ∧ c = c' ∧ d = d')) := by
  have hn := fun w => eql_file w b b' c c' d d'
  generalize he : @decide (b = b' ∧ c = c' ∧ d = d') (Classical.propDecidable _) = r at hn
  have hr : r = true ↔ (b = b' ∧ c = c' ∧ d = d') := by rw [← he]; simp
  have HR := Lib.hid hr
  clear he hr
  go_enter Try.func43, Try.ntmps43
  go_wp2
  go_quiet (fail)
  go_wp2
  go_ret
  exact ⟨r, rfl, HR.out, Ext.drewN _ _ _⟩
end Go.Proofs.Ytbopfdbenjnipaa
