/- The check of a name: portcullis/disk.name. -/
import Derived.Test.YtbopfdbenjnipaaBase
import Derived.Laws.IdiomStrings
namespace Go.Proofs.Ytbopfdbenjnipaa
open Go.RowKit Go.Maps
theorem conv85 (w : World) (s : ByteArray) : ∃ c w1, (convert 9 85 (.string s)).run Try.prog w = .ok (.slice (some ⟨w.heap.size, 0, none⟩) s.size c) w1 ∧ (∀ k : Nat, k < s.size → w1.cell? ⟨w.heap.size, k, none⟩ = some (.int .u8 ((s.data.toList.getD k 0).toNat : Int))) ∧ Below w.heap.size w w1 := by
  refine ⟨_, _, run_bytes_of_string w 9 85 5 s Try.underlying9 Try.underlying85 Try.underlying5, ?_, ?_⟩
  · intro k hk
    have e := heap_alloc_new w.drew (.cells (bytesRow s (grownCap w s.size 0 5)) 5 ((bytesRow s (grownCap w s.size 0 5)).size, (bytesRow s (grownCap w s.size 0 5)).size + 1))
    have e1 : w.drew.heap.size = w.heap.size := rfl
    rw [e1] at e
    simp only [World.cell?, e]
    have hk' : k < s.data.size := hk
    simp [bytesRow, Array.getElem?_append, hk', List.getD, hk]
  · exact (Below.refl _ w).drew.alloc (Nat.le_refl _) _
theorem ret_bool {a b : Bool} (h : a = b) : Ending.returned (.bool a) = .returned (.bool b) := by rw [h]
def okC (c : UInt8) : Bool := (97 ≤ c && c ≤ 122) || (48 ≤ c && c ≤ 57) || c == 45 || c == 46
theorem okC_iff (c : UInt8) : okC c = true ↔ (97 ≤ (c.toNat : Int) ∧ (c.toNat : Int) ≤ 122) ∨ (48 ≤ (c.toNat : Int) ∧ (c.toNat : Int) ≤ 57) ∨ (c.toNat : Int) = 45 ∨ (c.toNat : Int) = 46 := by
  simp only [okC, Bool.or_eq_true, Bool.and_eq_true, decide_eq_true_eq, beq_iff_eq, UInt8.le_iff_toNat_le, ← UInt8.toNat_inj]
  simp only [UInt8.reduceToNat]
  omega
theorem nameOk_eq (s : List UInt8) : nameOk s = (s.all okC && (decide (0 < s.length) && decide (s.length ≤ 32))) := rfl
theorem take_all_succ (l : List UInt8) (k : Nat) (h : (l.take k).all okC = true) (hk : okC (l.getD k 0) = true) : (l.take (k + 1)).all okC = true := by
  by_cases hlt : k < l.length
  · rw [List.take_succ_eq_append_getElem hlt, List.all_append, h]
    have : l.getD k 0 = l[k] := by simp [List.getD, hlt]
    rw [this] at hk
    simp [hk]
  · rw [List.take_of_length_le (by omega)]; rwa [List.take_of_length_le (by omega)] at h
theorem nameOk_bad (l : List UInt8) (k : Nat) (hk : k < l.length) (h : okC (l.getD k 0) = false) : nameOk l = false := by
  rw [nameOk_eq]
  have : l.all okC = false := by
    rw [List.all_eq_false]
    refine ⟨l[k], List.getElem_mem hk, ?_⟩
    have e : l.getD k 0 = l[k] := by simp [List.getD, hk]
    rw [e] at h; simp [h]
  simp [this]
set_option maxHeartbeats 400000 in
theorem name_any (w : World) (s : ByteArray) (hs : s.size ≤ 4611686018427387904) :
    Calls Try.prog 31 #[.string s] w fun e w' => e = .returned (.bool (nameOk s.data.toList)) ∧ Below w.heap.size w w' := by
  obtain ⟨c, w1, hrun, hcell, hb⟩ := conv85 w s
  have hlen : s.data.toList.length = s.size := by simp
  have Hlen := Lib.hid hlen
  clear hlen
  go_enter Try.func31, Try.ntmps31
  go_wp2
  go_loop [4, 8] (fun _ i => ∃ k : Nat, k ≤ s.size ∧ i = .int .i64 k ∧ Hid ((s.data.toList.take k).all okC = true)) (fun _ i => s.size - (intOf i).toNat)
  case atStart => exact ⟨0, Nat.zero_le _, rfl, by simp [Hid]⟩
  case round =>
    obtain ⟨k, hk, rfl, hall⟩ := hrel
    by_cases hlt : k < s.size
    · have hc := hcell k hlt
      clear hcell
      have hb0 : (0 : Int) ≤ ((s.data.toList.getD k 0).toNat : Int) := by omega
      have hb1 : ((s.data.toList.getD k 0).toNat : Int) ≤ 255 := by have := (s.data.toList.getD k 0).toNat_lt; omega
      generalize hcc : s.data.toList.getD k 0 = cc at *
      have hok := okC_iff cc
      have Hok := Lib.hid hok
      have Hcc := Lib.hid hcc
      clear hok hcc hrun
      go_wp2
      all_goals first
        | (go_ret
           have hbad : okC cc = false := by
             rw [← Bool.not_eq_true, Hok.out]
             simp only [bne_iff_ne, ne_eq] at *
             omega
           exact ⟨by rw [nameOk_bad _ k (by rw [Hlen.out]; omega) (by rw [Hcc.out]; exact hbad)]; rfl, hb⟩)
        | (have hgood : okC cc = true := by
             rw [Hok.out]
             try simp only [bne_eq_false_iff_eq] at *
             omega
           exact ⟨⟨k + 1, by omega, by go_num, take_all_succ _ k hall.out (by rw [Hcc.out]; exact hgood)⟩, by simp [intOf]; omega⟩)
    · clear hrun hcell
      have hall' : s.data.toList.all okC = true := by
        have h := hall.out
        rwa [List.take_of_length_le (by rw [Hlen.out]; omega)] at h
      have Hn := Lib.hid (nameOk_eq s.data.toList)
      clear hall
      have Hall := Lib.hid hall'
      clear hall'
      go_wp2
      · have hlo : 0 < s.size := by assumption
        go_ret
        refine ⟨ret_bool ?_, hb⟩
        rw [Hn.out, Hall.out, Hlen.out, Bool.true_and, decide_eq_true hlo, Bool.true_and]
        exact decide_eq_decide.2 (by omega)
      · have hlo : ¬ 0 < s.size := by assumption
        go_ret
        refine ⟨ret_bool ?_, hb⟩
        rw [Hn.out, Hall.out, Hlen.out, Bool.true_and, decide_eq_false hlo, Bool.false_and]
end Go.Proofs.Ytbopfdbenjnipaa
