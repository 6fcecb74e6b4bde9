/- The reference's disk: Left (41), Read (36), Name (48). -/
import Derived.Test.YtbopfdbenjnipaaRef1
namespace Go.Proofs.Ytbopfdbenjnipaa
set_option maxRecDepth 100000
open Go.RowKit Go.Maps Go.Sort
variable {w : World} {x : Nat} {R : Rf} {fp : List Nat}
theorem total_take_succ {l : List Fl} {k : Nat} (h : k < l.length) : total (l.take (k + 1)) = total (l.take k) + l[k].bytes.size := by
  rw [take_snoc' l h, total, total, List.map_append, List.sum_append]
  simp
theorem total_take_le (l : List Fl) (k : Nat) : total (l.take k) ≤ total l := total_sub (List.take_sublist k l)
set_option maxHeartbeats 400000 in
theorem left_any (h : RefAt w x R fp) (hR : R.Ok) :
    Calls Try.prog 41 #[.pointer (some ⟨x, 0, none⟩)] w fun e w' => e = .returned (.int .i64 R.left) ∧ w = w' := by
  obtain ⟨v, h⟩ := h
  obtain ⟨a, cap, rfl, hcap, hcapm, hsh⟩ := h.shape
  have c0 := h.cell.1
  have c1 := h.cell.2.1
  have hfew : R.L.length ≤ 64 := hR.few
  have hroom : R.room ≤ 1048576 := hR.room1
  have hfits : total R.L ≤ R.room := hR.fits
  clear h hR
  go_enter Try.func41, Try.ntmps41
  go_wp2
  go_loop [3, 4] (fun n i => ∃ k : Nat, k ≤ R.L.length ∧ i = .int .i64 k ∧ n = .int .i64 ((R.room : Int) - (total (R.L.take k) : Int))) (fun _ i => R.L.length - (intOf i).toNat)
  case atStart => exact ⟨0, Nat.zero_le _, rfl, by simp [total]⟩
  case round =>
    obtain ⟨k, hk, rfl, rfl⟩ := hrel
    have ht := total_take_le R.L k
    by_cases hlt : k < R.L.length
    · rcases hsh with h0 | ⟨g, rfl, _, _, hsh⟩
      · omega
      have hc := (hsh k hlt).2.1
      have hs := total_take_succ hlt
      have ht1 := total_take_le R.L (k + 1)
      clear hsh
      generalize R.L[k] = f at *
      have HS := Lib.hid hs
      have hsz : f.bytes.size ≤ 1048576 := by omega
      clear hs
      go_wp2
      refine ⟨⟨k + 1, by omega, by go_num, ?_⟩, by simp [intOf]; omega⟩
      rw [HS.out]; go_num
    · obtain rfl : k = R.L.length := by omega
      clear hsh
      go_wp2
      go_ret
      exact ⟨rfl, rfl⟩
set_option maxHeartbeats 400000 in
theorem rread_any (h : RefAt w x R fp) (hR : R.Ok) (s : ByteArray) :
    Calls Try.prog 36 #[.pointer (some ⟨x, 0, none⟩), .string s] w fun e w' => e = .returned (.tuple #[.string (R.read s.data.toList).1, .int .i64 (R.read s.data.toList).2]) ∧ w = w' := by
  have hfind := find_any h hR s
  have Hf := Lib.hid hfind
  obtain ⟨v, h⟩ := h
  obtain ⟨a, cap, rfl, hcap, hcapm, hsh⟩ := h.shape
  have c1 := h.cell.2.1
  have hfew : R.L.length ≤ 64 := hR.few
  cases hi : idxF R.L s.data.toList with
  | none =>
    have hf := idxF_none.1 hi
    have e1 : R.read s.data.toList = (ByteArray.empty, 5) := by simp only [Rf.read, hf]
    rw [e1]
    rw [placeI_none hi] at hfind
    have Hf := Lib.hid hfind
    clear hfind hi hf e1 h hR hsh
    go_enter Try.func36, Try.ntmps36
    go_wp2_with (go_at_call 47; refine Hf.out.mono ?_; rintro e w' ⟨rfl, rfl⟩)
    go_ret2
    exact ⟨rfl, rfl⟩
  | some i =>
    obtain ⟨hlt, hn, hf⟩ := idxF_some hi
    have e1 : R.read s.data.toList = (R.L[i].bytes, 0) := by simp only [Rf.read, hf]
    rw [e1]
    rw [placeI_some hi] at hfind
    have Hf := Lib.hid hfind
    rcases hsh with h0 | ⟨g, rfl, _, _, hsh⟩
    · omega
    have hc := (hsh i hlt).2.1
    clear hfind hi hf e1 h hR hsh hn
    generalize R.L[i] = f at *
    go_enter Try.func36, Try.ntmps36
    go_wp2_with (go_at_call 47; refine Hf.out.mono ?_; rintro e w' ⟨rfl, rfl⟩)
    go_ret2
    exact ⟨rfl, rfl⟩
set_option maxHeartbeats 1000000 in
theorem rname_any (w : World) (s : ByteArray) (hs : s.size ≤ 4611686018427387904) :
    Calls Try.prog 48 #[.string s] w fun e w' => e = .returned (.bool (nameOk s.data.toList)) ∧ w = w' := by
  have hlen : s.data.toList.length = s.size := by simp
  by_cases hsz : s.size < 1 ∨ 32 < s.size
  · have hN : nameOk s.data.toList = false := by
      rw [nameOk_eq, hlen]
      have : (decide (0 < s.size) && decide (s.size ≤ 32)) = false := by
        rw [Bool.and_eq_false_iff, decide_eq_false_iff_not, decide_eq_false_iff_not]; omega
      rw [this, Bool.and_false]
    rw [hN]
    clear hN hlen
    rcases hsz with h | h
    · go_enter Try.func48, Try.ntmps48
      go_wp2
      go_ret
      exact ⟨rfl, rfl⟩
    · have h1 : 1 ≤ s.size := by omega
      go_enter Try.func48, Try.ntmps48
      go_wp2
      go_ret
      exact ⟨rfl, rfl⟩
  · have h1 : 1 ≤ s.size := by omega
    have h2 : s.size ≤ 32 := by omega
    have Hlen := Lib.hid hlen
    clear hsz hlen
    go_enter Try.func48, Try.ntmps48
    go_wp2
    go_loop [3, 4] (fun i _ => ∃ k : Nat, k ≤ s.size ∧ i = .int .i64 k ∧ Hid ((s.data.toList.take k).all okC = true)) (fun i _ => s.size - (intOf i).toNat)
    case atStart => exact ⟨0, Nat.zero_le _, rfl, by simp [Hid]⟩
    case round =>
      obtain ⟨k, hk, rfl, hall⟩ := hrel
      by_cases hlt : k < s.size
      · have hcc : s.data.toList.getD k 0 = s[k] := by
          rw [List.getD, List.getElem?_eq_getElem (by rw [Hlen.out]; exact hlt)]
          simp
          rfl
        have hb0 : (0 : Int) ≤ (s[k].toNat : Int) := by omega
        have hb1 : (s[k].toNat : Int) ≤ 255 := by have := s[k].toNat_lt; omega
        have hok := okC_iff s[k]
        have Hok := Lib.hid hok
        have Hcc := Lib.hid hcc
        clear hok hcc
        go_wp2
        all_goals first
          | (go_ret
             have hbad : okC s[k] = false := by
               rw [← Bool.not_eq_true, Hok.out]
               simp only [Bool.not_eq_true', decide_eq_false_iff_not, beq_eq_false_iff_ne, ne_eq] at *
               omega
             exact ⟨by rw [nameOk_bad _ k (by rw [Hlen.out]; omega) (by rw [Hcc.out]; exact hbad)]; rfl, rfl⟩)
          | (have hgood : okC s[k] = true := by
               rw [Hok.out]
               simp only [Bool.not_eq_false', decide_eq_true_eq, beq_iff_eq] at *
               omega
             exact ⟨⟨k + 1, by omega, by go_num, take_all_succ _ k hall.out (by rw [Hcc.out]; exact hgood)⟩, by simp [intOf]; omega⟩)
      · have hall' : s.data.toList.all okC = true := by
          have h := hall.out
          rwa [List.take_of_length_le (by rw [Hlen.out]; omega)] at h
        have Hn : Hid (nameOk s.data.toList = true) := by
          show nameOk s.data.toList = true
          rw [nameOk_eq, hall', Hlen.out, Bool.true_and, Bool.and_eq_true, decide_eq_true_eq, decide_eq_true_eq]
          omega
        clear hall hall'
        go_wp2
        go_ret
        rw [Hn.out]
        exact ⟨rfl, rfl⟩
end Go.Proofs.Ytbopfdbenjnipaa
