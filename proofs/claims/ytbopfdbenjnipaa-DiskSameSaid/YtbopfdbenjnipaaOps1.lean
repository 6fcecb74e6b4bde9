/- The calls of a disk that write little: never, after, file, Read, Room, Loose, Fails, New. -/
import Derived.Test.YtbopfdbenjnipaaName
import Derived.Laws.EntriesVeiled
import Derived.Deep.QuietTactic
import Derived.BigQuiet
namespace Go.Proofs.Ytbopfdbenjnipaa
open Go.RowKit Go.Maps
theorem never_any (w : World) : Calls Try.prog 29 #[] w fun e w' => e = .returned (.bool false) ∧ w = w' := by
  go_enter Try.func29, Try.ntmps29
  go_wp2
  go_ret
  exact ⟨rfl, rfl⟩
theorem after1_any (w : World) (b : Nat) (c : Int) (hc : w.cell? ⟨b, 0, none⟩ = some (.int .i64 c)) (hf : w.frozen? ⟨b, 0, none⟩ = false) (h1 : -9223372036854775807 ≤ c) (h2 : c ≤ 9223372036854775807) :
    Calls Try.prog 46 #[.pointer (some ⟨b, 0, none⟩)] w fun e w' => e = .returned (.bool (c - 1 == 0)) ∧ w.setCell ⟨b, 0, none⟩ (.int .i64 (c - 1)) = w' := by
  go_enter Try.func46, Try.ntmps46
  go_wp2
  go_ret
  exact ⟨rfl, rfl⟩
theorem none_nil (w : World) : Calls Try.prog 30 #[.pointer none] w fun e w' => e = .returned (.bool true) ∧ w = w' := by
  go_enter Try.func30, Try.ntmps30
  go_wp2
  go_ret
  exact ⟨rfl, rfl⟩
theorem none_some (w : World) (d m : Nat) (h2 : w.cell? ⟨d, 2, none⟩ = some (.map (some m))) : Calls Try.prog 30 #[.pointer (some ⟨d, 0, none⟩)] w fun e w' => e = .returned (.bool false) ∧ w = w' := by
  have qT : ∀ (w : World) (r : Option Nat), (binOp .eql 59 (.map r) (.map none)).run Try.prog w = .ok (.bool r.isNone) w := fun w r => run_eql_map_nil w _ _ _ r Try.underlying59
  go_enter Try.func30, Try.ntmps30
  go_wp2
  go_ret
  exact ⟨rfl, rfl⟩
section
variable {w : World} {d m : Nat} {es : List (Fl × Nat)} {vA vS : Value} {cA cS : List Nat} {S : Dk} {fp : List Nat}
theorem Lay.cell (h : Lay w d m es vA vS cA cS S fp) : w.cell? ⟨d, 0, none⟩ = some (.int .i64 (S.room : Int)) ∧ w.cell? ⟨d, 1, none⟩ = some (.int .i64 S.left) ∧ w.cell? ⟨d, 2, none⟩ = some (.map (some m)) ∧ w.cell? ⟨d, 3, none⟩ = some vA ∧ w.cell? ⟨d, 4, none⟩ = some vS := by
  have hd := h.hd
  refine ⟨?_, ?_, ?_, ?_, ?_⟩ <;> simp [World.cell?, hd]
theorem Lay.free (h : Lay w d m es vA vS cA cS S fp) : w.frozen? ⟨d, 1, none⟩ = false ∧ w.frozen? ⟨d, 3, none⟩ = false ∧ w.frozen? ⟨d, 4, none⟩ = false := by
  have hd := h.hd
  refine ⟨?_, ?_, ?_⟩ <;> simp [World.frozen?, hd]
theorem FlAt.cell {w : World} {f : Fl} {b : Nat} (h : FlAt w f b) : w.cell? ⟨b, 0, none⟩ = some (.string f.bytes) ∧ w.cell? ⟨b, 1, none⟩ = some (.int .i64 (f.synced : Int)) ∧ w.cell? ⟨b, 2, none⟩ = some (.bool f.fresh) := by
  refine ⟨?_, ?_, ?_⟩ <;> simp [World.cell?, show w.heap[b]? = _ from h]
theorem FlAt.free {w : World} {f : Fl} {b : Nat} (h : FlAt w f b) : w.frozen? ⟨b, 0, none⟩ = false ∧ w.frozen? ⟨b, 1, none⟩ = false ∧ w.frozen? ⟨b, 2, none⟩ = false := by
  refine ⟨?_, ?_, ?_⟩ <;> simp [World.frozen?, show w.heap[b]? = _ from h]
/-- file (32): a file that is there. -/
theorem file_found (h : Lay w d m es vA vS cA cS S fp) (s : ByteArray) (hs : s.size ≤ maxLen) {f : Fl} (hf : findF S.files s.data.toList = some f) :
    ∃ b, (f, b) ∈ es ∧ Calls Try.prog 32 #[.pointer (some ⟨d, 0, none⟩), .string s] w fun e w' => e = .returned (.tuple #[.pointer (some ⟨b, 0, none⟩), .int .i64 0]) ∧ w = w' := by
  obtain ⟨c0, c1, c2, c3, c4⟩ := h.cell
  rw [h.files] at hf
  obtain ⟨b, hb, hat⟩ := atKey_dataOf_some hf
  refine ⟨b, hb, ?_⟩
  have hkey := WideMaps.keyOf_string_mk Try.underlying9 hs
  obtain ⟨v, ps, hrun, hv⟩ := h.hm.lookup law9 Try.underlying59 (zero63 w) (zd := .nil) (zp := []) rfl hkey
  rw [hat] at hv
  obtain rfl := ptrElem_held hv
  clear hv hat hkey hf hb h c0 c1 c3 c4
  go_enter Try.func32, Try.ntmps32
  go_wp2_with (go_at_call 30; refine (none_some _ d m c2).mono ?_; rintro e w' ⟨rfl, rfl⟩)
  go_ret2
  exact ⟨rfl, rfl⟩
theorem file_missing (h : Lay w d m es vA vS cA cS S fp) (s : ByteArray) (hs : s.size ≤ maxLen) (hf : findF S.files s.data.toList = none) :
    Calls Try.prog 32 #[.pointer (some ⟨d, 0, none⟩), .string s] w fun e w' => e = .returned (.tuple #[.pointer none, .int .i64 5]) ∧ w = w' := by
  obtain ⟨c0, c1, c2, c3, c4⟩ := h.cell
  rw [h.files] at hf
  have hkey := WideMaps.keyOf_string_mk Try.underlying9 hs
  obtain ⟨v, ps, hrun, hv⟩ := h.hm.lookup law9 Try.underlying59 (zero63 w) (zd := .nil) (zp := []) rfl hkey
  rw [atKey_dataOf_none hf] at hv
  obtain rfl := ptrElem_nil hv
  clear hv hkey hf h c0 c1 c3 c4
  go_enter Try.func32, Try.ntmps32
  go_wp2_with (go_at_call 30; refine (none_some _ d m c2).mono ?_; rintro e w' ⟨rfl, rfl⟩)
  go_ret2
  exact ⟨rfl, rfl⟩
end
theorem file_nil (w : World) (s : ByteArray) :
    Calls Try.prog 32 #[.pointer none, .string s] w fun e w' => e = .returned (.tuple #[.pointer none, .int .i64 1]) ∧ w = w' := by
  go_enter Try.func32, Try.ntmps32
  go_wp2_with (go_at_call 30; refine (none_nil _).mono ?_; rintro e w' ⟨rfl, rfl⟩)
  go_ret2
  exact ⟨rfl, rfl⟩
/-! ### Read (14), Loose (15), Room (28) -/
def Dk.read (S : Dk) (s : List UInt8) : ByteArray × Int :=
  match findF S.files s with
  | none => (ByteArray.empty, 5)
  | some f => (f.bytes, 0)
def Dk.loose (S : Dk) (s : List UInt8) : Int :=
  match findF S.files s with
  | none => 0
  | some f => (f.bytes.size : Int) - (f.synced : Int)
theorem read_any {w : World} {d : Nat} {S : Dk} {fp : List Nat} (h : DiskAt w d S fp) (s : ByteArray) (hs : s.size ≤ maxLen) :
    Calls Try.prog 14 #[.pointer (some ⟨d, 0, none⟩), .string s] w fun e w' => e = .returned (.tuple #[.string (S.read s.data.toList).1, .int .i64 (S.read s.data.toList).2]) ∧ w = w' := by
  obtain ⟨m, es, vA, vS, cA, cS, h⟩ := h
  cases hf : findF S.files s.data.toList with
  | none =>
    have e1 : S.read s.data.toList = (ByteArray.empty, 5) := by simp only [Dk.read, hf]
    have hc := file_missing h s hs hf
    rw [e1]
    clear h hf e1
    have Hc := Lib.hid hc
    clear hc
    go_enter Try.func14, Try.ntmps14
    go_wp2_with (go_at_call 32; refine Hc.out.mono ?_; rintro e w' ⟨rfl, rfl⟩)
    go_ret2
    exact ⟨rfl, rfl⟩
  | some f =>
    have e1 : S.read s.data.toList = (f.bytes, 0) := by simp only [Dk.read, hf]
    obtain ⟨b, hb, hc⟩ := file_found h s hs hf
    obtain ⟨b0, b1, b2⟩ := (h.fls _ hb).cell
    rw [e1]
    clear h hf e1 hb
    have Hc := Lib.hid hc
    clear hc
    go_enter Try.func14, Try.ntmps14
    go_wp2_with (go_at_call 32; refine Hc.out.mono ?_; rintro e w' ⟨rfl, rfl⟩)
    go_ret2
    exact ⟨rfl, rfl⟩
theorem read_nil (w : World) (s : ByteArray) : Calls Try.prog 14 #[.pointer none, .string s] w fun e w' => e = .returned (.tuple #[.string ByteArray.empty, .int .i64 1]) ∧ w = w' := by
  go_enter Try.func14, Try.ntmps14
  go_wp2_with (go_at_call 32; refine (file_nil _ _).mono ?_; rintro e w' ⟨rfl, rfl⟩)
  go_ret2
  exact ⟨rfl, rfl⟩
theorem room_any {w : World} {d : Nat} {S : Dk} {fp : List Nat} (h : DiskAt w d S fp) :
    Calls Try.prog 28 #[.pointer (some ⟨d, 0, none⟩)] w fun e w' => e = .returned (.int .i64 S.left) ∧ w = w' := by
  obtain ⟨m, es, vA, vS, cA, cS, h⟩ := h
  obtain ⟨c0, c1, c2, c3, c4⟩ := h.cell
  clear h c0 c3 c4
  go_enter Try.func28, Try.ntmps28
  go_wp2_with (go_at_call 30; refine (none_some _ d m c2).mono ?_; rintro e w' ⟨rfl, rfl⟩)
  go_ret
  exact ⟨rfl, rfl⟩
theorem room_nil (w : World) : Calls Try.prog 28 #[.pointer none] w fun e w' => e = .returned (.int .i64 0) ∧ w = w' := by
  go_enter Try.func28, Try.ntmps28
  go_wp2_with (go_at_call 30; refine (none_nil _).mono ?_; rintro e w' ⟨rfl, rfl⟩)
  go_ret
  exact ⟨rfl, rfl⟩
theorem Dk.Ok.size_le {K : Nat} {S : Dk} (h : S.Ok K) {f : Fl} (hf : f ∈ S.files) : f.bytes.size ≤ 1048576 := by
  have h1 : f.bytes.size ≤ total S.files := by
    unfold total
    have : ∀ l : List Fl, f ∈ l → f.bytes.size ≤ (l.map (·.bytes.size)).sum := by
      intro l hl
      induction l with
      | nil => simp at hl
      | cons x r ih =>
        rcases List.mem_cons.1 hl with rfl | hl
        · simp
        · have := ih hl; simp; omega
    exact this _ hf
  have := h.fits; have := h.room1; omega
theorem Ext.drewN (F : Nat → Prop) (w : World) (n : Nat) : Ext F w (w.drewN n) := ⟨rfl, rfl, rfl, Nat.le_refl _, fun _ _ _ => rfl⟩
theorem loose_any {w : World} {d K : Nat} {S : Dk} {fp : List Nat} (h : DiskAt w d S fp) (hS : S.Ok K) (s : ByteArray) (hs : s.size ≤ maxLen) :
    Calls Try.prog 15 #[.pointer (some ⟨d, 0, none⟩), .string s] w fun e w' => e = .returned (.int .i64 (S.loose s.data.toList)) ∧ Ext (fun _ => False) w w' := by
  obtain ⟨m, es, vA, vS, cA, cS, h⟩ := h
  cases hf : findF S.files s.data.toList with
  | none =>
    have e1 : S.loose s.data.toList = 0 := by simp only [Dk.loose, hf]
    have hc := file_missing h s hs hf
    rw [e1]
    clear h hf e1
    have Hc := Lib.hid hc
    clear hc
    go_enter Try.func15, Try.ntmps15
    go_wp2_with (go_at_call 32; refine Hc.out.mono ?_; rintro e w' ⟨rfl, rfl⟩)
    go_ret
    exact ⟨rfl, Ext.refl _ _⟩
  | some f =>
    have e1 : S.loose s.data.toList = (f.bytes.size : Int) - (f.synced : Int) := by simp only [Dk.loose, hf]
    obtain ⟨b, hb, hc⟩ := file_found h s hs hf
    obtain ⟨b0, b1, b2⟩ := (h.fls _ hb).cell
    have hm := (findF_mem hf).1
    have l1 := hS.size_le hm
    have l2 := hS.synced f hm
    rw [e1]
    clear h hf e1 hb hm
    have Hc := Lib.hid hc
    clear hc
    go_enter Try.func15, Try.ntmps15
    go_wp2_with (go_at_call 32; refine Hc.out.mono ?_; rintro e w' ⟨rfl, rfl⟩)
    go_quiet (fail)
    go_wp2
    go_ret
    exact ⟨rfl, Ext.drewN _ _ _⟩
theorem loose_nil (w : World) (s : ByteArray) : Calls Try.prog 15 #[.pointer none, .string s] w fun e w' => e = .returned (.int .i64 0) ∧ w = w' := by
  go_enter Try.func15, Try.ntmps15
  go_wp2_with (go_at_call 32; refine (file_nil _ _).mono ?_; rintro e w' ⟨rfl, rfl⟩)
  go_ret
  exact ⟨rfl, rfl⟩
/-! ### after (33), Fails (18), New (9) -/
theorem after_any (w : World) (n : Int) : Calls Try.prog 33 #[.int .i64 n] w fun e w' => e = .returned (.func (.func 46) #[] #[.pointer (some ⟨w.heap.size, 0, none⟩)]) ∧ w.alloc (.cells #[.int .i64 n] 3) = w' := by
  have hmf : ∀ (fn : Fn) (first cap : Array Value) (w : World), (Instr.makeFunc fn first cap).run Try.prog w = .ok (.func fn first cap) w := fun _ _ _ _ => rfl
  go_enter Try.func33, Try.ntmps33
  go_wp2
  go_ret
  exact ⟨rfl, rfl⟩
theorem new_bad (w : World) (n : Int) (h : n < 1 ∨ 1048576 < n) : Calls Try.prog 9 #[.int .i64 n] w fun e w' => e = .returned (.tuple #[.pointer none, .int .i64 2]) ∧ w = w' := by
  rcases h with h | h
  · go_enter Try.func9, Try.ntmps9
    go_wp2
    go_ret2
    exact ⟨rfl, rfl⟩
  · have h' : 1 ≤ n := by omega
    go_enter Try.func9, Try.ntmps9
    go_wp2
    go_ret2
    exact ⟨rfl, rfl⟩
theorem new_world (w : World) (n : Int) (h1 : 1 ≤ n) (h2 : n ≤ 1048576) : Calls Try.prog 9 #[.int .i64 n] w fun e w' => e = .returned (.tuple #[.pointer (some ⟨w.heap.size + 1, 0, none⟩), .int .i64 0]) ∧
    (w.alloc (.map #[] 0)).alloc (.cells #[.int .i64 n, .int .i64 n, .map (some w.heap.size), .func (.func 29) #[] #[], .func (.func 29) #[] #[]] 61) = w' := by
  have hmm := @run_makeMap Try.prog
  go_enter Try.func9, Try.ntmps9
  go_wp2
  go_ret2
  exact ⟨rfl, rfl⟩
theorem new_ok (w : World) (n : Int) (h1 : 1 ≤ n) (h2 : n ≤ 1048576) : Calls Try.prog 9 #[.int .i64 n] w fun e w' => e = .returned (.tuple #[.pointer (some ⟨w.heap.size + 1, 0, none⟩), .int .i64 0]) ∧
    After w (w.heap.size + 1) [] (Dk.new n) w' := by
  refine (new_world w n h1 h2).mono ?_
  rintro e w' ⟨rfl, rfl⟩
  refine ⟨rfl, ?_⟩
  have en : ((n.toNat : Nat) : Int) = n := by omega
  have e0 : w.heap.size ≠ w.heap.size + 1 := by omega
  have z : (w.alloc (.map #[] 0)).heap.size = w.heap.size + 1 := by simp
  have hn := heap_new (w.alloc (.map #[] 0)) (.cells #[.int .i64 n, .int .i64 n, .map (some w.heap.size), .func (.func 29) #[] #[], .func (.func 29) #[] #[]] 61)
  rw [z] at hn
  refine ⟨[w.heap.size + 1, w.heap.size], ⟨w.heap.size, [], .func (.func 29) #[] #[], .func (.func 29) #[] #[], [], [], ?_⟩, (Ext.alloc _ _ _).trans (Ext.alloc _ _ _), ?_⟩
  · refine { hd := ?_, hm := ?_, files := rfl, fls := by simp, fnA := ⟨rfl, rfl⟩, fnS := ⟨rfl, rfl⟩, hfp := by simp, nd := by simp }
    · rw [hn]; simp only [Dk.new, Dk.left, total_nil, en]; simp
    · exact (World.ownsMap_made w _ _ _).alloc _
  · intro b hb; right; simp at hb; rcases hb with rfl | rfl <;> omega
theorem nil_fails (w : World) (a s : Int) : Calls Try.prog 18 #[.pointer none, .int .i64 a, .int .i64 s] w fun e w' => e = .returned (.int .i64 1) ∧ w = w' := by
  go_enter Try.func18, Try.ntmps18
  go_wp2_with (go_at_call 30; refine (none_nil _).mono ?_; rintro e w' ⟨rfl, rfl⟩)
  go_ret
  exact ⟨rfl, rfl⟩
theorem fails_world_bad {w : World} {d m : Nat} (c2 : w.cell? ⟨d, 2, none⟩ = some (.map (some m))) (a s : Int) (h : a < 0 ∨ s < 0) :
    Calls Try.prog 18 #[.pointer (some ⟨d, 0, none⟩), .int .i64 a, .int .i64 s] w fun e w' => e = .returned (.int .i64 2) ∧ w = w' := by
  by_cases ha : a < 0
  · clear h
    go_enter Try.func18, Try.ntmps18
    go_wp2_with (go_at_call 30; refine (none_some _ d m c2).mono ?_; rintro e w' ⟨rfl, rfl⟩)
    go_ret
    exact ⟨rfl, rfl⟩
  · have hs : s < 0 := by omega
    clear h
    go_enter Try.func18, Try.ntmps18
    go_wp2_with (go_at_call 30; refine (none_some _ d m c2).mono ?_; rintro e w' ⟨rfl, rfl⟩)
    go_ret
    exact ⟨rfl, rfl⟩
set_option maxHeartbeats 400000 in
theorem fails_world {w : World} {d m : Nat} {vA vS x y : Value} (hd : w.heap[d]? = some (.cells #[x, y, .map (some m), vA, vS] 61 (0, 0))) (a s : Int) (ha : 0 ≤ a) (hs : 0 ≤ s) :
    Calls Try.prog 18 #[.pointer (some ⟨d, 0, none⟩), .int .i64 a, .int .i64 s] w fun e w' => e = .returned (.int .i64 0) ∧
      (((w.setCell ⟨d, 3, none⟩ (.func (.func 46) #[] #[.pointer (some ⟨w.heap.size, 0, none⟩)])).setCell ⟨d, 4, none⟩ (.func (.func 46) #[] #[.pointer (some ⟨w.heap.size + 1, 0, none⟩)])).alloc (.cells #[.int .i64 a] 3)).alloc (.cells #[.int .i64 s] 3) = w' := by
  have c2 : w.cell? ⟨d, 2, none⟩ = some (.map (some m)) := by simp [World.cell?, hd]
  have c3 : w.cell? ⟨d, 3, none⟩ = some vA := by simp [World.cell?, hd]
  have c4 : w.cell? ⟨d, 4, none⟩ = some vS := by simp [World.cell?, hd]
  have f3 : w.frozen? ⟨d, 3, none⟩ = false := by simp [World.frozen?, hd]
  have f4 : w.frozen? ⟨d, 4, none⟩ = false := by simp [World.frozen?, hd]
  have hlt : d < w.heap.size := (Array.getElem?_eq_some_iff.1 hd).1
  clear hd
  go_enter Try.func18, Try.ntmps18
  go_wp2_with (first | (go_at_call 30; refine (none_some _ d m c2).mono ?_; rintro e w' ⟨rfl, rfl⟩) | (go_at_call 33; refine (after_any _ _).mono ?_; rintro e w' ⟨rfl, rfl⟩))
  go_ret
  exact ⟨rfl, rfl⟩
theorem fails_any {w : World} {d : Nat} {S : Dk} {fp : List Nat} (h : DiskAt w d S fp) (a s : Int) :
    Calls Try.prog 18 #[.pointer (some ⟨d, 0, none⟩), .int .i64 a, .int .i64 s] w fun e w' => e = .returned (.int .i64 (S.fails a s).2) ∧ After w d fp (S.fails a s).1 w' := by
  have hlt := h.lt
  obtain ⟨m, es, vA, vS, cA, cS, h⟩ := h
  by_cases hb : a < 0 ∨ s < 0
  · have e1 : S.fails a s = (S, 2) := by unfold Dk.fails; rw [if_pos hb]
    rw [e1]
    refine (fails_world_bad h.cell.2.2.1 a s hb).mono ?_
    rintro e w' ⟨rfl, rfl⟩
    exact ⟨rfl, After.of ⟨m, es, vA, vS, cA, cS, h⟩ (Ext.refl _ _)⟩
  · have e1 : S.fails a s = ({ S with app := some a, syn := some s }, 0) := by unfold Dk.fails; rw [if_neg hb]
    rw [e1]
    refine (fails_world h.hd a s (by omega) (by omega)).mono ?_
    rintro e w' ⟨rfl, rfl⟩
    refine ⟨rfl, ?_⟩
    have hdl : d < w.heap.size := hlt d (by rw [h.hfp]; simp)
    have hdm := h.ne.1
    generalize hw2 : (w.setCell ⟨d, 3, none⟩ (.func (.func 46) #[] #[.pointer (some ⟨w.heap.size, 0, none⟩)])).setCell ⟨d, 4, none⟩ (.func (.func 46) #[] #[.pointer (some ⟨w.heap.size + 1, 0, none⟩)]) = w2
    have z2 : w2.heap.size = w.heap.size := by rw [← hw2]; simp [World.setCell]
    have o2 : ∀ k, k ≠ d → w2.heap[k]? = w.heap[k]? := fun k hk => by rw [← hw2, heap_set_other hk, heap_set_other hk]
    have d2 : w2.heap[d]? = some (.cells #[.int .i64 (S.room : Int), .int .i64 S.left, .map (some m), .func (.func 46) #[] #[.pointer (some ⟨w.heap.size, 0, none⟩)], .func (.func 46) #[] #[.pointer (some ⟨w.heap.size + 1, 0, none⟩)]] 61 (0, 0)) := by
      rw [← hw2, heap_set_same (heap_set_same h.hd)]; rfl
    have x2 : Ext (· ∈ fp) w w2 := by
      rw [← hw2]
      have x1 := Ext.setCell w ⟨d, 3, none⟩ (.func (.func 46) #[] #[.pointer (some ⟨w.heap.size, 0, none⟩)])
      exact (x1.trans (Ext.setCell _ ⟨d, 4, none⟩ _)).mono (F := (· = d)) (fun k hk => by subst hk; rw [h.hfp]; simp)
    have z3 : (w2.alloc (.cells #[.int .i64 a] 3)).heap.size = w.heap.size + 1 := by rw [← z2]; simp
    have o4 : ∀ k, k < w.heap.size → ((w2.alloc (.cells #[.int .i64 a] 3)).alloc (.cells #[.int .i64 s] 3)).heap[k]? = w2.heap[k]? := fun k hk => by
      rw [Below.heap_alloc _ _ _ (by omega), Below.heap_alloc _ _ _ (by omega)]
    have n3 : ((w2.alloc (.cells #[.int .i64 a] 3)).alloc (.cells #[.int .i64 s] 3)).heap[w.heap.size]? = some (.cells #[.int .i64 a] 3 (0, 0)) := by
      rw [Below.heap_alloc _ _ _ (by omega), ← z2]; exact heap_new _ _
    have n4 : ((w2.alloc (.cells #[.int .i64 a] 3)).alloc (.cells #[.int .i64 s] 3)).heap[w.heap.size + 1]? = some (.cells #[.int .i64 s] 3 (0, 0)) := by
      rw [← z3]; exact heap_new _ _
    refine ⟨d :: m :: ([w.heap.size] ++ [w.heap.size + 1] ++ es.map (·.2)), ⟨m, es, .func (.func 46) #[] #[.pointer (some ⟨w.heap.size, 0, none⟩)], .func (.func 46) #[] #[.pointer (some ⟨w.heap.size + 1, 0, none⟩)], [w.heap.size], [w.heap.size + 1], ?_⟩, x2.trans ((Ext.alloc _ _ _).trans (Ext.alloc _ _ _)), ?_⟩
    · have hes : ∀ p ∈ es, p.2 < w.heap.size := fun p hp => hlt _ (by rw [h.hfp]; simp only [List.mem_cons, List.mem_append, List.mem_map]; exact Or.inr (Or.inr (Or.inr ⟨p, hp, rfl⟩)))
      have hml : m < w.heap.size := hlt m (by rw [h.hfp]; simp)
      have hne := h.ne
      refine { hd := (o4 d hdl).trans d2, hm := ownsMap_keep h.hm ((o4 m hml).trans (o2 m (Ne.symm hdm))), files := h.files, fls := fun p hp => ?_, fnA := ⟨_, rfl, rfl, n3⟩, fnS := ⟨_, rfl, rfl, n4⟩, hfp := rfl, nd := ?_ }
      · exact ((o4 _ (hes p hp)).trans (o2 _ (hne.2.2.2.1 p hp).1)).trans (h.fls p hp)
      · simp only [List.cons_append, List.nil_append, List.nodup_cons, List.mem_cons, List.mem_map, not_or, not_exists, not_and]
        refine ⟨⟨hdm, by omega, by omega, fun p hp => (hne.2.2.2.1 p hp).1⟩, ⟨by omega, by omega, fun p hp => (hne.2.2.2.1 p hp).2⟩, ⟨by omega, fun p hp => by have := hes p hp; omega⟩, fun p hp => by have := hes p hp; omega, hne.2.2.2.2.2.2.2⟩
    · intro b hb
      rw [h.hfp]
      simp only [List.cons_append, List.nil_append, List.mem_cons, List.mem_append, List.mem_map] at hb ⊢
      rcases hb with rfl | rfl | rfl | rfl | hb
      · left; simp
      · left; simp
      · right; exact Nat.le_refl _
      · right; omega
      · left; right; right; right; exact hb
end Go.Proofs.Ytbopfdbenjnipaa
