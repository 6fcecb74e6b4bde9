/- The reference's disk: Put (40), Flush (34), Cut (37). -/
import Derived.Test.YtbopfdbenjnipaaRef2
import Derived.StillTailTactics
namespace Go.Proofs.Ytbopfdbenjnipaa
set_option maxRecDepth 100000
open Go.RowKit Go.Maps Go.Sort
variable {w : World} {x : Nat} {R : Rf} {fp : List Nat}
theorem flat_set : ∀ (l : List Fl) {i j : Nat} (hi : i < l.length) (_ : j < 4) {u : Value} {f' : Fl}, flatF f' = (flatF l[i]).set j u → (flat l).set (i * 4 + j) u = flat (l.set i f')
  | [], i, j, hi, _, _, _, _ => by simp at hi
  | f :: r, 0, j, _, hj, u, f', he => by
    have e : flat (f :: r) = flatF f ++ flat r := rfl
    have l4 : (flatF f).length = 4 := rfl
    rw [e, Nat.zero_mul, Nat.zero_add, List.set_append_left _ _ (by omega)]
    show _ = flatF f' ++ flat r
    rw [he]; rfl
  | f :: r, i + 1, j, hi, hj, u, f', he => by
    have e : flat (f :: r) = flatF f ++ flat r := rfl
    have l4 : (flatF f).length = 4 := rfl
    rw [e, List.set_append_right _ _ (by omega), l4, show (i + 1) * 4 + j - 4 = i * 4 + j from by omega, flat_set r (by simpa using hi) hj (by simpa using he)]
    rfl
theorem flat_set4 (l : List Fl) {i : Nat} (hi : i < l.length) (f' : Fl) : ((((flat l).set (i * 4) (.string ⟨f'.name.toArray⟩)).set (i * 4 + 1) (.string f'.bytes)).set (i * 4 + 2) (.int .i64 (f'.synced : Int))).set (i * 4 + 3) (.bool f'.fresh) = flat (l.set i f') := by
  have s0 := flat_set l (j := 0) hi (by omega) (u := .string ⟨f'.name.toArray⟩) (f' := { l[i] with name := f'.name }) rfl
  rw [Nat.add_zero] at s0
  have s1 := flat_set (l.set i { l[i] with name := f'.name }) (i := i) (j := 1) (by simpa using hi) (by omega) (u := .string f'.bytes) (f' := { l[i] with name := f'.name, bytes := f'.bytes }) (by rw [List.getElem_set_self]; rfl)
  have s2 := flat_set (l.set i { l[i] with name := f'.name, bytes := f'.bytes }) (i := i) (j := 2) (by simpa using hi) (by omega) (u := .int .i64 (f'.synced : Int)) (f' := { l[i] with name := f'.name, bytes := f'.bytes, synced := f'.synced }) (by rw [List.getElem_set_self]; rfl)
  have s3 := flat_set (l.set i { l[i] with name := f'.name, bytes := f'.bytes, synced := f'.synced }) (i := i) (j := 3) (by simpa using hi) (by omega) (u := .bool f'.fresh) (f' := f') (by rw [List.getElem_set_self]; rfl)
  rw [List.set_set] at s1 s2 s3
  rw [s0, s1, s2, s3]
theorem ownsRow_set {w : World} {base e size n : Nat} {g cap k : Nat} {xs : List Value} {u : Value} (h : w.ownsRow base e size (.slice (some ⟨g, 0, none⟩) n cap) n xs) (hk : k < n * size) : (w.setCell ⟨g, k, none⟩ u).ownsRow base e size (.slice (some ⟨g, 0, none⟩) n cap) n (xs.set k u) := by
  refine ⟨by rw [List.length_set]; exact h.1, Or.inr ?_⟩
  rcases h.2 with ⟨hv, _⟩ | ⟨g', cap', cur, hv, hb, hg, h1, h2, h3, h4⟩
  · cases hv
  · simp only [Value.slice.injEq, Option.some.injEq, Addr.mk.injEq, and_true, true_and] at hv
    obtain ⟨rfl, rfl⟩ := hv
    refine ⟨g, cap, _, rfl, hb, heap_set_same hg, h1, h2, by simp [h3], ?_⟩
    rw [Array.toList_setIfInBounds, List.take_set, h4]
theorem RLay.setX {v : Value} (h : RLay w x v R fp) {o : Nat} {u : Value} {R' : Rf} (hx : (w.setCell ⟨x, o, none⟩ u).heap[x]? = some (.cells #[.int .i64 (R'.room : Int), v, .int .i64 R'.app, .int .i64 R'.syn] 70 (0, 0))) (hL : R'.L = R.L) : RLay (w.setCell ⟨x, o, none⟩ u) x v R' fp :=
  { hx := hx, hv := by rw [hL]; exact ownsRow_keep h.hv (fun b hb => heap_set_other (fun e => h.hne (by rw [hb, e]))), hfp := h.hfp, hne := h.hne }
/-- One cell of one element turned: the whole list is given by its flat cells. -/
structure RRow (w : World) (x g n cap : Nat) (R : Rf) (fp : List Nat) (xs : List Value) : Prop where
  hx : w.heap[x]? = some (.cells #[.int .i64 (R.room : Int), .slice (some ⟨g, 0, none⟩) n cap, .int .i64 R.app, .int .i64 R.syn] 70 (0, 0))
  hv : w.ownsRow 0 78 4 (.slice (some ⟨g, 0, none⟩) n cap) n xs
  hfp : fp = [x, g]
  hne : g ≠ x
theorem RLay.row {g n cap : Nat} (h : RLay w x (.slice (some ⟨g, 0, none⟩) n cap) R fp) (hn : n = R.L.length) : RRow w x g n cap R fp (flat R.L) :=
  { hx := h.hx, hv := by have := h.hv; rw [← hn] at this; exact this, hfp := h.hfp, hne := fun e => h.hne (by rw [e]; rfl) }
theorem RRow.set {g n cap k : Nat} {xs : List Value} (h : RRow w x g n cap R fp xs) (hk : k < n * 4) (u : Value) : RRow (w.setCell ⟨g, k, none⟩ u) x g n cap R fp (xs.set k u) :=
  { hx := (heap_set_other (Ne.symm h.hne)).trans h.hx, hv := ownsRow_set h.hv hk, hfp := h.hfp, hne := h.hne }
theorem RRow.drew {g n cap : Nat} {xs : List Value} (h : RRow w x g n cap R fp xs) : RRow w.drew x g n cap R fp xs := { hx := h.hx, hv := ownsRow_keep h.hv (fun _ _ => rfl), hfp := h.hfp, hne := h.hne }
theorem RRow.free {g n cap : Nat} {xs : List Value} (h : RRow w x g n cap R fp xs) : ∀ o, w.frozen? ⟨g, o, none⟩ = false := by
  intro o
  rcases h.hv.2 with ⟨hv, _⟩ | ⟨g', cap', cur, hv, _, hg, _⟩
  · cases hv
  · simp only [Value.slice.injEq, Option.some.injEq, Addr.mk.injEq] at hv
    rw [← hv.1.1] at hg
    simp [World.frozen?, hg]
theorem RRow.lay {g n cap : Nat} {xs : List Value} {L' : List Fl} (h : RRow w x g n cap R fp xs) (hn : n = L'.length) (hxs : xs = flat L') : RLay w x (.slice (some ⟨g, 0, none⟩) n cap) { R with L := L' } fp :=
  { hx := h.hx, hv := by have := h.hv; rw [hxs] at this; show w.ownsRow 0 78 4 _ L'.length (flat L'); rw [← hn]; exact this, hfp := by rw [h.hfp]; rfl, hne := fun e => h.hne (by simpa [Value.ownBlock] using e) }
theorem RRow.ext {g n cap k : Nat} {xs : List Value} (h : RRow w x g n cap R fp xs) (u : Value) : Ext (· ∈ fp) w (w.setCell ⟨g, k, none⟩ u) := (Ext.setCell w ⟨g, k, none⟩ u).mono (fun b hb => by subst hb; rw [h.hfp]; simp)
theorem set_upd {R : Rf} (hR : R.Ok) {i : Nat} (hi : i < R.L.length) (g : Fl → Fl) {s : List UInt8} (hs : R.L[i].name = s) : R.L.set i (g R.L[i]) = updF R.L s g := by
  rw [set_updF R.L i hi g hR.rising, hs]
theorem RLay.extX {v : Value} (h : RLay w x v R fp) (o : Nat) (u : Value) : Ext (· ∈ fp) w (w.setCell ⟨x, o, none⟩ u) := (Ext.setCell w ⟨x, o, none⟩ u).mono (fun b hb => by subst hb; rw [h.hfp]; simp)
theorem Rf.Ok.size_le {R : Rf} (h : R.Ok) {i : Nat} (hi : i < R.L.length) : R.L[i].bytes.size ≤ 1048576 := Dk.Ok.size_le h (List.getElem_mem hi)
set_option maxHeartbeats 1000000 in
theorem rcut_any (h : RefAt w x R fp) (hR : R.Ok) (s : ByteArray) (n : Int) :
    Calls Try.prog 37 #[.pointer (some ⟨x, 0, none⟩), .string s, .int .i64 n] w fun e w' => e = .returned (.int .i64 (R.cut s.data.toList n).2) ∧ RAfter w x fp (R.cut s.data.toList n).1 w' := by
  have hfind := find_any h hR s
  have h0 := h
  obtain ⟨v, h⟩ := h
  obtain ⟨a, cap, rfl, hcap, hcapm, hsh⟩ := h.shape
  have c1 := h.cell.2.1
  have hfew : R.L.length ≤ 64 := hR.few
  cases hi : idxF R.L s.data.toList with
  | none =>
    have hf := idxF_none.1 hi
    have e1 : R.cut s.data.toList n = (R, 5) := by simp only [Rf.cut, hf]
    rw [e1]
    rw [placeI_none hi] at hfind
    have Hf := Lib.hid hfind
    clear hfind hi hf e1 h hR hsh
    go_enter Try.func37, Try.ntmps37
    go_wp2_with (go_at_call 47; refine Hf.out.mono ?_; rintro e w' ⟨rfl, rfl⟩)
    go_ret
    exact ⟨rfl, RAfter.of h0 (Ext.refl _ _)⟩
  | some i =>
    obtain ⟨hlt, hn, hf⟩ := idxF_some hi
    rw [placeI_some hi] at hfind
    have Hf := Lib.hid hfind
    rcases hsh with hz | ⟨g, rfl, hgx, hgf, hsh⟩
    · omega
    obtain ⟨k0, k1, k2, k3⟩ := hsh i hlt
    have hsz := hR.size_le hlt
    by_cases hb : n < 0 ∨ (R.L[i].bytes.size : Int) < n
    · have e1 : R.cut s.data.toList n = (R, 2) := by simp only [Rf.cut, hf, if_pos hb]
      rw [e1]
      clear hfind hi hf e1 h hR hsh hn k0 k2 k3
      generalize R.L[i] = f at *
      by_cases hn0 : n < 0
      · clear hb
        go_enter Try.func37, Try.ntmps37
        go_wp2_with (go_at_call 47; refine Hf.out.mono ?_; rintro e w' ⟨rfl, rfl⟩)
        go_ret
        exact ⟨rfl, RAfter.of h0 (Ext.refl _ _)⟩
      · have hn1 : (f.bytes.size : Int) < n := by omega
        clear hb
        go_enter Try.func37, Try.ntmps37
        go_wp2_with (go_at_call 47; refine Hf.out.mono ?_; rintro e w' ⟨rfl, rfl⟩)
        go_ret
        exact ⟨rfl, RAfter.of h0 (Ext.refl _ _)⟩
    · obtain ⟨k, rfl⟩ := Int.eq_ofNat_of_zero_le (a := n) (by omega)
      have hk : k ≤ R.L[i].bytes.size := by omega
      have e1 : R.cut s.data.toList (k : Int) = ({ R with L := updF R.L s.data.toList fun f => { f with bytes := f.bytes.extract 0 k, synced := k, fresh := false } }, 0) := by
        simp only [Rf.cut, hf, if_neg hb, Int.toNat_natCast]
      rw [e1]
      have HU := Lib.hid (set_upd hR hlt (fun f => { f with bytes := f.bytes.extract 0 k, synced := k, fresh := false }) hn)
      have HR := Lib.hid (h.row rfl)
      have HN := Lib.hid hn
      have gf := (h.row rfl).free
      clear hfind hi hf e1 h hR hsh hb h0
      have HLT := Lib.hid hlt
      go_enter Try.func37, Try.ntmps37
      go_wp2_with (go_at_call 47; refine Hf.out.mono ?_; rintro e w' ⟨rfl, rfl⟩)
      go_still_tail 19, (by kernel_rfl)
      go_wp2
      go_ret
      have q := HR.out
      have hlt := HLT.out
      have q0 := q.set (k := i * 4) (by omega) (.string s)
      have q1 := q0.set (k := i * 4 + 1) (by omega) (.string (R.L[i].bytes.extract 0 k))
      have q2 := q1.set (k := i * 4 + 2) (by omega) (.int .i64 (k : Int))
      have q3 := q2.set (k := i * 4 + 3) (by omega) (.bool false)
      have ex := (((q.ext (k := i * 4) (.string s)).trans (q0.ext _)).trans (q1.ext _)).trans (q2.ext (k := i * 4 + 3) (.bool false))
      have hs' : (⟨(R.L[i].name).toArray⟩ : ByteArray) = s := by rw [HN.out]
      have e4 := flat_set4 R.L hlt { R.L[i] with bytes := R.L[i].bytes.extract 0 k, synced := k, fresh := false }
      simp only at e4
      rw [hs', HU.out] at e4
      have hl := q3.drew.lay (by rw [length_updF]) e4
      exact ⟨rfl, RAfter.of ⟨_, hl⟩ (ex.trans (Ext.drew _ _))⟩
/-- The counter one lower: the cells. -/
theorem RLay.down2 {v : Value} (h : RLay w x v R fp) (a : Int) : RLay (w.setCell ⟨x, 2, none⟩ (.int .i64 a)) x v { R with app := a } fp := h.setX (by rw [heap_set_same h.hx]; rfl) rfl
theorem RLay.down3 {v : Value} (h : RLay w x v R fp) (a : Int) : RLay (w.setCell ⟨x, 3, none⟩ (.int .i64 a)) x v { R with syn := a } fp := h.setX (by rw [heap_set_same h.hx]; rfl) rfl
theorem Rf.Ok.app_le {R : Rf} (h : R.Ok) : 0 ≤ R.app ∧ R.app ≤ 9223372036854775807 := by have := h.app R.app rfl; omega
theorem Rf.Ok.syn_le {R : Rf} (h : R.Ok) : 0 ≤ R.syn ∧ R.syn ≤ 9223372036854775807 := by have := h.syn R.syn rfl; omega
theorem Rf.Ok.setA {R : Rf} (h : R.Ok) {a : Int} (h0 : 0 ≤ a) (h1 : a ≤ 9223372036854775807) : Rf.Ok { R with app := a } := by
  refine { h with app := fun x hx => ?_ }
  have e : a = x := by simpa using hx
  subst e; omega
theorem Rf.Ok.setS {R : Rf} (h : R.Ok) {a : Int} (h0 : 0 ≤ a) (h1 : a ≤ 9223372036854775807) : Rf.Ok { R with syn := a } := by
  refine { h with syn := fun x hx => ?_ }
  have e : a = x := by simpa using hx
  subst e; omega
set_option maxHeartbeats 1000000 in
theorem rflush_any (h : RefAt w x R fp) (hR : R.Ok) (s : ByteArray) :
    Calls Try.prog 34 #[.pointer (some ⟨x, 0, none⟩), .string s] w fun e w' => e = .returned (.int .i64 (R.flush s.data.toList).2) ∧ RAfter w x fp (R.flush s.data.toList).1 w' := by
  have hfind := find_any h hR s
  have h0 := h
  obtain ⟨v, h⟩ := h
  obtain ⟨a, cap, rfl, hcap, hcapm, hsh⟩ := h.shape
  have c1 := h.cell.2.1
  have c3 := h.cell.2.2.2
  have f3 := h.free.2.2
  have hfew : R.L.length ≤ 64 := hR.few
  obtain ⟨ha0, ha1⟩ := hR.syn_le
  cases hi : idxF R.L s.data.toList with
  | none =>
    have hf := idxF_none.1 hi
    have e1 : R.flush s.data.toList = (R, 5) := by simp only [Rf.flush, hf]
    rw [e1]
    rw [placeI_none hi] at hfind
    have Hf := Lib.hid hfind
    clear hfind hi hf e1 h hR hsh
    go_enter Try.func34, Try.ntmps34
    go_wp2_with (go_at_call 47; refine Hf.out.mono ?_; rintro e w' ⟨rfl, rfl⟩)
    go_ret
    exact ⟨rfl, RAfter.of h0 (Ext.refl _ _)⟩
  | some i =>
    obtain ⟨hlt, hn, hf⟩ := idxF_some hi
    rw [placeI_some hi] at hfind
    have Hf := Lib.hid hfind
    rcases hsh with hz | ⟨g, rfl, hgx, hgf, hsh⟩
    · omega
    obtain ⟨k0, k1, k2, k3⟩ := hsh i hlt
    have hsz := hR.size_le hlt
    have HU := Lib.hid (set_upd hR hlt (fun f => { f with synced := f.bytes.size, fresh := false }) hn)
    have HL := Lib.hid h
    have HR := Lib.hid (h.row rfl)
    have gf := (h.row rfl).free
    by_cases hp : 0 < R.syn
    · by_cases h1 : R.syn = 1
      · have e1 : R.flush s.data.toList = ({ R with syn := 0 }, 230) := by
          have hh : hits R.syn = true := by rw [h1]; rfl
          have hd : down R.syn = 0 := by rw [h1]; rfl
          simp only [Rf.flush, hf, hh, hd, if_true]
        rw [e1]
        rw [h1] at c3
        have H1 := Lib.hid h1
        clear hfind hi hf e1 h hR hsh hn k0 k1 k2 k3 h1 hp
        go_enter Try.func34, Try.ntmps34
        go_wp2_with (go_at_call 47; refine Hf.out.mono ?_; rintro e w' ⟨rfl, rfl⟩)
        go_ret
        exact ⟨rfl, RAfter.of ⟨_, HL.out.down3 0⟩ (HL.out.extX 3 _)⟩
      · have e1 : R.flush s.data.toList = ({ R with syn := R.syn - 1, L := updF R.L s.data.toList fun f => { f with synced := f.bytes.size, fresh := false } }, 0) := by
          have hh : hits R.syn = false := by unfold hits; rw [Bool.and_eq_false_iff]; right; rw [beq_eq_false_iff_ne]; omega
          have hd : down R.syn = R.syn - 1 := by unfold down; rw [if_pos hp]
          simp only [Rf.flush, hf, hh, hd]; rfl
        rw [e1]
        have ht : ((R.syn - 1 : Int) == 0) = false := by rw [beq_eq_false_iff_ne]; omega
        have HN := Lib.hid hn
        have HLT := Lib.hid hlt
        clear hfind hi hf e1 h hR hsh hn h1 k0 k1 k2 k3 gf HR
        go_enter Try.func34, Try.ntmps34
        go_wp2_with (go_at_call 47; refine Hf.out.mono ?_; rintro e w' ⟨rfl, rfl⟩)
        clear c1 f3 c3
        refine gen_world (P := fun v => RLay v x (.slice (some ⟨g, 0, none⟩) R.L.length cap) { R with syn := R.syn - 1 } fp ∧ Ext (· ∈ fp) w v) ⟨HL.out.down3 _, HL.out.extX 3 _⟩ ?_
        rintro w1 ⟨hl1, hx1⟩
        obtain ⟨k1, k2, k3⟩ : w1.cell? ⟨g, i * 4 + 1, none⟩ = some (.string R.L[i].bytes) ∧ w1.cell? ⟨g, i * 4 + 2, none⟩ = some (.int .i64 (R.L[i].synced : Int)) ∧ w1.cell? ⟨g, i * 4 + 3, none⟩ = some (.bool R.L[i].fresh) := by
          obtain ⟨a', cap', e, _, _, hs⟩ := hl1.shape
          rcases hs with hz | ⟨g', e2, _, _, hs⟩
          · have := HLT.out; first | omega | (simp only at hz; omega)
          · simp only [Value.slice.injEq] at e
            obtain ⟨rfl, _, rfl⟩ := e
            simp only [Option.some.injEq, Addr.mk.injEq, and_true] at e2
            subst e2
            exact (hs i HLT.out).2
        have c1 := hl1.cell.2.1
        have gf := (hl1.row rfl).free
        have HR := Lib.hid (hl1.row rfl)
        have HX1 := Lib.hid hx1
        clear hl1 hx1
        go_still_tail 16, (by kernel_rfl)
        go_wp2
        go_ret
        refine ⟨rfl, ?_⟩
        have q := HR.out
        have hlt := HLT.out
        have q0 := q.set (k := i * 4 + 2) (by omega) (.int .i64 (R.L[i].bytes.size : Int))
        have q1 := q0.set (k := i * 4 + 3) (by omega) (.bool false)
        have s2 := flat_set R.L (j := 2) hlt (by omega) (u := .int .i64 (R.L[i].bytes.size : Int)) (f' := { R.L[i] with synced := R.L[i].bytes.size }) rfl
        have s3 := flat_set (R.L.set i { R.L[i] with synced := R.L[i].bytes.size }) (i := i) (j := 3) (by simpa using hlt) (by omega) (u := .bool false) (f' := { R.L[i] with synced := R.L[i].bytes.size, fresh := false }) (by rw [List.getElem_set_self]; rfl)
        rw [List.set_set, HU.out] at s3
        rw [s2, s3] at q1
        have hl := q1.drew.lay (by rw [length_updF]) rfl
        have ex := (q.ext (k := i * 4 + 2) (.int .i64 (R.L[i].bytes.size : Int))).trans (q0.ext (k := i * 4 + 3) (.bool false))
        exact RAfter.of ⟨_, hl⟩ (HX1.out.trans (ex.trans (Ext.drew _ _)))
    · have h00 : R.syn = 0 := by omega
      have e1 : R.flush s.data.toList = ({ R with L := updF R.L s.data.toList fun f => { f with synced := f.bytes.size, fresh := false } }, 0) := by
        have hh : hits R.syn = false := by rw [h00]; rfl
        have hd : down R.syn = R.syn := by unfold down; rw [if_neg hp]
        simp only [Rf.flush, hf, hh, hd]; rfl
      rw [e1]
      have HN := Lib.hid hn
      have HLT := Lib.hid hlt
      clear hfind hi hf e1 h hR hsh hn k0 k1 k2 k3 gf HR h00
      go_enter Try.func34, Try.ntmps34
      go_wp2_with (go_at_call 47; refine Hf.out.mono ?_; rintro e w' ⟨rfl, rfl⟩)
      clear c1 f3 c3
      refine gen_world (P := fun v => RLay v x (.slice (some ⟨g, 0, none⟩) R.L.length cap) R fp ∧ Ext (· ∈ fp) w v) ⟨HL.out, Ext.refl _ _⟩ ?_
      rintro w1 ⟨hl1, hx1⟩
      obtain ⟨k1, k2, k3⟩ : w1.cell? ⟨g, i * 4 + 1, none⟩ = some (.string R.L[i].bytes) ∧ w1.cell? ⟨g, i * 4 + 2, none⟩ = some (.int .i64 (R.L[i].synced : Int)) ∧ w1.cell? ⟨g, i * 4 + 3, none⟩ = some (.bool R.L[i].fresh) := by
        obtain ⟨a', cap', e, _, _, hs⟩ := hl1.shape
        rcases hs with hz | ⟨g', e2, _, _, hs⟩
        · have := HLT.out; first | omega | (simp only at hz; omega)
        · simp only [Value.slice.injEq] at e
          obtain ⟨rfl, _, rfl⟩ := e
          simp only [Option.some.injEq, Addr.mk.injEq, and_true] at e2
          subst e2
          exact (hs i HLT.out).2
      have c1 := hl1.cell.2.1
      have gf := (hl1.row rfl).free
      have HR := Lib.hid (hl1.row rfl)
      have HX1 := Lib.hid hx1
      clear hl1 hx1
      go_still_tail 16, (by kernel_rfl)
      go_wp2
      go_ret
      refine ⟨rfl, ?_⟩
      have q := HR.out
      have hlt := HLT.out
      have q0 := q.set (k := i * 4 + 2) (by omega) (.int .i64 (R.L[i].bytes.size : Int))
      have q1 := q0.set (k := i * 4 + 3) (by omega) (.bool false)
      have s2 := flat_set R.L (j := 2) hlt (by omega) (u := .int .i64 (R.L[i].bytes.size : Int)) (f' := { R.L[i] with synced := R.L[i].bytes.size }) rfl
      have s3 := flat_set (R.L.set i { R.L[i] with synced := R.L[i].bytes.size }) (i := i) (j := 3) (by simpa using hlt) (by omega) (u := .bool false) (f' := { R.L[i] with synced := R.L[i].bytes.size, fresh := false }) (by rw [List.getElem_set_self]; rfl)
      rw [List.set_set, HU.out] at s3
      rw [s2, s3] at q1
      have hl := q1.drew.lay (by rw [length_updF]) rfl
      have ex := (q.ext (k := i * 4 + 2) (.int .i64 (R.L[i].bytes.size : Int))).trans (q0.ext (k := i * 4 + 3) (.bool false))
      exact RAfter.of ⟨_, hl⟩ (HX1.out.trans (ex.trans (Ext.drew _ _)))
end Go.Proofs.Ytbopfdbenjnipaa
