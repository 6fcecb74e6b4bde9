/- Append (12), Sync (11), Cut (25), Remove (26). -/
import Derived.Test.YtbopfdbenjnipaaOps1
namespace Go.Proofs.Ytbopfdbenjnipaa
open Go.RowKit Go.Maps
section
variable {w : World} {d m : Nat} {es : List (Fl × Nat)} {vA vS : Value} {cA cS : List Nat} {S : Dk} {fp : List Nat}
theorem Lay.mem (h : Lay w d m es vA vS cA cS S fp) : d ∈ fp ∧ m ∈ fp ∧ (∀ b ∈ cA, b ∈ fp) ∧ (∀ b ∈ cS, b ∈ fp) ∧ (∀ p ∈ es, p.2 ∈ fp) := by
  rw [h.hfp]
  simp only [List.mem_cons, List.mem_append, List.mem_map]
  exact ⟨Or.inl trivial, Or.inr (Or.inl trivial), fun b hb => Or.inr (Or.inr (Or.inl (Or.inl hb))), fun b hb => Or.inr (Or.inr (Or.inl (Or.inr hb))), fun p hp => Or.inr (Or.inr (Or.inr ⟨p, hp, rfl⟩))⟩
/-- The counter of appends is one lower. -/
theorem Lay.tickA (h : Lay w d m es vA vS cA cS S fp) {c : Int} (hc : S.app = some c) : ∃ b, vA = .func (.func 46) #[] #[.pointer (some ⟨b, 0, none⟩)] ∧ w.heap[b]? = some (.cells #[.int .i64 c] 3 (0, 0)) ∧ b ∈ fp ∧
    Lay (w.setCell ⟨b, 0, none⟩ (.int .i64 (c - 1))) d m es vA vS cA cS { S with app := tick S.app } fp := by
  have hf := h.fnA
  rw [hc] at hf
  obtain ⟨b, hv, hcA, hb⟩ := hf
  have hne := h.ne
  have hbm : b ∈ cA := by rw [hcA]; simp
  refine ⟨b, hv, hb, h.mem.2.2.1 b hbm, ?_⟩
  have o : ∀ k, k ≠ b → (w.setCell ⟨b, 0, none⟩ (.int .i64 (c - 1))).heap[k]? = w.heap[k]? := fun k hk => heap_set_other hk
  exact { hd := (o d (Ne.symm (hne.2.1 b hbm).1)).trans h.hd, hm := ownsMap_keep h.hm (o m (Ne.symm (hne.2.1 b hbm).2)), files := h.files, fls := fun p hp => (o p.2 (fun e => hne.2.2.2.2.2.1 b hbm p hp e.symm)).trans (h.fls p hp),
          fnA := by rw [hc]; exact ⟨b, hv, hcA, heap_set_same hb⟩, fnS := h.fnS.keep (fun k hk => o k (fun e => hne.2.2.2.2.1 b hbm k hk e.symm)), hfp := h.hfp, nd := h.nd }
theorem Lay.tickS (h : Lay w d m es vA vS cA cS S fp) {c : Int} (hc : S.syn = some c) : ∃ b, vS = .func (.func 46) #[] #[.pointer (some ⟨b, 0, none⟩)] ∧ w.heap[b]? = some (.cells #[.int .i64 c] 3 (0, 0)) ∧ b ∈ fp ∧
    Lay (w.setCell ⟨b, 0, none⟩ (.int .i64 (c - 1))) d m es vA vS cA cS { S with syn := tick S.syn } fp := by
  have hf := h.fnS
  rw [hc] at hf
  obtain ⟨b, hv, hcS, hb⟩ := hf
  have hne := h.ne
  have hbm : b ∈ cS := by rw [hcS]; simp
  refine ⟨b, hv, hb, h.mem.2.2.2.1 b hbm, ?_⟩
  have o : ∀ k, k ≠ b → (w.setCell ⟨b, 0, none⟩ (.int .i64 (c - 1))).heap[k]? = w.heap[k]? := fun k hk => heap_set_other hk
  exact { hd := (o d (Ne.symm (hne.2.2.1 b hbm).1)).trans h.hd, hm := ownsMap_keep h.hm (o m (Ne.symm (hne.2.2.1 b hbm).2)), files := h.files, fls := fun p hp => (o p.2 (fun e => hne.2.2.2.2.2.2.1 b hbm p hp e.symm)).trans (h.fls p hp),
          fnA := h.fnA.keep (fun k hk => o k (fun e => hne.2.2.2.2.1 k hk b hbm e)), fnS := by rw [hc]; exact ⟨b, hv, hcS, heap_set_same hb⟩, hfp := h.hfp, nd := h.nd }
/-- What asking whether an append fails comes to. -/
theorem Lay.callA {K : Nat} (h : Lay w d m es vA vS cA cS S fp) (hc : ctrOk K S.app) (hK : K ≤ 4611686018427387904) {r : Bool} (hr : failsNow S.app = r) :
    (vA = .func (.func 29) #[] #[] ∧ Calls Try.prog 29 #[] w fun e w' => e = .returned (.bool r) ∧ Lay w' d m es vA vS cA cS { S with app := tick S.app } fp ∧ Ext (· ∈ fp) w w') ∨
    (∃ b, vA = .func (.func 46) #[] #[.pointer (some ⟨b, 0, none⟩)] ∧ Calls Try.prog 46 #[.pointer (some ⟨b, 0, none⟩)] w fun e w' => e = .returned (.bool r) ∧ Lay w' d m es vA vS cA cS { S with app := tick S.app } fp ∧ Ext (· ∈ fp) w w') := by
  cases ha : S.app with
  | none =>
    left
    have hf := h.fnA
    rw [ha] at hf hr
    refine ⟨hf.1, (never_any w).mono ?_⟩
    rintro e w' ⟨rfl, rfl⟩
    refine ⟨by rw [← hr]; rfl, ?_, Ext.refl _ _⟩
    have : ({ S with app := tick none } : Dk) = S := by rw [show tick none = S.app from ha.symm]
    rw [this]; exact h
  | some c =>
    right
    obtain ⟨b, hv, hb, hbf, hl⟩ := h.tickA ha
    have hc' := hc c ha
    refine ⟨b, hv, (after1_any w b c (cell_of_one hb) (free_of_one hb) (by omega) (by omega)).mono ?_⟩
    rintro e w' ⟨rfl, rfl⟩
    refine ⟨by rw [← hr, ha]; rfl, by rw [ha] at hl; exact hl, (Ext.setCell w ⟨b, 0, none⟩ _).mono fun k hk => by subst hk; exact hbf⟩
theorem Lay.callS {K : Nat} (h : Lay w d m es vA vS cA cS S fp) (hc : ctrOk K S.syn) (hK : K ≤ 4611686018427387904) {r : Bool} (hr : failsNow S.syn = r) :
    (vS = .func (.func 29) #[] #[] ∧ Calls Try.prog 29 #[] w fun e w' => e = .returned (.bool r) ∧ Lay w' d m es vA vS cA cS { S with syn := tick S.syn } fp ∧ Ext (· ∈ fp) w w') ∨
    (∃ b, vS = .func (.func 46) #[] #[.pointer (some ⟨b, 0, none⟩)] ∧ Calls Try.prog 46 #[.pointer (some ⟨b, 0, none⟩)] w fun e w' => e = .returned (.bool r) ∧ Lay w' d m es vA vS cA cS { S with syn := tick S.syn } fp ∧ Ext (· ∈ fp) w w') := by
  cases ha : S.syn with
  | none =>
    left
    have hf := h.fnS
    rw [ha] at hf hr
    refine ⟨hf.1, (never_any w).mono ?_⟩
    rintro e w' ⟨rfl, rfl⟩
    refine ⟨by rw [← hr]; rfl, ?_, Ext.refl _ _⟩
    have : ({ S with syn := tick none } : Dk) = S := by rw [show tick none = S.syn from ha.symm]
    rw [this]; exact h
  | some c =>
    right
    obtain ⟨b, hv, hb, hbf, hl⟩ := h.tickS ha
    have hc' := hc c ha
    refine ⟨b, hv, (after1_any w b c (cell_of_one hb) (free_of_one hb) (by omega) (by omega)).mono ?_⟩
    rintro e w' ⟨rfl, rfl⟩
    refine ⟨by rw [← hr, ha]; rfl, by rw [ha] at hl; exact hl, (Ext.setCell w ⟨b, 0, none⟩ _).mono fun k hk => by subst hk; exact hbf⟩
/-- One file has turned. -/
def updE (es : List (Fl × Nat)) (s : List UInt8) (g : Fl → Fl) : List (Fl × Nat) := es.map fun p => if p.1.name = s then (g p.1, p.2) else p
theorem updE_fst (es : List (Fl × Nat)) (s : List UInt8) (g : Fl → Fl) : (updE es s g).map (·.1) = updF (es.map (·.1)) s g := by
  simp only [updE, updF, List.map_map]
  exact List.map_congr_left fun p _ => by simp only [Function.comp]; split <;> rfl
theorem updE_snd (es : List (Fl × Nat)) (s : List UInt8) (g : Fl → Fl) : (updE es s g).map (·.2) = es.map (·.2) := by
  simp only [updE, List.map_map]
  exact List.map_congr_left fun p _ => by simp only [Function.comp]; split <;> rfl
theorem updE_data (es : List (Fl × Nat)) (s : List UInt8) (g : Fl → Fl) (hg : ∀ f, (g f).name = f.name) : dataOf (updE es s g) = dataOf es := by
  simp only [dataOf, updE, List.map_map]
  congr 1
  exact List.map_congr_left fun p _ => by simp only [Function.comp]; split <;> simp [hg]
theorem unique_block {es : List (Fl × Nat)} (hr : (es.map (·.1)).Pairwise fun a b => a.name < b.name) {p q : Fl × Nat} (hp : p ∈ es) (hq : q ∈ es) (h : p.1.name = q.1.name) : p = q := by
  induction es with
  | nil => simp at hp
  | cons x r ih =>
    rw [List.map_cons] at hr
    have hr' := List.Pairwise.of_cons hr
    have no : ∀ y ∈ r, x.1.name ≠ y.1.name := fun y hy e => by
      have := List.rel_of_pairwise_cons hr (List.mem_map_of_mem hy)
      rw [e] at this
      exact absurd this (List.lt_irrefl _)
    rcases List.mem_cons.1 hp with rfl | hp'
    · rcases List.mem_cons.1 hq with rfl | hq'
      · rfl
      · exact absurd h (no q hq')
    · rcases List.mem_cons.1 hq with rfl | hq'
      · exact absurd h.symm (no p hp')
      · exact ih hr' hp' hq'
theorem block_inj {es : List (Fl × Nat)} (hn : (es.map (·.2)).Nodup) {p q : Fl × Nat} (hp : p ∈ es) (hq : q ∈ es) (h : p.2 = q.2) : p = q := by
  induction es with
  | nil => simp at hp
  | cons x r ih =>
    simp only [List.map_cons, List.nodup_cons, List.mem_map, not_exists, not_and] at hn
    rcases List.mem_cons.1 hp with rfl | hp'
    · rcases List.mem_cons.1 hq with rfl | hq'
      · rfl
      · exact absurd h.symm (hn.1 q hq')
    · rcases List.mem_cons.1 hq with rfl | hq'
      · exact absurd h (hn.1 p hp')
      · exact ih hn.2 hp' hq'
theorem Lay.upd (h : Lay w d m es vA vS cA cS S fp) (hr : S.files.Pairwise fun a b => a.name < b.name) {f : Fl} {b : Nat} (hb : (f, b) ∈ es) (g : Fl → Fl) (hg : ∀ f, (g f).name = f.name) {w' : World} {S' : Dk}
    (o : ∀ k, k ≠ d → k ≠ b → w'.heap[k]? = w.heap[k]?) (hb' : FlAt w' (g f) b) (hd' : w'.heap[d]? = some (.cells #[.int .i64 (S'.room : Int), .int .i64 S'.left, .map (some m), vA, vS] 61 (0, 0)))
    (hf : S'.files = updF S.files f.name g) (ha : S'.app = S.app) (hs : S'.syn = S.syn) : Lay w' d m (updE es f.name g) vA vS cA cS S' fp := by
  have hne := h.ne
  have hbd := hne.2.2.2.1 _ hb
  have hr' := hr
  rw [h.files] at hr'
  refine { hd := hd', hm := ?_, files := by rw [hf, updE_fst, h.files], fls := fun p hp => ?_, fnA := ?_, fnS := ?_, hfp := by rw [updE_snd]; exact h.hfp, nd := h.nd }
  · rw [updE_data _ _ _ hg, show (updE es f.name g).length = es.length from by simp [updE]]
    exact ownsMap_keep h.hm (o m (Ne.symm hne.1) (Ne.symm hbd.2))
  · simp only [updE, List.mem_map] at hp
    obtain ⟨q, hq, rfl⟩ := hp
    split
    · rename_i e
      obtain rfl := unique_block hr' hq hb e
      exact hb'
    · rename_i e
      exact (o q.2 (hne.2.2.2.1 q hq).1 (fun e2 => e (by rw [block_inj hne.2.2.2.2.2.2.2 hq hb e2]))).trans (h.fls q hq)
  · rw [ha]; exact h.fnA.keep fun k hk => o k (hne.2.1 k hk).1 (hne.2.2.2.2.2.1 k hk _ hb)
  · rw [hs]; exact h.fnS.keep fun k hk => o k (hne.2.2.1 k hk).1 (hne.2.2.2.2.2.2.1 k hk _ hb)
end
theorem total_upd_eq {fs : List Fl} {f : Fl} (g : Fl → Fl) (hr : fs.Pairwise fun a b => a.name < b.name) (hf : f ∈ fs) : total (updF fs f.name g) + f.bytes.size = total fs + (g f).bytes.size := by
  induction fs with
  | nil => simp at hf
  | cons x r ih =>
    have hr' := List.Pairwise.of_cons hr
    have e : updF (x :: r) f.name g = (if x.name = f.name then g x else x) :: updF r f.name g := rfl
    rw [e, total_cons, total_cons]
    rcases List.mem_cons.1 hf with rfl | hf'
    · have hno : updF r f.name g = r := by
        unfold updF
        refine (List.map_congr_left fun y hy => ?_).trans (List.map_id _)
        have := List.rel_of_pairwise_cons hr hy
        rw [if_neg (fun e => by rw [e] at this; exact absurd this (List.lt_irrefl _))]
        rfl
      rw [if_pos rfl, hno]; omega
    · have hlt := List.rel_of_pairwise_cons hr hf'
      have := ih hr' hf'
      rw [if_neg (fun e => by rw [e] at hlt; exact absurd hlt (List.lt_irrefl _))]; omega
set_option maxHeartbeats 1000000 in
theorem append_any {w : World} {d K : Nat} {S : Dk} {fp : List Nat} (h : DiskAt w d S fp) (hS : S.Ok K) (hK : K ≤ 4611686018427387904) (s t : ByteArray) (hs : s.size ≤ maxLen) (ht : t.size ≤ 140737488351232) :
    Calls Try.prog 12 #[.pointer (some ⟨d, 0, none⟩), .string s, .string t] w fun e w' => e = .returned (.int .i64 (S.append s.data.toList t).2) ∧ After w d fp (S.append s.data.toList t).1 w' := by
  obtain ⟨m, es, vA, vS, cA, cS, h⟩ := h
  cases hf : findF S.files s.data.toList with
  | none =>
    have e1 : S.append s.data.toList t = (S, 5) := by simp only [Dk.append, hf]
    have hc := file_missing h s hs hf
    have ha : After w d fp S w := After.of ⟨m, es, vA, vS, cA, cS, h⟩ (Ext.refl _ _)
    rw [e1]
    clear h hf e1 hS
    have Hc := Lib.hid hc
    clear hc
    go_enter Try.func12, Try.ntmps12
    go_wp2_with (go_at_call 32; refine Hc.out.mono ?_; rintro e w' ⟨rfl, rfl⟩)
    go_ret
    exact ⟨rfl, ha⟩
  | some f =>
    obtain ⟨b, hb, hc⟩ := file_found h s hs hf
    have hbd := (h.ne.2.2.2.1 _ hb).1
    have c3 := h.cell.2.2.2.1
    have hfm := findF_mem hf
    have hsz := hS.size_le hfm.1
    have hleft : S.left ≤ 1048576 := by unfold Dk.left; have := hS.room1; omega
    have hleft0 : 0 ≤ S.left := by unfold Dk.left; have := hS.fits; omega
    have Hc := Lib.hid hc
    clear hc
    cases hfn : failsNow S.app with
    | true =>
      have e1 : S.append s.data.toList t = ({ S with app := tick S.app }, 230) := by simp only [Dk.append, hf, hfn]; rfl
      rw [e1]
      rcases h.callA hS.app hK hfn with ⟨rfl, hc2⟩ | ⟨cb, rfl, hc2⟩
      all_goals
        have Hc2 := Lib.hid hc2
        clear hc2 hfn hf e1 h
        go_enter Try.func12, Try.ntmps12
        go_wp2_with (go_at_call 32; refine Hc.out.mono ?_; rintro e w' ⟨rfl, rfl⟩)
        refine Hc2.out.mono ?_
        rintro e w1 ⟨rfl, hl1, hx1⟩
        go_wp2_with fail
        go_ret
        exact ⟨rfl, After.of ⟨m, es, _, vS, cA, cS, hl1⟩ hx1⟩
    | false =>
      by_cases hlt : S.left < (t.size : Int)
      · have e1 : S.append s.data.toList t = ({ S with app := tick S.app }, 6) := by simp only [Dk.append, hf, hfn, if_pos hlt]; rfl
        rw [e1]
        rcases h.callA hS.app hK hfn with ⟨rfl, hc2⟩ | ⟨cb, rfl, hc2⟩
        all_goals
          have Hc2 := Lib.hid hc2
          clear hc2 hfn hf e1 h
          go_enter Try.func12, Try.ntmps12
          go_wp2_with (go_at_call 32; refine Hc.out.mono ?_; rintro e w' ⟨rfl, rfl⟩)
          refine Hc2.out.mono ?_
          rintro e w1 ⟨rfl, hl1, hx1⟩
          have d1 : w1.cell? ⟨d, 1, none⟩ = some (.int .i64 S.left) := hl1.cell.2.1
          go_wp2_with fail
          go_ret
          exact ⟨rfl, After.of ⟨m, es, _, vS, cA, cS, hl1⟩ hx1⟩
      · have e1 : S.append s.data.toList t = ({ S with app := tick S.app, files := updF S.files s.data.toList fun f => { f with bytes := f.bytes ++ t } }, 0) := by simp only [Dk.append, hf, hfn, if_neg hlt]; rfl
        have htot := total_upd_eq (fun f => { f with bytes := f.bytes ++ t }) hS.rising hfm.1
        rw [hfm.2, show (({ f with bytes := f.bytes ++ t } : Fl).bytes.size) = f.bytes.size + t.size from by simp] at htot
        rw [e1]
        have Htot := Lib.hid htot
        rcases h.callA hS.app hK hfn with ⟨rfl, hc2⟩ | ⟨cb, rfl, hc2⟩
        all_goals
          have Hc2 := Lib.hid hc2
          have Hnm := Lib.hid hfm.2
          have Hri := Lib.hid hS.rising
          have hbdk := h.mem.1
          have hbk := h.mem.2.2.2.2 _ hb
          clear hc2 hfn hf e1 h hfm htot hS
          go_enter Try.func12, Try.ntmps12
          go_wp2_with (go_at_call 32; refine Hc.out.mono ?_; rintro e w' ⟨rfl, rfl⟩)
          refine Hc2.out.mono ?_
          rintro e w1 ⟨rfl, hl1, hx1⟩
          have d1 : w1.cell? ⟨d, 1, none⟩ = some (.int .i64 S.left) := hl1.cell.2.1
          have fd1 := hl1.free.1
          have hfb := hl1.fls _ hb
          have b0 := hfb.cell.1
          have fb0 := hfb.free.1
          have hbd' : d ≠ b := Ne.symm hbd
          have HL := Lib.hid hl1
          have HF := Lib.hid hfb
          clear hl1 hfb
          simp only at b0 fb0
          go_wp2_with fail
          go_ret
          refine ⟨rfl, After.of ⟨m, _, _, vS, cA, cS, HL.out.upd Hri.out hb (fun f => { f with bytes := f.bytes ++ t }) (fun _ => rfl) (fun k h1 h2 => ?_) ?_ ?_ (by rw [Hnm.out]) rfl rfl⟩ (hx1.trans ?_)⟩
          · rw [heap_set_other h1, heap_set_other h2]
          · unfold FlAt
            rw [heap_set_other hbd, heap_set_same HF.out]
            rfl
          · rw [heap_set_same ((heap_set_other hbd').trans HL.out.hd)]
            have : (S.left - (t.size : Int)) = Dk.left { S with app := tick S.app, files := updF S.files s.data.toList fun f => { f with bytes := f.bytes ++ t } } := by
              unfold Dk.left; have := Htot.out; simp only; omega
            rw [← this]
            rfl
          · have x1 := (Ext.setCell w1 ⟨b, 0, none⟩ (.string (f.bytes ++ t))).mono (G := (· ∈ fp)) (fun k hk => by subst hk; exact hbk)
            exact x1.trans ((Ext.setCell _ ⟨d, 1, none⟩ _).mono (fun k hk => by subst hk; exact hbdk))
end Go.Proofs.Ytbopfdbenjnipaa
