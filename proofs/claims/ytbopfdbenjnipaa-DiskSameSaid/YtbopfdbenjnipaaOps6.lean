/- Crash (13). -/
import Derived.Test.YtbopfdbenjnipaaOps5
import Derived.Test.YtbopfdbenjnipaaPlain2
import Derived.StillTailTactics
namespace Go.Proofs.Ytbopfdbenjnipaa
set_option maxRecDepth 100000
open Go.RowKit Go.Maps Go.Sort
variable {w : World} {d m : Nat} {es : List (Fl × Nat)} {vA vS : Value} {cA cS : List Nat} {S : Dk} {fp : List Nat}
theorem crash_nil (w : World) (v : Value) : Calls Try.prog 13 #[.pointer none, v] w fun e w' => e = .returned (.int .i64 1) ∧ w = w' := by
  go_enter Try.func13, Try.ntmps13
  go_wp2_with (go_at_call 30; refine (none_nil _).mono ?_; rintro e w' ⟨rfl, rfl⟩)
  go_ret
  exact ⟨rfl, rfl⟩
/-- A slice of ints that is only read; Q: its block. -/
def KeepAt (w : World) (v : Value) (ks : List Int) (Q : Nat → Prop) : Prop := ∃ a cap, v = .slice a ks.length cap ∧ ks.length ≤ cap ∧ cap ≤ maxLen ∧ (ks.length = 0 ∨ ∃ b o, a = some ⟨b, o, none⟩ ∧ Q b ∧ ∀ i, i < ks.length → w.cell? ⟨b, o + i, none⟩ = some (.int .i64 (ks.getD i 0)))
theorem After.trans {w w1 w2 : World} {S2 : Dk} {fp1 : List Nat} (hx : Ext (· ∈ fp) w w1) (hs : ∀ b ∈ fp1, b ∈ fp ∨ w.heap.size ≤ b) (h2 : After w1 d fp1 S2 w2) : After w d fp S2 w2 := by
  obtain ⟨fp2, hd2, hx2, hs2⟩ := h2
  refine ⟨fp2, hd2, hx.trans' hx2 hs, fun b hb => ?_⟩
  rcases hs2 b hb with h | h
  · exact hs b h
  · right; have := hx.size; omega
theorem crash_end {w' : World} {vA vS : Value} {cA cS : List Nat} (h : Lay w d m es vA vS cA cS S fp) (hw : w' = (w.setCell ⟨d, 3, none⟩ (.func (.func 29) #[] #[])).setCell ⟨d, 4, none⟩ (.func (.func 29) #[] #[])) : After w d fp { S with app := none, syn := none } w' := by
  subst hw
  have hne := h.ne
  have o : ∀ k, k ≠ d → ((w.setCell ⟨d, 3, none⟩ (.func (.func 29) #[] #[])).setCell ⟨d, 4, none⟩ (.func (.func 29) #[] #[])).heap[k]? = w.heap[k]? := fun k hk => by rw [heap_set_other hk, heap_set_other hk]
  have x1 := (Ext.setCell w ⟨d, 3, none⟩ (.func (.func 29) #[] #[])).mono (G := (· ∈ fp)) (fun k hk => by subst hk; exact h.mem.1)
  refine ⟨d :: m :: es.map (·.2), ⟨m, es, .func (.func 29) #[] #[], .func (.func 29) #[] #[], [], [], ?_⟩, x1.trans ((Ext.setCell _ ⟨d, 4, none⟩ _).mono (fun k hk => by subst hk; exact h.mem.1)), fun b hb => Or.inl ?_⟩
  · refine { hd := ?_, hm := ownsMap_keep h.hm (o m (Ne.symm hne.1)), files := h.files, fls := fun p hp => (o p.2 (hne.2.2.2.1 p hp).1).trans (h.fls p hp), fnA := ⟨rfl, rfl⟩, fnS := ⟨rfl, rfl⟩, hfp := rfl, nd := ?_ }
    · rw [heap_set_same (heap_set_same h.hd)]; rfl
    · have hn := h.nd
      rw [h.hfp] at hn
      refine hn.sublist (List.Sublist.cons_cons d (List.Sublist.cons_cons m ?_))
      exact List.sublist_append_right _ _
  · simp only [List.mem_cons, List.mem_map] at hb
    rcases hb with rfl | rfl | ⟨p, hp, rfl⟩
    · exact h.mem.1
    · exact h.mem.2.1
    · exact h.mem.2.2.2.2 p hp
theorem names_shape {w1 : World} {base : Nat} {vn : Value} {l : List (List UInt8)} (h : NamesAt w1 base vn l) : ∃ a cap, vn = .slice a l.length cap ∧ (l.length = 0 ∨ ∃ g, a = some ⟨g, 0, none⟩ ∧ base ≤ g ∧ g < w1.heap.size ∧ ∀ k (hk : k < l.length), w1.cell? ⟨g, k, none⟩ = some (encStr l[k])) := by
  obtain ⟨hrow, hnil⟩ := h
  have hlt := hrow.lt
  have hr := hrow
  rcases hrow.2 with ⟨rfl, he⟩ | ⟨g, cap, cur, rfl, hg, _⟩
  · have : l.length = 0 := by simpa using he
    exact ⟨none, 0, by rw [this], Or.inl this⟩
  · refine ⟨some ⟨g, 0, none⟩, cap, rfl, Or.inr ⟨g, rfl, hg, (hlt g rfl).2, fun k hk => ?_⟩⟩
    have := hr.cells (g := g) rfl k (encStr l[k]) (by simp [hk])
    rw [← this]
    congr 1
    unfold Addr.add
    split
    · rename_i e; rw [e]
    · simp
theorem KeepAt.step {w1 wr wr2 : World} {fpk : List Nat} {v : Value} {ks : List Int} (h : KeepAt wr v ks (fun b => b ∉ fp ∧ b < w.heap.size)) (hx : Ext (· ∈ fpk) wr wr2) (hsk : ∀ b ∈ fpk, b ∈ fp ∨ w1.heap.size ≤ b) (hw : w.heap.size ≤ w1.heap.size) (hw2 : w1.heap.size ≤ wr.heap.size) :
    KeepAt wr2 v ks (fun b => b ∉ fp ∧ b < w.heap.size) := by
  obtain ⟨a, cap, e, h1, h2, h3⟩ := h
  refine ⟨a, cap, e, h1, h2, h3.imp id (fun ⟨b, o, e, hQ, hc⟩ => ⟨b, o, e, hQ, fun i hi => ?_⟩)⟩
  rw [← hc i hi]
  exact World.cell?_of_block (hx.block b (by omega) (fun hm => by rcases hsk b hm with h | h; exact hQ.1 h; omega))
theorem After.ext {w' : World} (h : After w d fp S w') : Ext (· ∈ fp) w w' := by obtain ⟨_, _, h, _⟩ := h; exact h
theorem toList_mk (l : List UInt8) : (⟨l.toArray⟩ : ByteArray).data.toList = l := by simp
theorem gen_world {W : World → Prop} {P : World → Prop} {w : World} (hP : P w) (h : ∀ v, P v → W v) : W w := h w hP
theorem keep_tail1 {wr : World} {Q : Nat → Prop} {a : Option Addr} {r : List Int} {c : Nat} (hc : c = 1) (h : r.length + 1 ≤ c) : KeepAt wr (.slice a r.length 0) r Q :=
  ⟨a, 0, rfl, by omega, by unfold maxLen; omega, Or.inl (by omega)⟩
theorem keep_tail2 {wr : World} {Q : Nat → Prop} {bk ok c : Nat} {r : List Int} (h : r.length + 1 ≤ c) (hc : c ≤ 2 ^ 63 - 1) (hQ : Q bk) (hcr : ∀ i, i < r.length → wr.cell? ⟨bk, ok + 1 + i, none⟩ = some (.int .i64 (r.getD i 0))) : KeepAt wr (.slice (some ⟨bk, ok + 1, none⟩) r.length (c - 1)) r Q :=
  ⟨_, c - 1, rfl, by omega, by unfold maxLen; omega, Or.inr ⟨bk, ok + 1, rfl, hQ, hcr⟩⟩
set_option maxHeartbeats 4000000 in
theorem crash_any {K : Nat} (h : DiskAt w d S fp) (hS : S.Ok K) (v : Value) (ks : List Int) (hk : KeepAt w v ks (fun b => b ∉ fp ∧ b < w.heap.size)) (hwf : ∀ i, -9223372036854775808 ≤ ks.getD i 0 ∧ ks.getD i 0 ≤ 9223372036854775807) :
    Calls Try.prog 13 #[.pointer (some ⟨d, 0, none⟩), v] w fun e w' => e = .returned (.int .i64 0) ∧ After w d fp (S.crash ks) w' := by
  have h0 := h
  have hn := names_any h hS
  have d2 : ∃ m, w.cell? ⟨d, 2, none⟩ = some (.map (some m)) := by obtain ⟨m, es, vA, vS, cA, cS, h⟩ := h; exact ⟨m, h.cell.2.2.1⟩
  obtain ⟨m0, d2⟩ := d2
  have hfew := hS.few
  have HN := Lib.hid hn
  clear hn h
  have hlt0 := h0.lt
  have HS := Lib.hid hS
  clear hS
  obtain ⟨a0, cap0, rfl, hcap, hcapm, hcells⟩ := hk
  go_enter Try.func13, Try.ntmps13
  go_wp2_with (go_at_call 30; refine (none_some _ d m0 d2).mono ?_; rintro e w' ⟨rfl, rfl⟩)
  refine HN.out.mono ?_
  rintro e w1 ⟨vn, rfl, hnm, hb1⟩
  obtain ⟨an, capn, rfl, hnc⟩ := names_shape hnm
  clear hnm
  have hA : After w1 d fp S w1 := ⟨fp, h0.keep (Ext.of_below hb1 (Nat.le_refl _) (fun _ => False)) (fun _ _ => id), Ext.refl _ _, fun b hb => Or.inl hb⟩
  go_wp2_with fail
  go_loopw [1, 14] (fun kv i wr => ∃ k : Nat, k ≤ S.files.length ∧ i = .int .i64 k ∧ KeepAt wr kv (crashK (S.files.take k) ks) (fun b => b ∉ fp ∧ b < w.heap.size) ∧ Hid (After w1 d fp (S.mid ks k) wr ∧ (S.mid ks k).Ok K)) (fun _ i _ => S.files.length - (intOf i).toNat)
  case atStart =>
    refine ⟨0, Nat.zero_le _, rfl, ?_, ?_⟩
    · refine ⟨a0, cap0, rfl, hcap, hcapm, hcells.imp id (fun ⟨b, o, e, hQ, hc⟩ => ⟨b, o, e, hQ, fun i hi => ?_⟩)⟩
      refine Eq.trans ?_ (hc i hi)
      exact hb1.cell (p := ⟨b, o + i, none⟩) hQ.2
    · rw [Dk.mid_zero]; exact ⟨hA, HS.out⟩
  case round =>
    obtain ⟨k, hk, rfl, hkv, hA'⟩ := hrel
    obtain ⟨⟨fpk, hdk, hxk, hsk⟩, hok⟩ := hA'.out
    clear hA'
    by_cases hlt : k < S.files.length
    · rcases hnc with hnc | ⟨g, rfl, hg1, hg2, hnc⟩
      · simp only [List.length_map] at hnc; omega
      have hcn : wr.cell? ⟨g, k, none⟩ = some (encStr S.files[k].name) := by
        have h1 := hnc k (by simpa using hlt)
        rw [World.cell?_of_block (w := w1) (hxk.block g hg2 (fun hm => by have := hlt0 g hm; omega)), h1]
        simp
      have hok' := hok
      have hri := hok.rising
      have hfind : findF (S.mid ks k).files S.files[k].name = some S.files[k] := by
        have hri' := hri
        rw [Dk.mid_files S ks hlt] at hri' ⊢
        exact findF_mid hri'
      have hnm := (HS.out.names _ (List.getElem_mem hlt))
      have hsy := (HS.out.synced _ (List.getElem_mem hlt))
      have hsz := (HS.out.size_le (List.getElem_mem hlt))
      clear hnc
      have hkc := fun hc => mid_keep S ks hlt hc
      have hkr := fun hc hf => mid_remove S ks hlt hri hc hf
      have hkt := fun hc hf => mid_cut S ks hlt hri hsy hc hf
      have hrm := fun (w : World) (fp : List Nat) (h : DiskAt w d (S.mid ks k) fp) => remove_any h hok
      have hct := fun (w : World) (fp : List Nat) (h : DiskAt w d (S.mid ks k) fp) => cut_any h hok
      have hrok := fun s => hok.remove s
      have hcok := fun s n => hok.cut' s n
      generalize S.files[k] = f at *
      generalize S.mid ks k = Sk at *
      generalize crashK (List.take k S.files) ks = ks0 at *
      have hnsz : (⟨f.name.toArray⟩ : ByteArray).size ≤ maxLen := by unfold maxLen; show f.name.toArray.size ≤ _; simp; omega
      have hkey := WideMaps.keyOf_string_mk Try.underlying9 hnsz
      simp only at hkey
      obtain ⟨m, es, vA, vS, cA, cS, hl⟩ := hdk
      have hfe := hfind
      rw [hl.files] at hfe
      obtain ⟨b, hbm, hat⟩ := atKey_dataOf_some hfe
      obtain ⟨v, ps, hrun, hv⟩ := hl.hm.lookup law9 Try.underlying59 (zero63 wr) (zd := .nil) (zp := []) rfl hkey
      rw [hat] at hv
      obtain rfl := ptrElem_held hv
      have d2r := hl.cell.2.2.1
      have hfb := hl.fls _ hbm
      have b0 := hfb.cell.1
      have b1 := hfb.cell.2.1
      have b2 := hfb.cell.2.2
      simp only at b0 b1 b2
      have hdk : DiskAt wr d Sk fpk := ⟨m, es, vA, vS, cA, cS, hl⟩
      obtain ⟨ak, capk, rfl, hcapk, hcapkm, hkc2⟩ := hkv
      have hA0 : ∀ n, After w1 d fp Sk (wr.drewN n) := fun n => ⟨fpk, hdk.keep (Ext.drewN (fun _ => False) wr n) (fun _ _ => id), hxk.trans (Ext.drewN _ _ _), hsk⟩
      have H1 := Lib.hid hkc
      have H2 := Lib.hid hkr
      have H3 := Lib.hid hkt
      have H4 := Lib.hid hrm
      have H5 := Lib.hid hct
      have H6 := Lib.hid hrok
      have H7 := Lib.hid hcok
      have HA := Lib.hid hA0
      have HX := Lib.hid (And.intro hxk hsk)
      have HD := Lib.hid (fun n => (hdk.keep (Ext.drewN (fun _ => False) wr n) (fun _ _ => id) : DiskAt (wr.drewN n) d Sk fpk))
      have HK := Lib.hid hkc2
      have HO := Lib.hid hok
      clear hkc hkr hkt hrm hct hrok hcok hat hv hfind hfe hl hfb hri hok hok' hkey hA0 hkc2 hlt0 hA hcells d2 hdk hxk hsk hwf
      unfold maxLen at hcapkm hcapm
      by_cases hc : f.fresh = false ∧ f.synced = f.bytes.size
      · obtain ⟨hc1, hc2⟩ := hc
        have hq : ((f.synced : Int) == (f.bytes.size : Int)) = true := by simp [hc2]
        have HC := Lib.hid hc2
        rw [hc1] at b2
        have HF := Lib.hid hc1
        clear hc1 hc2
        go_wp2
        go_quiet (fail)
        go_wp2
        obtain ⟨e1, e2⟩ := H1.out ⟨HF.out, HC.out⟩
        go_roundw
        case rel =>
          refine ⟨k + 1, by omega, by go_num, ?_, ?_⟩
          · rw [e2]
            exact ⟨ak, capk, rfl, hcapk, by unfold maxLen; exact hcapkm, HK.out⟩
          · rw [e1]
            exact ⟨HA.out _, HO.out⟩
        case measure => simp [intOf]; omega
      · have HC := Lib.hid hc
        have tests : f.fresh = false → ((f.synced : Int) == (f.bytes.size : Int)) = false := by
          intro h'
          rw [beq_eq_false_iff_ne]
          intro e; exact hc ⟨h', by omega⟩
        clear hc
        by_cases hke : ks0.length = 0
        · have hhd : ks0.headD (-1) = -1 := by rw [List.length_eq_zero_iff.1 hke]; rfl
          have htl : ks0.tail = ks0 := by rw [List.length_eq_zero_iff.1 hke]; rfl
          rw [hhd] at H2 H3
          have HHt := Lib.hid htl
          have Hke := Lib.hid hke
          rw [hke]
          clear hhd htl
          cases hfr : f.fresh with
          | true =>
            rw [hfr] at b2
            have HF := Lib.hid hfr
            clear hfr tests hke
            go_wp2
            go_quiet (fail)
            go_wp2_with (first | (go_at_call 26; refine (H4.out _ fpk (HD.out _) ⟨f.name.toArray⟩ hnsz).mono ?_; rintro e wr2 ⟨rfl, hA2⟩))
            obtain ⟨e1, e2⟩ := H2.out HC.out ⟨HF.out, by omega⟩
            rw [HHt.out] at e2
            go_roundw
            case rel =>
              refine ⟨k + 1, by omega, by go_num, ?_, ?_⟩
              · rw [e2]
                exact KeepAt.step (w1 := w1) ⟨ak, capk, by rw [Hke.out], hcapk, by unfold maxLen; exact hcapkm, HK.out⟩ ((Ext.drewN _ _ _).trans hA2.ext) HX.out.2 hb1.size HX.out.1.size
              · rw [e1]
                exact ⟨After.trans (HX.out.1.trans (Ext.drewN _ _ _)) HX.out.2 hA2, H6.out _⟩
            case measure => simp [intOf]; omega
          | false =>
            rw [hfr] at b2
            have HF := Lib.hid hfr
            have ht := tests hfr
            clear hfr tests hke
            go_wp2
            go_quiet (fail)
            have g0 : (wr.drewN nq).cell? ⟨b, 0, none⟩ = some (.string f.bytes) := b0
            have g1 : (wr.drewN nq).cell? ⟨b, 1, none⟩ = some (.int .i64 (f.synced : Int)) := b1
            have g2 : (wr.drewN nq).cell? ⟨b, 2, none⟩ = some (.bool false) := b2
            have HDq := Lib.hid (And.intro (HD.out nq) (Ext.drewN (fun _ => False) wr nq))
            clear b0 b1 b2 HD HA hrun d2r hcn
            generalize wr.drewN nq = wq at *
            go_wp2
            go_still_tail 20, (by kernel_rfl)
            have HDr := Lib.hid (HDq.out.1.keep (Ext.drew (fun _ => False) wq) (fun _ _ => id))
            go_wp2_with (first | (go_at_call 25; refine (H5.out _ fpk HDr.out ⟨f.name.toArray⟩ _ hnsz).mono ?_; rintro e wr2 ⟨rfl, hA2⟩))
            obtain ⟨e1, e2⟩ := H3.out HC.out (fun h => by rw [HF.out] at h; cases h.1)
            rw [HHt.out] at e2
            go_roundw
            case rel =>
              refine ⟨k + 1, by omega, by go_num, ?_, ?_⟩
              · rw [e2]
                exact KeepAt.step (w1 := w1) ⟨ak, capk, by rw [Hke.out], hcapk, by unfold maxLen; exact hcapkm, HK.out⟩ (((HDq.out.2.mono (fun _ h => h.elim)).trans (Ext.drew _ _)).trans hA2.ext) HX.out.2 hb1.size HX.out.1.size
              · rw [e1]
                exact ⟨After.trans (HX.out.1.trans ((HDq.out.2.mono (fun _ h => h.elim)).trans (Ext.drew _ _))) HX.out.2 hA2, H7.out _ _⟩
            case measure => simp [intOf]; omega
        · obtain ⟨x, r, rfl⟩ : ∃ x r, ks0 = x :: r := by
            cases ks0 with
            | nil => simp at hke
            | cons x r => exact ⟨x, r, rfl⟩
          rcases HK.out with hk0 | ⟨bk, ok, rfl, hQ, hcc⟩
          · simp at hk0
          have hcx := hcc 0 (by simp)
          simp only [List.getD_cons_zero, Nat.add_zero] at hcx
          have hcr : ∀ i, i < r.length → wr.cell? ⟨bk, ok + 1 + i, none⟩ = some (.int .i64 (r.getD i 0)) := fun i hi => by
            have := hcc (i + 1) (by simp; omega)
            rw [List.getD_cons_succ] at this
            rw [← this]; congr 2; omega
          have HK2 := Lib.hid (And.intro hQ hcr)
          simp only [List.headD_cons, List.tail_cons] at H2 H3
          simp only [List.length_cons] at hcapk
          rw [List.length_cons]
          clear hcc hcr HK hke hQ
          by_cases hcap1 : capk = 1
          all_goals
            cases hfr : f.fresh with
            | true =>
              rw [hfr] at b2
              have HF := Lib.hid hfr
              clear hfr tests
              by_cases hx : x < 0
              · go_wp2
                go_quiet (fail)
                go_wp2
                go_quiet (fail)
                go_wp2_with (first | (go_at_call 26; refine (H4.out _ fpk (HD.out _) ⟨f.name.toArray⟩ hnsz).mono ?_; rintro e wr2 ⟨rfl, hA2⟩))
                obtain ⟨e1, e2⟩ := H2.out HC.out ⟨HF.out, hx⟩
                go_roundw
                case rel =>
                  refine ⟨k + 1, by omega, by go_num, ?_, ?_⟩
                  · rw [e2]
                    refine KeepAt.step (w1 := w1) ?_ ((Ext.drewN _ wr _).trans hA2.ext) HX.out.2 hb1.size HX.out.1.size
                    first | exact keep_tail1 hcap1 hcapk | exact keep_tail2 hcapk hcapkm HK2.out.1 HK2.out.2
                  · rw [e1]
                    exact ⟨After.trans (HX.out.1.trans (Ext.drewN _ _ _)) HX.out.2 hA2, H6.out _⟩
                case measure => simp [intOf]; omega
              · go_wp2
                go_quiet (fail)
                go_wp2
                go_quiet (fail)
                have HDq := Lib.hid (fun n n2 => And.intro ((HD.out n).keep (Ext.drewN (fun _ => False) _ n2) (fun _ _ => id)) ((Ext.drewN (fun _ => False) wr n).trans (Ext.drewN (fun _ => False) _ n2)))
                refine gen_world (P := fun v => (DiskAt v d Sk fpk ∧ Ext (fun _ => False) wr v) ∧ v.cell? ⟨b, 0, none⟩ = some (.string f.bytes) ∧ v.cell? ⟨b, 1, none⟩ = some (.int .i64 (f.synced : Int)) ∧ v.cell? ⟨b, 2, none⟩ = some (.bool true)) ⟨HDq.out _ _, b0, b1, b2⟩ ?_
                clear b0 b1 b2 HD HA hrun d2r hcn hcx HDq
                rintro wq ⟨⟨hdq, hxq⟩, g0, g1, g2⟩
                have HDq := Lib.hid hdq
                have HXq := Lib.hid hxq
                clear hdq hxq
                go_wp2
                go_still_tail 20, (by kernel_rfl)
                have HDr := Lib.hid (HDq.out.keep (Ext.drew (fun _ => False) wq) (fun _ _ => id))
                go_wp2_with (first | (go_at_call 25; refine (H5.out _ fpk HDr.out ⟨f.name.toArray⟩ _ hnsz).mono ?_; rintro e wr2 ⟨rfl, hA2⟩))
                obtain ⟨e1, e2⟩ := H3.out HC.out (fun h => by have := h.2; omega)
                go_roundw
                case rel =>
                  refine ⟨k + 1, by omega, by go_num, ?_, ?_⟩
                  · rw [e2]
                    refine KeepAt.step (w1 := w1) ?_ (((HXq.out.mono (fun _ h => h.elim)).trans (Ext.drew _ _)).trans hA2.ext) HX.out.2 hb1.size HX.out.1.size
                    first | exact keep_tail1 hcap1 hcapk | exact keep_tail2 hcapk hcapkm HK2.out.1 HK2.out.2
                  · rw [e1]
                    exact ⟨After.trans (HX.out.1.trans ((HXq.out.mono (fun _ h => h.elim)).trans (Ext.drew _ _))) HX.out.2 hA2, H7.out _ _⟩
                case measure => simp [intOf]; omega
            | false =>
              rw [hfr] at b2
              have HF := Lib.hid hfr
              have ht := tests hfr
              clear hfr tests
              go_wp2
              go_quiet (fail)
              go_wp2
              go_quiet (fail)
              have HDq := Lib.hid (fun n n2 => And.intro ((HD.out n).keep (Ext.drewN (fun _ => False) _ n2) (fun _ _ => id)) ((Ext.drewN (fun _ => False) wr n).trans (Ext.drewN (fun _ => False) _ n2)))
              refine gen_world (P := fun v => (DiskAt v d Sk fpk ∧ Ext (fun _ => False) wr v) ∧ v.cell? ⟨b, 0, none⟩ = some (.string f.bytes) ∧ v.cell? ⟨b, 1, none⟩ = some (.int .i64 (f.synced : Int)) ∧ v.cell? ⟨b, 2, none⟩ = some (.bool false)) ⟨HDq.out _ _, b0, b1, b2⟩ ?_
              clear b0 b1 b2 HD HA hrun d2r hcn hcx HDq
              rintro wq ⟨⟨hdq, hxq⟩, g0, g1, g2⟩
              have HDq := Lib.hid hdq
              have HXq := Lib.hid hxq
              clear hdq hxq
              go_wp2
              go_still_tail 20, (by kernel_rfl)
              have HDr := Lib.hid (HDq.out.keep (Ext.drew (fun _ => False) wq) (fun _ _ => id))
              go_wp2_with (first | (go_at_call 25; refine (H5.out _ fpk HDr.out ⟨f.name.toArray⟩ _ hnsz).mono ?_; rintro e wr2 ⟨rfl, hA2⟩))
              obtain ⟨e1, e2⟩ := H3.out HC.out (fun h => by rw [HF.out] at h; cases h.1)
              go_roundw
              case rel =>
                refine ⟨k + 1, by omega, by go_num, ?_, ?_⟩
                · rw [e2]
                  refine KeepAt.step (w1 := w1) ?_ (((HXq.out.mono (fun _ h => h.elim)).trans (Ext.drew _ _)).trans hA2.ext) HX.out.2 hb1.size HX.out.1.size
                  first | exact keep_tail1 hcap1 hcapk | exact keep_tail2 hcapk hcapkm HK2.out.1 HK2.out.2
                · rw [e1]
                  exact ⟨After.trans (HX.out.1.trans ((HXq.out.mono (fun _ h => h.elim)).trans (Ext.drew _ _))) HX.out.2 hA2, H7.out _ _⟩
              case measure => simp [intOf]; omega
    · obtain rfl : k = S.files.length := by omega
      obtain ⟨m, es, vA, vS, cA, cS, hl⟩ := hdk
      have d3 := hl.cell.2.2.2.1
      have d4 := hl.cell.2.2.2.2
      have f3 := hl.free.2.1
      have f4 := hl.free.2.2
      have hE := crash_end hl rfl
      rw [Dk.mid_all] at hE
      have HE := Lib.hid hE
      have HX := Lib.hid (And.intro hxk hsk)
      clear hnc hl hE hxk hsk hok hlt0 hkv hcells hA hwf d2
      go_wp2
      go_ret
      refine ⟨rfl, ?_⟩
      have hfin := After.trans HX.out.1 HX.out.2 HE.out
      exact After.trans (Ext.of_below hb1 (Nat.le_refl _) _) (fun b hb => Or.inl hb) hfin
end Go.Proofs.Ytbopfdbenjnipaa
