/- stands (21): both disks look the same. -/
import Derived.Test.YtbopfdbenjnipaaDoes1
import Derived.Deep.QuietTactic
import Derived.BigQuiet
namespace Go.Proofs.Ytbopfdbenjnipaa
set_option maxRecDepth 100000
open Go.RowKit Go.Maps Go.Sort
variable {w : World} {d x : Nat} {S : Dk} {R : Rf} {fp fq : List Nat}
/-- All names may be. -/
def Dk.Named (S : Dk) : Prop := ∀ f ∈ S.files, nameOk f.name = true
def QSaid (w : World) (v : Int) (e : Ending) (w' : World) : Prop := e = .returned (.int .i64 v) ∧ ∃ n, w' = w.drewN n
theorem loose_q {w : World} {d K : Nat} {S : Dk} {fp : List Nat} (h : DiskAt w d S fp) (hS : S.Ok K) (s : ByteArray) (hs : s.size ≤ maxLen) :
    Calls Try.prog 15 #[.pointer (some ⟨d, 0, none⟩), .string s] w (QSaid w (S.loose s.data.toList)) := by
  obtain ⟨m, es, vA, vS, cA, cS, h⟩ := h
  cases hf : findF S.files s.data.toList with
  | none =>
    have e1 : S.loose s.data.toList = 0 := by simp only [Dk.loose, hf]
    have hc := file_missing h s hs hf
    rw [e1]
    clear h hf e1
    have Hc := Lib.hid hc
    clear hc
    go_enter Try.func15, Try.ntmps15
    go_wp2_with (go_at_call 32; refine Hc.out.mono ?_; rintro e w' ⟨rfl, rfl⟩)
    go_ret
    exact ⟨rfl, 0, rfl⟩
  | some f =>
    have e1 : S.loose s.data.toList = (f.bytes.size : Int) - (f.synced : Int) := by simp only [Dk.loose, hf]
    obtain ⟨b, hb, hc⟩ := file_found h s hs hf
    obtain ⟨b0, b1, b2⟩ := (h.fls _ hb).cell
    have hm := (findF_mem hf).1
    have l1 := hS.size_le hm
    have l2 := hS.synced f hm
    rw [e1]
    clear h hf e1 hb hm
    have Hc := Lib.hid hc
    clear hc
    go_enter Try.func15, Try.ntmps15
    go_wp2_with (go_at_call 32; refine Hc.out.mono ?_; rintro e w' ⟨rfl, rfl⟩)
    go_quiet (fail)
    go_wp2
    go_ret
    exact ⟨rfl, _, rfl⟩
theorem loose_none (h : S.Named) : S.loose [110, 111, 32, 115, 117, 99, 104, 32, 102, 105, 108, 101] = 0 := by
  have : findF S.files [110, 111, 32, 115, 117, 99, 104, 32, 102, 105, 108, 101] = none := by
    rw [findF_none]
    intro f hf e
    have := h f hf
    rw [e] at this
    exact absurd this (by decide)
  simp only [Dk.loose, this]
def StSaid (w : World) (e : Ending) (w' : World) : Prop := e = .returned (.bool true) ∧ Ext (fun _ => False) w w'
set_option maxHeartbeats 4000000 in
theorem stands_any {K : Nat} (h : Both w d x S R fp fq) (hS : S.Ok K) (hsim : Sim S R) (hnm : S.Named) :
    Calls Try.prog 21 #[.pointer (some ⟨d, 0, none⟩), .pointer (some ⟨x, 0, none⟩)] w (StSaid w) := by
  obtain ⟨room, files, app, syn⟩ := S
  obtain rfl : files = R.L := hsim.files
  have hR := hsim.ok hS
  have hnames := names_any h.hd hS
  have hfew : R.L.length ≤ 64 := hS.few
  obtain ⟨v, hl⟩ := h.hr
  obtain ⟨a, cap, rfl, hcap, hcapm, hcl⟩ := hl.shape
  have c1 := hl.cell.2.1
  have hxl : x < w.heap.size := hl.lt x (by rw [hl.hfp]; simp)
  have HH := Lib.hid h
  have HS := Lib.hid hS
  have HSim := Lib.hid hsim
  have HR := Lib.hid hR
  have HN := Lib.hid hnames
  have HNm := Lib.hid (loose_none hnm)
  have HL := Lib.hid hl
  clear h hS hsim hR hnames hnm hl
  go_enter Try.func21, Try.ntmps21
  go_wp2_with fail
  refine HN.out.mono ?_
  rintro e w1 ⟨vn, rfl, hn, hb1⟩
  obtain ⟨an, capn, rfl, hnc⟩ := names_shape hn
  have hnc' : R.L.length = 0 ∨ ∃ g, an = some ⟨g, 0, none⟩ ∧ w.heap.size ≤ g ∧ g < w1.heap.size ∧ ∀ k (hk : k < R.L.length), w1.cell? ⟨g, k, none⟩ = some (.string ⟨R.L[k].name.toArray⟩) :=
    hnc.imp (fun h => by simpa using h) (fun ⟨g, e, h1, h2, h3⟩ => ⟨g, e, h1, h2, fun k hk => by have := h3 k (by simpa using hk); simpa [encStr] using this⟩)
  rw [List.length_map]
  have HNC := Lib.hid hnc'
  clear hn hnc hnc'
  have hx1 : Ext (fun _ => False) w w1 := Ext.of_below hb1 (Nat.le_refl _) _
  have hB1 := HH.out.quiet hx1
  have k1 : w1.cell? ⟨x, 1, none⟩ = some (.slice a R.L.length cap) := (hb1.cell (p := ⟨x, 1, none⟩) hxl).trans c1
  have hroom := room_any hB1.hd
  have hleft := left_any hB1.hr HR.out
  have hloose := loose_q hB1.hd HS.out ⟨#[110, 111, 32, 115, 117, 99, 104, 32, 102, 105, 108, 101]⟩ (by decide)
  rw [show (⟨#[110, 111, 32, 115, 117, 99, 104, 32, 102, 105, 108, 101]⟩ : ByteArray).data.toList = [110, 111, 32, 115, 117, 99, 104, 32, 102, 105, 108, 101] from rfl, HNm.out] at hloose
  rw [HSim.out.left] at hroom
  generalize R.left = left0 at *
  have H1 := Lib.hid hroom
  have H2 := Lib.hid hleft
  have H3 := Lib.hid hloose
  have HX1 := Lib.hid hx1
  have HB1 := Lib.hid hB1
  clear hroom hleft hloose c1 hx1 hB1 hb1
  go_wp2_with (first
    | (go_at_call 28; refine H1.out.mono ?_; rintro e w' ⟨rfl, rfl⟩)
    | (go_at_call 41; refine H2.out.mono ?_; rintro e w' ⟨rfl, rfl⟩)
    | (go_at_call 15; refine H3.out.mono ?_; rintro e w' ⟨rfl, n3, rfl⟩))
  have HXn := Lib.hid (HX1.out.trans (Ext.drewN (fun _ => False) w1 n3))
  have HY := Lib.hid (Ext.drewN (fun _ => False) w1 n3)
  clear H1 H2 H3 HN hcl k1 HNm
  generalize w1.drewN n3 = wn at *
  go_loopw [6] (fun i wr => ∃ k : Nat, k ≤ R.L.length ∧ i = .int .i64 k ∧ Hid (Ext (fun _ => False) w1 wr)) (fun i _ => R.L.length - (intOf i).toNat)
  case atStart => exact ⟨0, Nat.zero_le _, rfl, HY.out⟩
  case round =>
    clear HY HXn
    obtain ⟨k, hk, rfl, hx⟩ := hrel
    by_cases hlt : k < R.L.length
    · rcases HNC.out with h0 | ⟨g, rfl, hg1, hg2, hgc⟩
      · omega
      have p0 := (World.cell?_of_block (a := ⟨g, k, none⟩) (hx.out.block g hg2 id)).trans (hgc k hlt)
      have hBr := HB1.out.quiet hx.out
      have l1 := HL.out.keep (w' := wr) (fun b hb => ((HX1.out.trans hx.out).block b (HL.out.lt b hb) id))
      have q1 := l1.cell.2.1
      obtain ⟨a', cap', e, _, _, hs⟩ := l1.shape
      simp only [Value.slice.injEq] at e
      obtain ⟨rfl, -, rfl⟩ := e
      rcases hs with hz | ⟨g2, rfl, _, _, hs⟩
      · omega
      obtain ⟨r0, r1, r2, r3⟩ := hs k hlt
      have hmem : R.L[k] ∈ R.L := List.getElem_mem hlt
      have hfind : findF R.L R.L[k].name = some R.L[k] := findF_of_mem HS.out.rising hmem
      have hnl : (⟨R.L[k].name.toArray⟩ : ByteArray).size ≤ maxLen := by
        have := (HS.out.names _ hmem).2
        unfold maxLen; show R.L[k].name.toArray.size ≤ _; simp only [List.size_toArray]; omega
      have hsz := HS.out.size_le hmem
      have hsy := HS.out.synced _ hmem
      have hrd := read_any hBr.hd ⟨R.L[k].name.toArray⟩ hnl
      have e1 : Dk.read { room := room, files := R.L, app := app, syn := syn } R.L[k].name = (R.L[k].bytes, 0) := by simp only [Dk.read, hfind]
      have e2 : Dk.loose { room := room, files := R.L, app := app, syn := syn } R.L[k].name = (R.L[k].bytes.size : Int) - (R.L[k].synced : Int) := by simp only [Dk.loose, hfind]
      have hls := fun n : Nat => loose_q (hBr.quiet (Ext.drewN (fun _ => False) wr n)).hd HS.out ⟨R.L[k].name.toArray⟩ hnl
      simp only [e1, e2] at hrd hls
      clear e1 e2 hfind hmem hs hgc l1 hnl
      generalize R.L[k] = f at *
      have H1 := Lib.hid hrd
      have H2 := Lib.hid hls
      clear hrd hls hBr r3
      go_wp2_with (go_at_call 14; refine H1.out.mono ?_; rintro e w' ⟨rfl, rfl⟩)
      go_quiet ((go_at_call 15; exact Calls.quiet_of (H2.out _)))
      go_wp2_with fail
      go_roundw
      case rel => exact ⟨k + 1, by omega, by go_num, hx.out.trans (Ext.drewN _ _ _)⟩
      case measure => simp [intOf]; omega
    · obtain rfl : k = R.L.length := by omega
      go_wp2_with fail
      go_ret
      exact ⟨rfl, HX1.out.trans hx.out⟩
end Go.Proofs.Ytbopfdbenjnipaa
