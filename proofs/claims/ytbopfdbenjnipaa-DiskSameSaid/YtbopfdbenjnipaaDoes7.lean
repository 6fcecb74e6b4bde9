/- does (20), whatever the step; the duo of both disks behind any calls. -/
import Derived.Test.YtbopfdbenjnipaaDoes2
import Derived.Test.YtbopfdbenjnipaaDoes3
import Derived.Test.YtbopfdbenjnipaaDoes4
import Derived.Test.YtbopfdbenjnipaaDoes5
import Derived.Test.YtbopfdbenjnipaaDoes6
import Derived.Test.YtbopfdbenjnipaaStands
namespace Go.Proofs.Ytbopfdbenjnipaa
set_option maxRecDepth 100000
open Go.RowKit Go.Maps Go.Sort
variable {w0 w : World} {d x : Nat} {S : Dk} {R : Rf} {fp fq : List Nat}
theorem does_any {K b o : Nat} {s : Stp} (h : Both w d x S R fp fq) (hS : S.Ok K) (hK : K ≤ 4611686018427387904) (hsim : Sim S R) (hp : ∀ b ∈ fp, w0.heap.size ≤ b) (hq : ∀ b ∈ fq, w0.heap.size ≤ b) (hx : Ext (fun _ => False) w0 w) (hs : StpAt w0 w0.heap.size b o s) :
    Calls Try.prog 20 #[.pointer (some ⟨d, 0, none⟩), .pointer (some ⟨x, 0, none⟩), stepV s] w (DSaid w d x fp fq (S.step s) (R.step s)) := by
  unfold Dk.step Rf.step
  by_cases h1 : s.act = 1
  · simp only [if_pos h1]; exact does_sync h hS hK hsim s hs.hn hs.hb h1
  by_cases h2 : s.act = 2
  · simp only [if_neg h1, if_pos h2]; exact does_create h hS hK hsim s hs.hn hs.hb h2
  by_cases h3 : s.act = 3
  · simp only [if_neg h1, if_neg h2, if_pos h3]; exact does_read h hS hsim s hs.hn h3
  by_cases h4 : s.act = 4
  · simp only [if_neg h1, if_neg h2, if_neg h3, if_pos h4]; exact does_cut h hS hK hsim s hs.hn hs.hb h4
  by_cases h5 : s.act = 5
  · simp only [if_neg h1, if_neg h2, if_neg h3, if_neg h4, if_pos h5]; exact does_remove h hS hK hsim s hs.hn hs.hb h5
  by_cases h6 : s.act = 6
  · simp only [if_neg h1, if_neg h2, if_neg h3, if_neg h4, if_neg h5, if_pos h6]; exact does_fails h hS hK hsim s hs.hn hs.hb h6
  by_cases h7 : s.act = 7
  · simp only [if_neg h1, if_neg h2, if_neg h3, if_neg h4, if_neg h5, if_neg h6, if_pos h7]
    refine does_crash h hS hsim s h7 ?_ hs.hkw hs.hkl hs.hk0
    have hk := hs.hk.later (Below.of_ext hx)
    exact hk.mono' fun b hb => ⟨fun hm => by have := hp b hm; omega, fun hm => by have := hq b hm; omega, by have := hx.size; omega⟩
  · simp only [if_neg h1, if_neg h2, if_neg h3, if_neg h4, if_neg h5, if_neg h6, if_neg h7]
    refine does_append h hS hK hsim s hs.hn hs.hb fun i hi1 hi7 => ?_
    omega
/-! ### the names -/
theorem named_upd {l : List Fl} {s : List UInt8} {g : Fl → Fl} (hg : ∀ f, (g f).name = f.name) (h : ∀ f ∈ l, nameOk f.name = true) : ∀ f ∈ updF l s g, nameOk f.name = true := by
  intro f hf
  simp only [updF, List.mem_map] at hf
  obtain ⟨y, hy, rfl⟩ := hf
  split
  · rw [hg]; exact h y hy
  · exact h y hy
theorem Dk.Named.step (h : S.Named) (s : Stp) : (S.step s).Named := by
  unfold Dk.step
  repeat' split
  · unfold Dk.sync
    split
    · exact h
    · split
      · exact h
      · exact named_upd (fun _ => rfl) h
  · unfold Dk.create
    split
    · exact h
    · rename_i hn
      split
      · exact h
      · split
        · exact h
        · intro f hf
          rcases mem_insF.1 hf with rfl | hf
          · simpa using hn
          · exact h f hf
  · exact h
  · unfold Dk.cut
    split
    · exact h
    · split
      · exact h
      · exact named_upd (fun _ => rfl) h
  · unfold Dk.remove
    split
    · exact h
    · intro f hf; exact h f ((sub_delF _ _).subset hf)
  · unfold Dk.fails
    split
    · exact h
    · exact h
  · intro f hf
    have := (crashF_names S.files s.ks).subset (List.mem_map_of_mem (f := (·.name)) hf)
    obtain ⟨g, hg, e⟩ := List.mem_map.1 this
    rw [← e]; exact h g hg
  · unfold Dk.append
    split
    · exact h
    · split
      · exact h
      · split
        · exact h
        · exact named_upd (fun _ => rfl) h
/-! ### the duo -/
/-- Both disks behind any calls; w0: where the law began. -/
structure DuoAt (w0 w : World) (d x : Nat) (K : Nat) (S : Dk) (R : Rf) (fp fq : List Nat) : Prop where
  both : Both w d x S R fp fq
  sim : Sim S R
  ok : S.Ok K
  named : S.Named
  hp : ∀ b ∈ fp, w0.heap.size ≤ b
  hq : ∀ b ∈ fq, w0.heap.size ≤ b
  ext : Ext (fun _ => False) w0 w
def Duo (w0 w : World) (d x : Nat) (K : Nat) : Prop := ∃ S R fp fq, DuoAt w0 w d x K S R fp fq
theorem DuoAt.quiet {K : Nat} {w' : World} (h : DuoAt w0 w d x K S R fp fq) (hx : Ext (fun _ => False) w w') : DuoAt w0 w' d x K S R fp fq :=
  { h with both := h.both.quiet hx, ext := h.ext.trans hx }
theorem Duo.quiet {K : Nat} {w' : World} (h : Duo w0 w d x K) (hx : Ext (fun _ => False) w w') : Duo w0 w' d x K := by
  obtain ⟨S, R, fp, fq, h⟩ := h; exact ⟨S, R, fp, fq, h.quiet hx⟩
theorem DuoAt.after {K K' : Nat} {w' : World} {S' : Dk} {R' : Rf} (h : DuoAt w0 w d x K S R fp fq) (hA : PAfter w d x fp fq S' R' w') (hs : Sim S' R') (ho : S'.Ok K') (hn : S'.Named) : Duo w0 w' d x K' := by
  obtain ⟨fp', fq', hb, hx, h1, h2⟩ := hA
  have hz := h.ext.size
  refine ⟨S', R', fp', fq', hb, hs, ho, hn, fun b hb => ?_, fun b hb => ?_, h.ext.trans' hx fun i hi => Or.inr ?_⟩
  · rcases h1 b hb with h' | h'
    · exact h.hp b h'
    · omega
  · rcases h2 b hb with h' | h'
    · exact h.hq b h'
    · omega
  · rcases hi with h' | h'
    · exact h.hp i h'
    · exact h.hq i h'
theorem DuoAt.does {K b o : Nat} {s : Stp} (h : DuoAt w0 w d x K S R fp fq) (hK : K ≤ 4611686018427387904) (hs : StpAt w0 w0.heap.size b o s) :
    Calls Try.prog 20 #[.pointer (some ⟨d, 0, none⟩), .pointer (some ⟨x, 0, none⟩), stepV s] w fun e w' => e = .returned (.bool true) ∧ Duo w0 w' d x (K + 1) := by
  refine (does_any h.both h.ok hK h.sim h.hp h.hq h.ext hs).mono ?_
  rintro e w' ⟨rfl, hA⟩
  exact ⟨rfl, h.after hA (h.sim.step s) (h.ok.step s hs.w3 hs.w4) (h.named.step s)⟩
theorem DuoAt.stands {K : Nat} (h : DuoAt w0 w d x K S R fp fq) :
    Calls Try.prog 21 #[.pointer (some ⟨d, 0, none⟩), .pointer (some ⟨x, 0, none⟩)] w fun e w' => e = .returned (.bool true) ∧ DuoAt w0 w' d x K S R fp fq := by
  refine (stands_any h.both h.ok h.sim h.named).mono ?_
  rintro e w' ⟨rfl, hx⟩
  exact ⟨rfl, h.quiet hx⟩
theorem DuoAt.new {n : Int} (h1 : 1 ≤ n) (h2 : n ≤ 1048576) {w1 w2 : World} {d x : Nat} (hx : Ext (fun _ => False) w0 w) (hA : After w d [] (Dk.new n) w1) (hB : RAfter w1 x [] (Rf.new n) w2) : Duo w0 w2 d x 0 := by
  obtain ⟨fp, hd, hx1, hs1⟩ := hA
  obtain ⟨fq, hr, hx2, hs2⟩ := hB
  have z0 := hx.size
  have z1 := hx1.size
  have lt := hd.lt
  refine ⟨Dk.new n, Rf.new n, fp, fq, ⟨hd.keep hx2 (by simp), hr, fun b hb hq => ?_⟩, Sim.new, Dk.Ok.new h1 h2, by intro f hf; simp [Dk.new] at hf, fun b hb => ?_, fun b hb => ?_, (hx.trans (hx1.mono (by simp))).trans (hx2.mono (by simp))⟩
  · rcases hs2 b hq with h | h
    · simp at h
    · have := lt b hb; omega
  · rcases hs1 b hb with h | h
    · simp at h
    · omega
  · rcases hs2 b hb with h | h
    · simp at h
    · omega
end Go.Proofs.Ytbopfdbenjnipaa
