/- does (20): one call of both disks; what both become. -/
import Derived.Test.YtbopfdbenjnipaaCopy
import Derived.Test.YtbopfdbenjnipaaRef9
import Derived.Test.YtbopfdbenjnipaaArgs
import Derived.Deep.RegionHeld3
namespace Go.Proofs.Ytbopfdbenjnipaa
set_option maxRecDepth 100000
open Go.RowKit Go.Maps Go.Sort
variable {w : World} {d x : Nat} {S : Dk} {R : Rf} {fp fq : List Nat}
/-- The program's disk and the reference's, apart. -/
structure Both (w : World) (d x : Nat) (S : Dk) (R : Rf) (fp fq : List Nat) : Prop where
  hd : DiskAt w d S fp
  hr : RefAt w x R fq
  hn : ∀ b ∈ fp, b ∉ fq
/-- What a call of both leaves. -/
def PAfter (w : World) (d x : Nat) (fp fq : List Nat) (S' : Dk) (R' : Rf) (w' : World) : Prop :=
  ∃ fp' fq', Both w' d x S' R' fp' fq' ∧ Ext (fun b => b ∈ fp ∨ b ∈ fq) w w' ∧ (∀ b ∈ fp', b ∈ fp ∨ w.heap.size ≤ b) ∧ (∀ b ∈ fq', b ∈ fq ∨ w.heap.size ≤ b)
theorem Both.keep (h : Both w d x S R fp fq) {w' : World} {F : Nat → Prop} (hx : Ext F w w') (hp : ∀ b ∈ fp, ¬ F b) (hq : ∀ b ∈ fq, ¬ F b) : Both w' d x S R fp fq :=
  ⟨h.hd.keep hx hp, h.hr.keep hx hq, h.hn⟩
theorem Both.quiet (h : Both w d x S R fp fq) {w' : World} (hx : Ext (fun _ => False) w w') : Both w' d x S R fp fq := h.keep hx (fun _ _ => id) (fun _ _ => id)
theorem PAfter.same (h : Both w d x S R fp fq) {w' : World} (hx : Ext (fun _ => False) w w') : PAfter w d x fp fq S R w' :=
  ⟨fp, fq, h.quiet hx, hx.mono (fun _ h => h.elim), fun _ hb => Or.inl hb, fun _ hb => Or.inl hb⟩
theorem PAfter.trans {S2 : Dk} {R2 : Rf} {w1 w2 : World} {fp1 fq1 : List Nat} (hx : Ext (fun b => b ∈ fp ∨ b ∈ fq) w w1) (hp : ∀ b ∈ fp1, b ∈ fp ∨ w.heap.size ≤ b) (hq : ∀ b ∈ fq1, b ∈ fq ∨ w.heap.size ≤ b) (h2 : PAfter w1 d x fp1 fq1 S2 R2 w2) : PAfter w d x fp fq S2 R2 w2 := by
  obtain ⟨fp2, fq2, hb, hx2, hp2, hq2⟩ := h2
  have hs := hx.size
  refine ⟨fp2, fq2, hb, hx.trans' hx2 ?_, fun b hb => ?_, fun b hb => ?_⟩
  · rintro b (h | h)
    · rcases hp b h with h | h
      · exact Or.inl (Or.inl h)
      · exact Or.inr h
    · rcases hq b h with h | h
      · exact Or.inl (Or.inr h)
      · exact Or.inr h
  · rcases hp2 b hb with h | h
    · exact hp b h
    · right; omega
  · rcases hq2 b hb with h | h
    · exact hq b h
    · right; omega
theorem PAfter.pre {S2 : Dk} {R2 : Rf} {w1 w2 : World} (hx : Ext (fun _ => False) w w1) (h2 : PAfter w1 d x fp fq S2 R2 w2) : PAfter w d x fp fq S2 R2 w2 :=
  PAfter.trans (hx.mono (fun _ h => h.elim)) (fun _ hb => Or.inl hb) (fun _ hb => Or.inl hb) h2
theorem PAfter.post {S2 : Dk} {R2 : Rf} {w1 w2 : World} (h : PAfter w d x fp fq S2 R2 w1) (hx2 : Ext (fun _ => False) w1 w2) : PAfter w d x fp fq S2 R2 w2 := by
  obtain ⟨fp2, fq2, hb, hx, hp, hq⟩ := h
  exact ⟨fp2, fq2, hb.quiet hx2, hx.trans (hx2.mono (fun _ h => h.elim)), hp, hq⟩
theorem Both.disk (h : Both w d x S R fp fq) {S' : Dk} {w1 : World} (hA : After w d fp S' w1) : PAfter w d x fp fq S' R w1 := by
  obtain ⟨fp1, hd1, hx1, hs1⟩ := hA
  refine ⟨fp1, fq, ⟨hd1, h.hr.keep hx1 (fun b hb hp => h.hn b hp hb), fun b hb hq => ?_⟩, hx1.mono (fun _ h => Or.inl h), hs1, fun _ hb => Or.inl hb⟩
  rcases hs1 b hb with hp | hp
  · exact h.hn b hp hq
  · have := h.hr.lt b hq; omega
theorem Both.ref (h : Both w d x S R fp fq) {R' : Rf} {w1 : World} (hA : RAfter w x fq R' w1) : PAfter w d x fp fq S R' w1 := by
  obtain ⟨fq1, hr1, hx1, hs1⟩ := hA
  refine ⟨fp, fq1, ⟨h.hd.keep hx1 (fun b hb hq => h.hn b hb hq), hr1, fun b hb hq => ?_⟩, hx1.mono (fun _ h => Or.inr h), fun _ hb => Or.inl hb, hs1⟩
  rcases hs1 b hq with hp | hp
  · exact h.hn b hb hp
  · have := h.hd.lt b hb; omega
theorem PAfter.bind {S1 S2 : Dk} {R1 R2 : Rf} {w1 w2 : World} (h : PAfter w d x fp fq S1 R1 w1) (k : ∀ fp1 fq1, Both w1 d x S1 R1 fp1 fq1 → PAfter w1 d x fp1 fq1 S2 R2 w2) : PAfter w d x fp fq S2 R2 w2 := by
  obtain ⟨fp1, fq1, hb, hx, hp, hq⟩ := h
  exact PAfter.trans hx hp hq (k fp1 fq1 hb)
/-- A cell of none of both stays. -/
theorem PAfter.cell {S' : Dk} {R' : Rf} {w1 : World} (h : PAfter w d x fp fq S' R' w1) {b o : Nat} (hp : b ∉ fp) (hq : b ∉ fq) (hl : b < w.heap.size) : w1.cell? ⟨b, o, none⟩ = w.cell? ⟨b, o, none⟩ := by
  obtain ⟨_, _, _, hx, _⟩ := h
  exact World.cell?_of_block (hx.block b hl (fun h => by rcases h with h | h; exact hp h; exact hq h))
/-- .. opened, with what stays of a block of none of both. -/
theorem PAfter.opened {S' : Dk} {R' : Rf} {w1 : World} (h : PAfter w d x fp fq S' R' w1) {q : Nat} (hp : q ∉ fp) (hq : q ∉ fq) (hl : q < w.heap.size) :
    ∃ fp1 fq1, Both w1 d x S' R' fp1 fq1 ∧ (Ext (fun b => b ∈ fp ∨ b ∈ fq) w w1 ∧ (∀ b ∈ fp1, b ∈ fp ∨ w.heap.size ≤ b) ∧ (∀ b ∈ fq1, b ∈ fq ∨ w.heap.size ≤ b)) ∧ q ∉ fp1 ∧ q ∉ fq1 ∧ q < w1.heap.size ∧ ∀ o, w1.cell? ⟨q, o, none⟩ = w.cell? ⟨q, o, none⟩ := by
  have hc := fun o => h.cell (o := o) hp hq hl
  obtain ⟨fp1, fq1, hb, hx, h1, h2⟩ := h
  refine ⟨fp1, fq1, hb, ⟨hx, h1, h2⟩, fun hm => ?_, fun hm => ?_, by have := hx.size; omega, hc⟩
  · rcases h1 q hm with h | h
    · exact hp h
    · omega
  · rcases h2 q hm with h | h
    · exact hq h
    · omega
/-! ### the steps in plain words -/
def Dk.step (S : Dk) (s : Stp) : Dk :=
  if s.act = 1 then (S.sync s.name.data.toList).1 else
  if s.act = 2 then (S.create s.name.data.toList).1 else
  if s.act = 3 then S else
  if s.act = 4 then (S.cut s.name.data.toList s.n).1 else
  if s.act = 5 then (S.remove s.name.data.toList).1 else
  if s.act = 6 then (S.fails s.n s.m).1 else
  if s.act = 7 then S.crash s.ks else (S.append s.name.data.toList s.bytes).1
def Rf.step (R : Rf) (s : Stp) : Rf :=
  if s.act = 1 then (R.flush s.name.data.toList).1 else
  if s.act = 2 then (R.create s.name.data.toList).1 else
  if s.act = 3 then R else
  if s.act = 4 then (R.cut s.name.data.toList s.n).1 else
  if s.act = 5 then (R.remove s.name.data.toList).1 else
  if s.act = 6 then (R.fails s.n s.m).1 else
  if s.act = 7 then R.crash s.ks else (R.put s.name.data.toList s.bytes).1
theorem Sim.step (h : Sim S R) (s : Stp) : Sim (S.step s) (R.step s) := by
  unfold Dk.step Rf.step
  repeat' split
  · exact (h.sync _).2
  · exact (h.create _).2
  · exact h
  · exact (h.cut _ _).2
  · exact (h.remove _).2
  · exact (h.fails _ _).2
  · exact h.crash _
  · exact (h.append _ _).2
theorem Dk.Ok.step {K : Nat} (h : S.Ok K) (s : Stp) (hn : i64ok s.n) (hm : i64ok s.m) : (S.step s).Ok (K + 1) := by
  unfold Dk.step
  repeat' split
  · exact h.sync _
  · exact (h.create _).mono (Nat.le_succ _)
  · exact h.mono (Nat.le_succ _)
  · exact (h.cut' _ _).mono (Nat.le_succ _)
  · exact (h.remove _).mono (Nat.le_succ _)
  · exact (h.fails _ _ hn.2 hm.2).mono (Nat.le_succ _)
  · exact (h.crash _).mono (Nat.zero_le _)
  · exact h.append _ _
def stepV (s : Stp) : Value := .agg #[.int .i64 s.act, .string s.name, .string s.bytes, .int .i64 s.n, .int .i64 s.m, s.keep]
def DSaid (w : World) (d x : Nat) (fp fq : List Nat) (S' : Dk) (R' : Rf) (e : Ending) (w' : World) : Prop := e = .returned (.bool true) ∧ PAfter w d x fp fq S' R' w'
end Go.Proofs.Ytbopfdbenjnipaa
