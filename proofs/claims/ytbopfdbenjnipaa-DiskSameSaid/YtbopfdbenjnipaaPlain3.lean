/- The reference's disk in plain words, and that it goes with the program's. -/
import Derived.Test.YtbopfdbenjnipaaPlain2
namespace Go.Proofs.Ytbopfdbenjnipaa
/-- The reference's disk: what is to fail are numbers that are not below 0. -/
structure Rf where
  room : Nat
  L : List Fl
  app : Int
  syn : Int
def Rf.left (R : Rf) : Int := (R.room : Int) - (total R.L : Int)
def Rf.Ok (R : Rf) : Prop := Dk.Ok 0 ⟨R.room, R.L, some R.app, some R.syn⟩
/-- One lower, if it is above 0. -/
def down (a : Int) : Int := if 0 < a then a - 1 else a
def hits (a : Int) : Bool := decide (0 < a) && (a - 1 == 0)
def Rf.new (room : Int) : Rf := ⟨room.toNat, [], 0, 0⟩
def Rf.create (R : Rf) (s : List UInt8) : Rf × Int :=
  if !nameOk s then (R, 2) else
  match findF R.L s with
  | some _ => (R, 9)
  | none => if 64 ≤ R.L.length then (R, 6) else ({ R with L := insF ⟨s, ByteArray.empty, 0, true⟩ R.L }, 0)
def Rf.put (R : Rf) (s : List UInt8) (t : ByteArray) : Rf × Int :=
  match findF R.L s with
  | none => (R, 5)
  | some _ =>
    if hits R.app then ({ R with app := down R.app }, 230) else
    if R.left < (t.size : Int) then ({ R with app := down R.app }, 6) else
    ({ R with app := down R.app, L := updF R.L s fun f => { f with bytes := f.bytes ++ t } }, 0)
def Rf.flush (R : Rf) (s : List UInt8) : Rf × Int :=
  match findF R.L s with
  | none => (R, 5)
  | some _ =>
    if hits R.syn then ({ R with syn := down R.syn }, 230) else
    ({ R with syn := down R.syn, L := updF R.L s fun f => { f with synced := f.bytes.size, fresh := false } }, 0)
def Rf.cut (R : Rf) (s : List UInt8) (n : Int) : Rf × Int :=
  match findF R.L s with
  | none => (R, 5)
  | some f =>
    if n < 0 ∨ (f.bytes.size : Int) < n then (R, 2) else
    ({ R with L := updF R.L s fun f => { f with bytes := f.bytes.extract 0 n.toNat, synced := n.toNat, fresh := false } }, 0)
def Rf.remove (R : Rf) (s : List UInt8) : Rf × Int :=
  match findF R.L s with
  | none => (R, 5)
  | some _ => ({ R with L := delF R.L s }, 0)
def Rf.fails (R : Rf) (a s : Int) : Rf × Int := if a < 0 ∨ s < 0 then (R, 2) else ({ R with app := a, syn := s }, 0)
def Rf.read (R : Rf) (s : List UInt8) : ByteArray × Int :=
  match findF R.L s with
  | none => (ByteArray.empty, 5)
  | some f => (f.bytes, 0)
def Rf.crash (R : Rf) (keep : List Int) : Rf := { R with L := crashF R.L keep, app := 0, syn := 0 }
def Rf.copy (R : Rf) : Rf := { R with app := 0, syn := 0 }
/-! ### both go together -/
/-- The program's counter and the reference's. -/
def Ctr (c : Option Int) (a : Int) : Prop := a = max (c.getD 0) 0
structure Sim (S : Dk) (R : Rf) : Prop where
  room : S.room = R.room
  files : S.files = R.L
  app : Ctr S.app R.app
  syn : Ctr S.syn R.syn
theorem Ctr.tick {c : Option Int} {a : Int} (h : Ctr c a) : Ctr (tick c) (down a) := by
  unfold Ctr at *
  subst h
  cases c with
  | none => simp [Ytbopfdbenjnipaa.tick, down]
  | some c =>
    simp only [Ytbopfdbenjnipaa.tick, down, Option.getD_some]
    split <;> omega
theorem Ctr.hits {c : Option Int} {a : Int} (h : Ctr c a) : hits a = failsNow c := by
  unfold Ctr at h
  subst h
  cases c with
  | none => simp [Ytbopfdbenjnipaa.hits, failsNow]
  | some c =>
    simp only [Ytbopfdbenjnipaa.hits, failsNow, Option.getD_some]
    rw [Bool.eq_iff_iff]
    simp only [Bool.and_eq_true, decide_eq_true_eq, beq_iff_eq]
    omega
theorem Ctr.none : Ctr none 0 := rfl
theorem Sim.left {S : Dk} {R : Rf} (h : Sim S R) : S.left = R.left := by unfold Dk.left Rf.left; rw [h.room, h.files]
theorem Sim.new {n : Int} : Sim (Dk.new n) (Rf.new n) := ⟨rfl, rfl, rfl, rfl⟩
theorem Sim.create {S : Dk} {R : Rf} (h : Sim S R) (s : List UInt8) : (S.create s).2 = (R.create s).2 ∧ Sim (S.create s).1 (R.create s).1 := by
  unfold Dk.create Rf.create
  rw [h.files]
  by_cases h1 : (!nameOk s) = true
  · simp only [if_pos h1]; exact ⟨trivial, h⟩
  · simp only [if_neg h1]
    cases findF R.L s with
    | some f => exact ⟨rfl, h⟩
    | none =>
      simp only
      by_cases h2 : 64 ≤ R.L.length
      · simp only [if_pos h2]; exact ⟨trivial, h⟩
      · simp only [if_neg h2]; exact ⟨trivial, { h with files := rfl }⟩
theorem Sim.append {S : Dk} {R : Rf} (h : Sim S R) (s : List UInt8) (t : ByteArray) : (S.append s t).2 = (R.put s t).2 ∧ Sim (S.append s t).1 (R.put s t).1 := by
  unfold Dk.append Rf.put
  rw [h.files, ← h.app.hits, h.left]
  cases findF R.L s with
  | none => exact ⟨rfl, h⟩
  | some f =>
    simp only
    by_cases h1 : Ytbopfdbenjnipaa.hits R.app = true
    · simp only [if_pos h1]; exact ⟨trivial, { h with app := h.app.tick, files := rfl }⟩
    · simp only [if_neg h1]
      by_cases h2 : R.left < (t.size : Int)
      · simp only [if_pos h2]; exact ⟨trivial, { h with app := h.app.tick, files := rfl }⟩
      · simp only [if_neg h2]; exact ⟨trivial, { h with app := h.app.tick, files := rfl }⟩
theorem Sim.sync {S : Dk} {R : Rf} (h : Sim S R) (s : List UInt8) : (S.sync s).2 = (R.flush s).2 ∧ Sim (S.sync s).1 (R.flush s).1 := by
  unfold Dk.sync Rf.flush
  rw [h.files, ← h.syn.hits]
  cases findF R.L s with
  | none => exact ⟨rfl, h⟩
  | some f =>
    simp only
    by_cases h1 : Ytbopfdbenjnipaa.hits R.syn = true
    · simp only [if_pos h1]; exact ⟨trivial, { h with syn := h.syn.tick, files := rfl }⟩
    · simp only [if_neg h1]; exact ⟨trivial, { h with syn := h.syn.tick, files := rfl }⟩
theorem Sim.cut {S : Dk} {R : Rf} (h : Sim S R) (s : List UInt8) (n : Int) : (S.cut s n).2 = (R.cut s n).2 ∧ Sim (S.cut s n).1 (R.cut s n).1 := by
  unfold Dk.cut Rf.cut
  rw [h.files]
  cases findF R.L s with
  | none => exact ⟨rfl, h⟩
  | some f =>
    simp only
    by_cases h1 : n < 0 ∨ (f.bytes.size : Int) < n
    · simp only [if_pos h1]; exact ⟨trivial, h⟩
    · simp only [if_neg h1]; exact ⟨trivial, { h with files := rfl }⟩
theorem Sim.remove {S : Dk} {R : Rf} (h : Sim S R) (s : List UInt8) : (S.remove s).2 = (R.remove s).2 ∧ Sim (S.remove s).1 (R.remove s).1 := by
  unfold Dk.remove Rf.remove
  rw [h.files]
  cases findF R.L s with
  | none => exact ⟨rfl, h⟩
  | some f => exact ⟨rfl, { h with files := rfl }⟩
theorem Sim.fails {S : Dk} {R : Rf} (h : Sim S R) (a s : Int) : (S.fails a s).2 = (R.fails a s).2 ∧ Sim (S.fails a s).1 (R.fails a s).1 := by
  unfold Dk.fails Rf.fails
  by_cases h1 : a < 0 ∨ s < 0
  · simp only [if_pos h1]; exact ⟨trivial, h⟩
  · simp only [if_neg h1]
    refine ⟨trivial, { h with app := ?_, syn := ?_ }⟩ <;> (simp only [Ctr, Option.getD_some]; omega)
theorem Sim.crash {S : Dk} {R : Rf} (h : Sim S R) (keep : List Int) : Sim (S.crash keep) (R.crash keep) := by
  refine { room := h.room, files := ?_, app := rfl, syn := rfl }
  show crashF S.files keep = crashF R.L keep
  rw [h.files]
theorem Sim.copy {S : Dk} {R : Rf} (h : Sim S R) : Sim S.copy R.copy := { h with app := rfl, syn := rfl }
theorem Sim.ok {S : Dk} {R : Rf} {K : Nat} (h : Sim S R) (hS : S.Ok K) : R.Ok := by
  have ha := h.app
  have hs := h.syn
  refine { room0 := by rw [← h.room]; exact hS.room0, room1 := by rw [← h.room]; exact hS.room1, rising := by rw [← h.files]; exact hS.rising, names := by rw [← h.files]; exact hS.names, few := by rw [← h.files]; exact hS.few, fits := by rw [← h.files, ← h.room]; exact hS.fits, synced := by rw [← h.files]; exact hS.synced, app := ?_, syn := ?_ }
  · intro x hx
    obtain rfl : R.app = x := by simpa using hx
    have hc := hS.app
    unfold Ctr at ha
    rw [ha]
    cases e : S.app with
    | none => simp
    | some c => have := hc c e; simp only [Option.getD_some]; omega
  · intro x hx
    obtain rfl : R.syn = x := by simpa using hx
    have hc := hS.syn
    unfold Ctr at hs
    rw [hs]
    cases e : S.syn with
    | none => simp
    | some c => have := hc c e; simp only [Option.getD_some]; omega
/-! ### by index -/
theorem set_updF : ∀ (l : List Fl) (i : Nat) (hi : i < l.length) (g : Fl → Fl), (l.Pairwise fun a b => a.name < b.name) → l.set i (g l[i]) = updF l l[i].name g
  | [], i, hi, _, _ => by simp at hi
  | f :: r, 0, _, g, hr => by
    have : updF r f.name g = r := by
      unfold updF
      refine (List.map_congr_left fun x hx => ?_).trans (List.map_id _)
      have := List.rel_of_pairwise_cons hr hx
      rw [if_neg (fun e => by rw [e] at this; exact absurd this (List.lt_irrefl _))]
      rfl
    show g f :: r = (if f.name = f.name then g f else f) :: updF r f.name g
    rw [if_pos rfl, this]
  | f :: r, i + 1, hi, g, hr => by
    have hi' : i < r.length := by simpa using hi
    have hlt := List.rel_of_pairwise_cons hr (List.getElem_mem hi')
    have ih := set_updF r i hi' g (List.Pairwise.of_cons hr)
    show f :: r.set i (g r[i]) = (if f.name = r[i].name then g f else f) :: updF r r[i].name g
    rw [if_neg (fun e => by rw [e] at hlt; exact absurd hlt (List.lt_irrefl _)), ih]
/-- Where a name stands: the first place. -/
def idxF (l : List Fl) (s : List UInt8) : Option Nat := l.findIdx? fun f => f.name == s
theorem idxF_none {l : List Fl} {s : List UInt8} : idxF l s = none ↔ findF l s = none := by
  unfold idxF findF
  rw [List.findIdx?_eq_none_iff, List.find?_eq_none]
  constructor
  · intro h x hx; rw [h x hx]; simp
  · intro h x hx; simpa using h x hx
theorem idxF_some {l : List Fl} {s : List UInt8} {i : Nat} (h : idxF l s = some i) : ∃ hi : i < l.length, l[i].name = s ∧ findF l s = some l[i] := by
  unfold idxF at h
  rw [List.findIdx?_eq_some_iff_getElem] at h
  obtain ⟨hi, h1, h2⟩ := h
  refine ⟨hi, by simpa using h1, ?_⟩
  unfold findF
  rw [List.find?_eq_some_iff_getElem]
  exact ⟨h1, i, hi, rfl, fun j hj => by simpa using h2 j hj⟩
end Go.Proofs.Ytbopfdbenjnipaa
