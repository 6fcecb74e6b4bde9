/- The disk in plain words: what its calls do to a list of files. No program, no memory. -/
import Init
namespace Go.Proofs.Ytbopfdbenjnipaa
/-- A file: its name, its bytes, how many of them are synced, whether it is new. -/
structure Fl where
  name : List UInt8
  bytes : ByteArray
  synced : Nat
  fresh : Bool
def total (fs : List Fl) : Nat := (fs.map (·.bytes.size)).sum
def findF (fs : List Fl) (s : List UInt8) : Option Fl := fs.find? fun f => f.name == s
def updF (fs : List Fl) (s : List UInt8) (g : Fl → Fl) : List Fl := fs.map fun f => if f.name = s then g f else f
def delF (fs : List Fl) (s : List UInt8) : List Fl := fs.filter fun f => !(f.name == s)
def insF (x : Fl) : List Fl → List Fl
  | [] => [x]
  | y :: r => if y.name < x.name then y :: insF x r else x :: y :: r
/-- A disk: its room, its files by rising names, what is to fail. -/
structure Dk where
  room : Nat
  files : List Fl
  app : Option Int
  syn : Option Int
def Dk.left (S : Dk) : Int := (S.room : Int) - (total S.files : Int)
def tick : Option Int → Option Int
  | none => none
  | some c => some (c - 1)
def failsNow : Option Int → Bool
  | none => false
  | some c => c - 1 == 0
def ctrOk (K : Nat) (c : Option Int) : Prop := ∀ x, c = some x → -(K : Int) ≤ x ∧ x ≤ 9223372036854775807
/-- A disk as it may come: K bounds how often a call was counted. -/
structure Dk.Ok (K : Nat) (S : Dk) : Prop where
  room0 : 1 ≤ S.room
  room1 : S.room ≤ 1048576
  rising : S.files.Pairwise fun a b => a.name < b.name
  names : ∀ f ∈ S.files, 1 ≤ f.name.length ∧ f.name.length ≤ 32
  few : S.files.length ≤ 64
  fits : total S.files ≤ S.room
  synced : ∀ f ∈ S.files, f.synced ≤ f.bytes.size
  app : ctrOk K S.app
  syn : ctrOk K S.syn
def nameOk (s : List UInt8) : Bool := s.all (fun c => (97 ≤ c && c ≤ 122) || (48 ≤ c && c ≤ 57) || c == 45 || c == 46) && (decide (0 < s.length) && decide (s.length ≤ 32))
def Dk.new (room : Int) : Dk := ⟨room.toNat, [], none, none⟩
def Dk.create (S : Dk) (s : List UInt8) : Dk × Int :=
  if !nameOk s then (S, 2) else
  match findF S.files s with
  | some _ => (S, 9)
  | none => if 64 ≤ S.files.length then (S, 6) else ({ S with files := insF ⟨s, ByteArray.empty, 0, true⟩ S.files }, 0)
def Dk.append (S : Dk) (s : List UInt8) (t : ByteArray) : Dk × Int :=
  match findF S.files s with
  | none => (S, 5)
  | some _ =>
    if failsNow S.app then ({ S with app := tick S.app }, 230) else
    if S.left < (t.size : Int) then ({ S with app := tick S.app }, 6) else
    ({ S with app := tick S.app, files := updF S.files s fun f => { f with bytes := f.bytes ++ t } }, 0)
def Dk.sync (S : Dk) (s : List UInt8) : Dk × Int :=
  match findF S.files s with
  | none => (S, 5)
  | some _ =>
    if failsNow S.syn then ({ S with syn := tick S.syn }, 230) else
    ({ S with syn := tick S.syn, files := updF S.files s fun f => { f with synced := f.bytes.size, fresh := false } }, 0)
def Dk.cut (S : Dk) (s : List UInt8) (n : Int) : Dk × Int :=
  match findF S.files s with
  | none => (S, 5)
  | some f =>
    if n < 0 ∨ (f.bytes.size : Int) < n then (S, 2) else
    ({ S with files := updF S.files s fun f => { f with bytes := f.bytes.extract 0 n.toNat, synced := n.toNat, fresh := false } }, 0)
def Dk.remove (S : Dk) (s : List UInt8) : Dk × Int :=
  match findF S.files s with
  | none => (S, 5)
  | some _ => ({ S with files := delF S.files s }, 0)
def Dk.fails (S : Dk) (a s : Int) : Dk × Int :=
  if a < 0 ∨ s < 0 then (S, 2) else ({ S with app := some a, syn := some s }, 0)
/-- What becomes of the files when the disk crashes; keep: of each that is loose, how much stays. -/
def crashF : List Fl → List Int → List Fl
  | [], _ => []
  | f :: r, keep =>
    if f.fresh = false ∧ f.synced = f.bytes.size then f :: crashF r keep else
    let n : Int := keep.headD (-1)
    if f.fresh = true ∧ n < 0 then crashF r keep.tail else
    let k := f.synced + (min (max n 0) ((f.bytes.size : Int) - f.synced)).toNat
    { f with bytes := f.bytes.extract 0 k, synced := k, fresh := false } :: crashF r keep.tail
def Dk.crash (S : Dk) (keep : List Int) : Dk := { S with files := crashF S.files keep, app := none, syn := none }
def Dk.copy (S : Dk) : Dk := { S with app := none, syn := none }
/-! ### laws of the lists -/
theorem total_nil : total [] = 0 := rfl
theorem total_cons (f : Fl) (r : List Fl) : total (f :: r) = f.bytes.size + total r := by simp [total]
theorem findF_mem {fs : List Fl} {s : List UInt8} {f : Fl} (h : findF fs s = some f) : f ∈ fs ∧ f.name = s := by
  unfold findF at h
  exact ⟨List.mem_of_find?_eq_some h, by simpa using List.find?_some h⟩
theorem findF_none {fs : List Fl} {s : List UInt8} : findF fs s = none ↔ ∀ f ∈ fs, f.name ≠ s := by
  unfold findF; simp
theorem total_upd_le {fs : List Fl} (s : List UInt8) (g : Fl → Fl) (k : Nat) (hr : fs.Pairwise fun a b => a.name < b.name) (hg : ∀ f ∈ fs, (g f).bytes.size ≤ f.bytes.size + k) : total (updF fs s g) ≤ total fs + k := by
  induction fs with
  | nil => simp [updF, total]
  | cons f r ih =>
    have ih := ih (List.Pairwise.of_cons hr) (fun x hx => hg x (List.mem_cons_of_mem _ hx))
    have e : updF (f :: r) s g = (if f.name = s then g f else f) :: updF r s g := rfl
    rw [e, total_cons, total_cons]
    by_cases h : f.name = s
    · have hno : updF r s g = r := by
        unfold updF
        refine (List.map_congr_left fun x hx => ?_).trans (List.map_id _)
        have := List.rel_of_pairwise_cons hr hx
        rw [if_neg (fun e => by rw [e, h] at this; exact absurd this (List.lt_irrefl _))]
        rfl
      rw [if_pos h, hno]
      have := hg f (List.mem_cons_self ..)
      omega
    · rw [if_neg h]; omega
theorem length_insF (x : Fl) (l : List Fl) : (insF x l).length = l.length + 1 := by
  induction l with
  | nil => rfl
  | cons y r ih => unfold insF; split <;> simp [ih]
theorem mem_insF {x y : Fl} {l : List Fl} : y ∈ insF x l ↔ y = x ∨ y ∈ l := by
  induction l with
  | nil => simp [insF]
  | cons z r ih =>
    unfold insF
    split
    · simp only [List.mem_cons, ih]
      constructor
      · rintro (h | h | h) <;> simp [h]
      · rintro (h | h | h) <;> simp [h]
    · simp
theorem total_insF (x : Fl) (l : List Fl) : total (insF x l) = x.bytes.size + total l := by
  induction l with
  | nil => rfl
  | cons y r ih =>
    unfold insF
    split
    · rw [total_cons, total_cons, ih]; omega
    · rw [total_cons]
theorem rising_insF {x : Fl} {l : List Fl} (hr : l.Pairwise fun a b => a.name < b.name) (hx : ∀ f ∈ l, f.name ≠ x.name) : (insF x l).Pairwise fun a b => a.name < b.name := by
  induction l with
  | nil => simp [insF]
  | cons y r ih =>
    have hy := hx y (List.mem_cons_self ..)
    have hr' := List.Pairwise.of_cons hr
    have ih := ih hr' (fun f hf => hx f (List.mem_cons_of_mem _ hf))
    unfold insF
    split
    · rename_i h
      refine List.Pairwise.cons (fun z hz => ?_) ih
      rcases mem_insF.1 hz with rfl | hz
      · exact h
      · exact List.rel_of_pairwise_cons hr hz
    · rename_i h
      have hlt : x.name < y.name := by
        rcases List.le_iff_lt_or_eq.1 (List.not_lt.1 h) with h | h
        · exact h
        · exact absurd h.symm hy
      refine List.Pairwise.cons (fun z hz => ?_) hr
      rcases List.mem_cons.1 hz with rfl | hz
      · exact hlt
      · exact List.lt_trans hlt (List.rel_of_pairwise_cons hr hz)
theorem sub_delF (l : List Fl) (s : List UInt8) : (delF l s).Sublist l := List.filter_sublist
theorem total_sub {l l' : List Fl} (h : l.Sublist l') : total l ≤ total l' := by
  induction h with
  | slnil => exact Nat.le_refl _
  | cons a _ ih => rw [total_cons]; omega
  | cons_cons a _ ih => rw [total_cons, total_cons]; omega
theorem length_updF (l : List Fl) (s : List UInt8) (g : Fl → Fl) : (updF l s g).length = l.length := by simp [updF]
theorem rising_updF {l : List Fl} {s : List UInt8} {g : Fl → Fl} (hg : ∀ f, (g f).name = f.name) (h : l.Pairwise fun a b => a.name < b.name) : (updF l s g).Pairwise fun a b => a.name < b.name := by
  unfold updF
  rw [List.pairwise_map]
  refine h.imp fun {a b} hab => ?_
  have e : ∀ f : Fl, (if f.name = s then g f else f).name = f.name := fun f => by split <;> simp [hg]
  rw [e, e]; exact hab
theorem ctrOk.tick {K : Nat} {c : Option Int} (h : ctrOk K c) : ctrOk (K + 1) (tick c) := by
  intro x hx
  cases c with
  | none => simp [Ytbopfdbenjnipaa.tick] at hx
  | some y => have := h y rfl; simp [Ytbopfdbenjnipaa.tick] at hx; omega
theorem ctrOk.mono {K K' : Nat} {c : Option Int} (h : ctrOk K c) (hk : K ≤ K') : ctrOk K' c := fun x hx => by have := h x hx; omega
theorem ctrOk_none (K : Nat) : ctrOk K none := fun _ h => by cases h
theorem Dk.Ok.mono {K K' : Nat} {S : Dk} (h : S.Ok K) (hk : K ≤ K') : S.Ok K' := { h with app := h.app.mono hk, syn := h.syn.mono hk }
theorem Dk.Ok.new {room : Int} (h1 : 1 ≤ room) (h2 : room ≤ 1048576) : (Dk.new room).Ok 0 :=
  ⟨by simp [Dk.new]; omega, by simp [Dk.new]; omega, by simp [Dk.new], by simp [Dk.new], by simp [Dk.new], by simp [Dk.new, total], by simp [Dk.new], ctrOk_none _, ctrOk_none _⟩
theorem Dk.Ok.create {K : Nat} {S : Dk} (h : S.Ok K) (s : List UInt8) : (S.create s).1.Ok K := by
  unfold Dk.create
  split
  · exact h
  · rename_i hn
    split
    · exact h
    · rename_i hf
      split
      · exact h
      · have hf := findF_none.1 hf
        simp only [Bool.not_eq_true, Bool.not_eq_false'] at hn
        simp only [nameOk, Bool.and_eq_true, decide_eq_true_eq] at hn
        refine { h with rising := rising_insF h.rising hf, names := fun f hf => ?_, few := ?_, fits := ?_, synced := fun f hf => ?_ }
        · rcases mem_insF.1 hf with rfl | hf
          · exact ⟨hn.2.1, hn.2.2⟩
          · exact h.names f hf
        · simp only [length_insF]; omega
        · simp only [total_insF]; have := h.fits; simpa using this
        · rcases mem_insF.1 hf with rfl | hf
          · simp
          · exact h.synced f hf
theorem Dk.Ok.upd {K K' : Nat} {S : Dk} (h : S.Ok K) (s : List UInt8) (g : Fl → Fl) (a b : Option Int) (hn : ∀ f, (g f).name = f.name) (ha : ctrOk K' a) (hb : ctrOk K' b)
    (ht : total (updF S.files s g) ≤ S.room) (hs : ∀ f ∈ S.files, (g f).synced ≤ (g f).bytes.size) : Dk.Ok K' { S with files := updF S.files s g, app := a, syn := b } := by
  refine { room0 := h.room0, room1 := h.room1, rising := rising_updF hn h.rising, names := fun f hf => ?_, few := ?_, fits := ht, synced := fun f hf => ?_, app := ha, syn := hb }
  · simp only [updF, List.mem_map] at hf
    obtain ⟨x, hx, rfl⟩ := hf
    split
    · rw [hn]; exact h.names x hx
    · exact h.names x hx
  · simp only [length_updF]; exact h.few
  · simp only [updF, List.mem_map] at hf
    obtain ⟨x, hx, rfl⟩ := hf
    split
    · exact hs x hx
    · exact h.synced x hx
theorem Dk.Ok.append {K : Nat} {S : Dk} (h : S.Ok K) (s : List UInt8) (t : ByteArray) : (S.append s t).1.Ok (K + 1) := by
  unfold Dk.append
  split
  · exact h.mono (Nat.le_succ _)
  · split
    · exact { h.mono (Nat.le_succ _) with app := h.app.tick }
    · split
      · exact { h.mono (Nat.le_succ _) with app := h.app.tick }
      · rename_i hl
        refine h.upd s _ _ _ (fun _ => rfl) h.app.tick (h.syn.mono (Nat.le_succ _)) ?_ ?_
        · have := total_upd_le s (fun f => { f with bytes := f.bytes ++ t }) t.size h.rising (by simp)
          unfold Dk.left at hl
          omega
        · intro f hf; have := h.synced f hf; simp; omega
theorem Dk.Ok.sync {K : Nat} {S : Dk} (h : S.Ok K) (s : List UInt8) : (S.sync s).1.Ok (K + 1) := by
  unfold Dk.sync
  split
  · exact h.mono (Nat.le_succ _)
  · split
    · exact { h.mono (Nat.le_succ _) with syn := h.syn.tick }
    · refine h.upd s _ _ _ (fun _ => rfl) (h.app.mono (Nat.le_succ _)) h.syn.tick ?_ ?_
      · have := total_upd_le s (fun f => { f with synced := f.bytes.size, fresh := false }) 0 h.rising (by simp)
        have := h.fits
        omega
      · intro f hf; simp
theorem size_cut (b : ByteArray) (n : Nat) : (b.extract 0 n).size = min n b.size := by simp [ByteArray.size_extract]
theorem Dk.Ok.cut {K : Nat} {S : Dk} (h : S.Ok K) (s : List UInt8) (n : Int) (hn : ∀ f ∈ S.files, f.name = s → n ≤ f.bytes.size) : Dk.Ok K { S with files := updF S.files s fun f => { f with bytes := f.bytes.extract 0 n.toNat, synced := n.toNat, fresh := false } } := by
  have e : updF S.files s (fun f => { f with bytes := f.bytes.extract 0 n.toNat, synced := n.toNat, fresh := false }) = updF S.files s (fun f => { f with bytes := f.bytes.extract 0 n.toNat, synced := min n.toNat f.bytes.size, fresh := false }) := by
    unfold updF
    refine List.map_congr_left fun f hf => ?_
    split
    · rename_i e
      have := hn f hf e
      have e2 : n.toNat = min n.toNat f.bytes.size := by omega
      simp only [← e2]
    · rfl
  rw [e]
  refine h.upd s _ _ _ (fun _ => rfl) h.app h.syn ?_ ?_
  · have := total_upd_le s (fun f => { f with bytes := f.bytes.extract 0 n.toNat, synced := min n.toNat f.bytes.size, fresh := false }) 0 h.rising (by intro f hf; simp only [size_cut]; omega)
    have := h.fits
    omega
  · intro f hf; simp only [size_cut]; omega
theorem find_name_unique {l : List Fl} (hr : l.Pairwise fun a b => a.name < b.name) {f g : Fl} (hf : f ∈ l) (hg : g ∈ l) (h : f.name = g.name) : f = g := by
  induction l with
  | nil => simp at hf
  | cons x r ih =>
    have hr' := List.Pairwise.of_cons hr
    rcases List.mem_cons.1 hf with rfl | hf'
    · rcases List.mem_cons.1 hg with rfl | hg'
      · rfl
      · have := List.rel_of_pairwise_cons hr hg'
        rw [h] at this
        exact absurd this (List.lt_irrefl _)
    · rcases List.mem_cons.1 hg with rfl | hg'
      · have := List.rel_of_pairwise_cons hr hf'
        rw [h] at this
        exact absurd this (List.lt_irrefl _)
      · exact ih hr' hf' hg'
theorem Dk.Ok.cut' {K : Nat} {S : Dk} (h : S.Ok K) (s : List UInt8) (n : Int) : (S.cut s n).1.Ok K := by
  unfold Dk.cut
  split
  · exact h
  · rename_i f hf
    obtain ⟨hf1, hf2⟩ := findF_mem hf
    split
    · exact h
    · refine h.cut s n fun g hg e => ?_
      rw [find_name_unique h.rising hg hf1 (e.trans hf2.symm)]
      omega
theorem Dk.Ok.remove {K : Nat} {S : Dk} (h : S.Ok K) (s : List UInt8) : (S.remove s).1.Ok K := by
  unfold Dk.remove
  split
  · exact h
  · have hsub := sub_delF S.files s
    refine { h with rising := h.rising.sublist hsub, names := fun f hf => h.names f (hsub.subset hf), few := ?_, fits := ?_, synced := fun f hf => h.synced f (hsub.subset hf) }
    · have := hsub.length_le; have := h.few; show (delF S.files s).length ≤ 64; omega
    · have := total_sub hsub; have := h.fits; show total (delF S.files s) ≤ S.room; omega
theorem Dk.Ok.fails {K : Nat} {S : Dk} (h : S.Ok K) (a s : Int) (ha : a ≤ 9223372036854775807) (hs : s ≤ 9223372036854775807) : (S.fails a s).1.Ok K := by
  unfold Dk.fails
  split
  · exact h
  · exact { h with app := fun x hx => by simp at hx; omega, syn := fun x hx => by simp at hx; omega }
theorem crashF_names : ∀ (l : List Fl) (keep : List Int), ((crashF l keep).map (·.name)).Sublist (l.map (·.name))
  | [], _ => by simp [crashF]
  | f :: r, keep => by
    unfold crashF
    split
    · exact (crashF_names r keep).cons_cons _
    · simp only
      split
      · exact (crashF_names r keep.tail).cons _
      · exact (crashF_names r keep.tail).cons_cons _
theorem total_crashF : ∀ (l : List Fl) (keep : List Int), total (crashF l keep) ≤ total l
  | [], _ => by simp [crashF]
  | f :: r, keep => by
    unfold crashF
    split
    · have := total_crashF r keep; rw [total_cons, total_cons]; omega
    · simp only
      split
      · have := total_crashF r keep.tail; rw [total_cons]; omega
      · have := total_crashF r keep.tail; rw [total_cons, total_cons, size_cut]; omega
theorem crashF_synced : ∀ (l : List Fl) (keep : List Int), (∀ f ∈ l, f.synced ≤ f.bytes.size) → ∀ f ∈ crashF l keep, f.synced = f.bytes.size ∧ f.fresh = false
  | [], _, _ => by simp [crashF]
  | f :: r, keep, h => by
    have hr : ∀ f ∈ r, f.synced ≤ f.bytes.size := fun x hx => h x (List.mem_cons_of_mem _ hx)
    have h0 := h f (List.mem_cons_self ..)
    intro g hg
    unfold crashF at hg
    split at hg
    · rename_i hc
      rcases List.mem_cons.1 hg with rfl | hg
      · exact ⟨hc.2, hc.1⟩
      · exact crashF_synced r keep hr g hg
    · simp only at hg
      split at hg
      · exact crashF_synced r keep.tail hr g hg
      · rcases List.mem_cons.1 hg with rfl | hg
        · refine ⟨?_, rfl⟩
          simp only [size_cut]
          omega
        · exact crashF_synced r keep.tail hr g hg
theorem rising_of_names {l : List Fl} : (l.map (·.name)).Pairwise (· < ·) ↔ l.Pairwise fun a b => a.name < b.name := by rw [List.pairwise_map]
theorem Dk.Ok.crash {K : Nat} {S : Dk} (h : S.Ok K) (keep : List Int) : (S.crash keep).Ok 0 := by
  have hsub := crashF_names S.files keep
  refine { room0 := h.room0, room1 := h.room1, rising := ?_, names := fun f hf => ?_, few := ?_, fits := ?_, synced := fun f hf => ?_, app := ctrOk_none _, syn := ctrOk_none _ }
  · exact rising_of_names.1 ((rising_of_names.2 h.rising).sublist hsub)
  · have : f.name ∈ S.files.map (·.name) := hsub.subset (List.mem_map_of_mem hf)
    obtain ⟨g, hg, e⟩ := List.mem_map.1 this
    rw [← e]; exact h.names g hg
  · have := hsub.length_le; simp only [List.length_map] at this; have := h.few; show (crashF S.files keep).length ≤ 64; omega
  · have := total_crashF S.files keep; have := h.fits; show total (crashF S.files keep) ≤ S.room; omega
  · rw [(crashF_synced S.files keep h.synced f hf).1]; exact Nat.le_refl _
theorem Dk.Ok.copy {K : Nat} {S : Dk} (h : S.Ok K) : S.copy.Ok 0 := { h with app := ctrOk_none _, syn := ctrOk_none _ }
end Go.Proofs.Ytbopfdbenjnipaa
