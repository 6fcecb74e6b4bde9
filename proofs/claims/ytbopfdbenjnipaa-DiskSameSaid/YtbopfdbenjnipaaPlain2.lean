/- A crash, file by file, in plain words. -/
import Derived.Test.YtbopfdbenjnipaaPlain
namespace Go.Proofs.Ytbopfdbenjnipaa
def crashK : List Fl → List Int → List Int
  | [], ks => ks
  | f :: r, ks => if f.fresh = false ∧ f.synced = f.bytes.size then crashK r ks else crashK r ks.tail
def cutTo (f : Fl) (n : Int) : Fl := { f with bytes := f.bytes.extract 0 (f.synced + (min (max n 0) ((f.bytes.size : Int) - f.synced)).toNat), synced := f.synced + (min (max n 0) ((f.bytes.size : Int) - f.synced)).toNat, fresh := false }
theorem crashF_keep {f : Fl} (r : List Fl) (ks : List Int) (h : f.fresh = false ∧ f.synced = f.bytes.size) : crashF (f :: r) ks = f :: crashF r ks := by rw [crashF, if_pos h]
theorem crashF_gone {f : Fl} (r : List Fl) (ks : List Int) (h : ¬ (f.fresh = false ∧ f.synced = f.bytes.size)) (h2 : f.fresh = true ∧ ks.headD (-1) < 0) : crashF (f :: r) ks = crashF r ks.tail := by
  rw [crashF, if_neg h]; simp only; rw [if_pos h2]
theorem crashF_cut {f : Fl} (r : List Fl) (ks : List Int) (h : ¬ (f.fresh = false ∧ f.synced = f.bytes.size)) (h2 : ¬ (f.fresh = true ∧ ks.headD (-1) < 0)) : crashF (f :: r) ks = cutTo f (ks.headD (-1)) :: crashF r ks.tail := by
  rw [crashF, if_neg h]; simp only; rw [if_neg h2]; rfl
theorem crashF_append : ∀ (a b : List Fl) (ks : List Int), crashF (a ++ b) ks = crashF a ks ++ crashF b (crashK a ks)
  | [], b, ks => by simp [crashF, crashK]
  | f :: a, b, ks => by
    rw [List.cons_append, crashK]
    by_cases h : f.fresh = false ∧ f.synced = f.bytes.size
    · rw [crashF_keep _ _ h, crashF_keep _ _ h, if_pos h, crashF_append a b ks, List.cons_append]
    · rw [if_neg h]
      by_cases h2 : f.fresh = true ∧ ks.headD (-1) < 0
      · rw [crashF_gone _ _ h h2, crashF_gone _ _ h h2, crashF_append a b ks.tail]
      · rw [crashF_cut _ _ h h2, crashF_cut _ _ h h2, crashF_append a b ks.tail, List.cons_append]
theorem crashK_append : ∀ (a b : List Fl) (ks : List Int), crashK (a ++ b) ks = crashK b (crashK a ks)
  | [], b, ks => by simp [crashK]
  | f :: a, b, ks => by
    rw [List.cons_append, crashK, crashK]
    split
    · exact crashK_append a b ks
    · exact crashK_append a b ks.tail
theorem name_ne_left {A B : List Fl} {f : Fl} (hr : (A ++ f :: B).Pairwise fun a b => a.name < b.name) : (∀ x ∈ A, x.name ≠ f.name) ∧ (∀ x ∈ B, x.name ≠ f.name) := by
  rw [List.pairwise_append] at hr
  refine ⟨fun x hx e => ?_, fun x hx e => ?_⟩
  · have := hr.2.2 x hx f (List.mem_cons_self ..)
    rw [e] at this; exact absurd this (List.lt_irrefl _)
  · have := List.rel_of_pairwise_cons hr.2.1 hx
    rw [e] at this; exact absurd this (List.lt_irrefl _)
theorem findF_mid {A B : List Fl} {f : Fl} (hr : (A ++ f :: B).Pairwise fun a b => a.name < b.name) : findF (A ++ f :: B) f.name = some f := by
  have h := (name_ne_left hr).1
  unfold findF
  rw [List.find?_append]
  have : A.find? (fun g => g.name == f.name) = none := by
    rw [List.find?_eq_none]
    intro x hx; simpa using h x hx
  rw [this]; simp
theorem delF_mid {A B : List Fl} {f : Fl} (hr : (A ++ f :: B).Pairwise fun a b => a.name < b.name) : delF (A ++ f :: B) f.name = A ++ B := by
  obtain ⟨h1, h2⟩ := name_ne_left hr
  unfold delF
  rw [List.filter_append, List.filter_cons]
  simp only [beq_self_eq_true, Bool.not_true, Bool.false_eq_true, if_false]
  congr 1
  · rw [List.filter_eq_self]; intro x hx; simpa using h1 x hx
  · rw [List.filter_eq_self]; intro x hx; simpa using h2 x hx
theorem updF_mid {A B : List Fl} {f : Fl} (g : Fl → Fl) (hr : (A ++ f :: B).Pairwise fun a b => a.name < b.name) : updF (A ++ f :: B) f.name g = A ++ g f :: B := by
  obtain ⟨h1, h2⟩ := name_ne_left hr
  unfold updF
  rw [List.map_append, List.map_cons, if_pos rfl]
  congr 1
  · exact (List.map_congr_left fun x hx => if_neg (h1 x hx)).trans (List.map_id _)
  · congr 1
    exact (List.map_congr_left fun x hx => if_neg (h2 x hx)).trans (List.map_id _)
/-- The disk and the rest of keep behind the first k files. -/
def Dk.mid (S : Dk) (ks : List Int) (k : Nat) : Dk := { S with files := crashF (S.files.take k) ks ++ S.files.drop k }
theorem Dk.mid_zero (S : Dk) (ks : List Int) : S.mid ks 0 = S := by simp [Dk.mid, crashF]
theorem Dk.mid_all (S : Dk) (ks : List Int) : (S.mid ks S.files.length) = { S with files := crashF S.files ks } := by simp [Dk.mid]
theorem Dk.mid_files (S : Dk) (ks : List Int) {k : Nat} (h : k < S.files.length) : (S.mid ks k).files = crashF (S.files.take k) ks ++ S.files[k] :: S.files.drop (k + 1) := by
  simp only [Dk.mid]
  rw [List.drop_eq_getElem_cons h]
theorem take_snoc' {α : Type} (l : List α) {k : Nat} (h : k < l.length) : l.take (k + 1) = l.take k ++ [l[k]] := List.take_succ_eq_append_getElem h
theorem Dk.mid_succ (S : Dk) (ks : List Int) {k : Nat} (h : k < S.files.length) : S.mid ks (k + 1) = { S with files := crashF (S.files.take k) ks ++ crashF [S.files[k]] (crashK (S.files.take k) ks) ++ S.files.drop (k + 1) } := by
  unfold Dk.mid
  rw [take_snoc' _ h, crashF_append]
theorem crashK_succ (S : Dk) (ks : List Int) {k : Nat} (h : k < S.files.length) : crashK (S.files.take (k + 1)) ks = if S.files[k].fresh = false ∧ S.files[k].synced = S.files[k].bytes.size then crashK (S.files.take k) ks else (crashK (S.files.take k) ks).tail := by
  rw [take_snoc' _ h, crashK_append]
  simp only [crashK]
/-- The three ways of a round. -/
theorem mid_keep (S : Dk) (ks : List Int) {k : Nat} (h : k < S.files.length) (hc : S.files[k].fresh = false ∧ S.files[k].synced = S.files[k].bytes.size) : S.mid ks (k + 1) = S.mid ks k ∧ crashK (S.files.take (k + 1)) ks = crashK (S.files.take k) ks := by
  refine ⟨?_, by rw [crashK_succ S ks h, if_pos hc]⟩
  rw [Dk.mid_succ S ks h]
  have e := Dk.mid_files S ks h
  have : crashF [S.files[k]] (crashK (S.files.take k) ks) = [S.files[k]] := by rw [crashF_keep _ _ hc]; simp [crashF]
  rw [this]
  show _ = ({ S with files := (S.mid ks k).files } : Dk)
  rw [e]; simp
theorem mid_remove (S : Dk) (ks : List Int) {k : Nat} (h : k < S.files.length) (hr : (S.mid ks k).files.Pairwise fun a b => a.name < b.name) (hc : ¬ (S.files[k].fresh = false ∧ S.files[k].synced = S.files[k].bytes.size)) (hf : S.files[k].fresh = true ∧ (crashK (S.files.take k) ks).headD (-1) < 0) :
    S.mid ks (k + 1) = ((S.mid ks k).remove S.files[k].name).1 ∧ crashK (S.files.take (k + 1)) ks = (crashK (S.files.take k) ks).tail := by
  refine ⟨?_, by rw [crashK_succ S ks h, if_neg hc]⟩
  have e := Dk.mid_files S ks h
  rw [e] at hr
  rw [Dk.mid_succ S ks h]
  have : crashF [S.files[k]] (crashK (S.files.take k) ks) = [] := by rw [crashF_gone _ _ hc hf]; simp [crashF]
  rw [this]
  unfold Dk.remove
  rw [e, findF_mid hr, delF_mid hr]
  simp [Dk.mid]
theorem mid_cut (S : Dk) (ks : List Int) {k : Nat} (h : k < S.files.length) (hr : (S.mid ks k).files.Pairwise fun a b => a.name < b.name) (hs : S.files[k].synced ≤ S.files[k].bytes.size) (hc : ¬ (S.files[k].fresh = false ∧ S.files[k].synced = S.files[k].bytes.size)) (hf : ¬ (S.files[k].fresh = true ∧ (crashK (S.files.take k) ks).headD (-1) < 0)) :
    S.mid ks (k + 1) = ((S.mid ks k).cut S.files[k].name ((S.files[k].synced : Int) + min (max ((crashK (S.files.take k) ks).headD (-1)) 0) ((S.files[k].bytes.size : Int) - (S.files[k].synced : Int)))).1 ∧ crashK (S.files.take (k + 1)) ks = (crashK (S.files.take k) ks).tail := by
  refine ⟨?_, by rw [crashK_succ S ks h, if_neg hc]⟩
  have e := Dk.mid_files S ks h
  rw [e] at hr
  have e1 : crashF [S.files[k]] (crashK (S.files.take k) ks) = [cutTo S.files[k] ((crashK (S.files.take k) ks).headD (-1))] := by rw [crashF_cut _ _ hc hf]; simp [crashF]
  rw [Dk.mid_succ S ks h, e1]
  clear e1 hf
  generalize (crashK (S.files.take k) ks).headD (-1) = n at *
  have en : ((S.files[k].synced : Int) + min (max n 0) ((S.files[k].bytes.size : Int) - (S.files[k].synced : Int))).toNat = S.files[k].synced + (min (max n 0) ((S.files[k].bytes.size : Int) - (S.files[k].synced : Int))).toNat := by omega
  have hno : ¬ (((S.files[k].synced : Int) + min (max n 0) ((S.files[k].bytes.size : Int) - (S.files[k].synced : Int))) < 0 ∨ (S.files[k].bytes.size : Int) < ((S.files[k].synced : Int) + min (max n 0) ((S.files[k].bytes.size : Int) - (S.files[k].synced : Int)))) := by omega
  unfold Dk.cut
  rw [e, findF_mid hr]
  simp only
  rw [if_neg hno, updF_mid _ hr, en]
  simp [Dk.mid, cutTo]
end Go.Proofs.Ytbopfdbenjnipaa
