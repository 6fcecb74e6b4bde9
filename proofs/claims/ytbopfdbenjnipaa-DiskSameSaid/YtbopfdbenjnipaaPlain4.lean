/- Plain: two lists of files that rise, of one length, the first in the second. -/
import Derived.Test.YtbopfdbenjnipaaPlain3
namespace Go.Proofs.Ytbopfdbenjnipaa
theorem sub_of_rising : ∀ (B A : List Fl), A.Pairwise (fun a b => a.name < b.name) → B.Pairwise (fun a b => a.name < b.name) → (∀ f ∈ A, f ∈ B) → A.Sublist B
  | [], [], _, _, _ => List.Sublist.refl _
  | [], a :: A, _, _, h => by simpa using h a (by simp)
  | b :: B, [], _, _, _ => List.nil_sublist _
  | b :: B, a :: A, hA, hB, h => by
    rw [List.pairwise_cons] at hA hB
    have irr : ∀ n : List UInt8, ¬ n < n := fun n => List.lt_irrefl n
    rcases List.mem_cons.1 (h a (by simp)) with e | haB
    · subst e
      refine List.Sublist.cons_cons _ (sub_of_rising B A hA.2 hB.2 fun f hf => ?_)
      rcases List.mem_cons.1 (h f (List.mem_cons_of_mem _ hf)) with e | h1
      · subst e; exact (irr _ (hA.1 f hf)).elim
      · exact h1
    · refine List.Sublist.cons _ (sub_of_rising B (a :: A) (List.pairwise_cons.2 hA) hB.2 fun f hf => ?_)
      rcases List.mem_cons.1 (h f hf) with e | h1
      · subst e
        rcases List.mem_cons.1 hf with e | hf
        · subst e; exact haB
        · exact (irr _ (List.lt_trans (hA.1 _ hf) (hB.1 _ haB))).elim
      · exact h1
theorem same_of_rising {A B : List Fl} (hA : A.Pairwise (fun a b => a.name < b.name)) (hB : B.Pairwise (fun a b => a.name < b.name)) (hl : A.length = B.length) (h : ∀ f ∈ A, f ∈ B) : A = B :=
  (sub_of_rising B A hA hB h).eq_of_length hl
end Go.Proofs.Ytbopfdbenjnipaa
