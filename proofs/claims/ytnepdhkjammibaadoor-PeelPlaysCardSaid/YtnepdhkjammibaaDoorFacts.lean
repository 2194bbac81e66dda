/- Plain facts of a seed's set. -/
import Derived.Test.YtnepdhkjammibaaDoorDraw
set_option linter.unusedVariables false
namespace Go.Proofs.YtnepdhkjammibaaDoor
open Go.RowKit

theorem Sp.draw_good (k d : Int) (hk : 0 < k) : ∀ (g : Nat) (n : Int) (l : List Int), l.Nodup → (∀ x ∈ l, 0 ≤ x ∧ x < k) → (Sp.draw k d g n l).Nodup ∧ ∀ x ∈ Sp.draw k d g n l, 0 ≤ x ∧ x < k := by
  intro g
  induction g with
  | zero => intro n l h1 h2; exact ⟨h1, h2⟩
  | succ g ih =>
    intro n l h1 h2
    rw [Sp.draw]
    split
    · split
      · exact ih _ _ h1 h2
      · rename_i hm
        refine ih _ _ ?_ ?_
        · rw [List.nodup_append]
          exact ⟨h1, by simp, fun a ha b hb e => by simp at hb; subst hb; subst e; exact hm ha⟩
        · intro x hx
          rcases List.mem_append.1 hx with hx | hx
          · exact h2 x hx
          · simp at hx; subst hx
            exact ⟨Int.emod_nonneg _ (by omega), Int.emod_lt_of_pos _ hk⟩
    · exact ⟨h1, h2⟩
theorem setU_good {k seed : Int} (h1 : 1 ≤ k) (h3 : 1 ≤ seed) : (Sp.setU k seed).Nodup ∧ ∀ x ∈ Sp.setU k seed, 0 ≤ x ∧ x < k := by
  unfold Sp.setU
  split
  · exact ⟨by simp, fun x hx => by simp at hx; omega⟩
  · exact Sp.draw_good k _ (by omega) _ _ _ (by simp) (by simp)
theorem setOf_good {k seed : Int} (h1 : 1 ≤ k) (h2 : k ≤ 16) (h3 : 1 ≤ seed) (h4 : seed ≤ 10000) : (Sp.setOf k seed).Nodup ∧ (∀ x ∈ Sp.setOf k seed, 0 ≤ x ∧ x < k) ∧ (Sp.setOf k seed).length ≤ 16 ∧ (Sp.setOf k seed).Pairwise (· ≤ ·) := by
  obtain ⟨g1, g2⟩ := setU_good (k := k) h1 h3
  unfold Sp.setOf
  exact ⟨(Sp.isort_perm _).nodup_iff.2 g1, fun x hx => g2 x (Sp.mem_isort.1 hx), by rw [Sp.length_isort]; exact setU_len h1 h2 h3 h4, Sp.isort_sorted _⟩
end Go.Proofs.YtnepdhkjammibaaDoor
