/- Contracts: what is wrong with a drop; the number of an error (errors.As is walked as Go has it). -/
import Derived.Test.YtnepdhkjammibaaDoorSets
import Derived.LaidEql
import Derived.Stop.Asserts
import Derived.RowKitTokens
set_option linter.unusedVariables false
set_option linter.unusedSimpArgs false
namespace Go.Proofs.YtnepdhkjammibaaDoor
open Go.RowKit

/-- The fault of a drop. -/
def dropErr (k size seed : Int) (data : ByteArray) : Int :=
  if k < 1 ∨ 16 < k ∨ size < 1 ∨ 8 < size ∨ seed < 1 ∨ 10000 < seed then 1 else if (data.size : Int) ≠ size then 3 else 0

theorem dropErr_cases (k size seed : Int) (data : ByteArray) :
    ((k < 1 ∨ (1 ≤ k ∧ 16 < k) ∨ (1 ≤ k ∧ k ≤ 16 ∧ size < 1) ∨ (1 ≤ k ∧ k ≤ 16 ∧ 1 ≤ size ∧ 8 < size) ∨ (1 ≤ k ∧ k ≤ 16 ∧ 1 ≤ size ∧ size ≤ 8 ∧ seed < 1) ∨ (1 ≤ k ∧ k ≤ 16 ∧ 1 ≤ size ∧ size ≤ 8 ∧ 1 ≤ seed ∧ 10000 < seed)) ∧ dropErr k size seed data = 1) ∨
    (1 ≤ k ∧ k ≤ 16 ∧ 1 ≤ size ∧ size ≤ 8 ∧ 1 ≤ seed ∧ seed ≤ 10000 ∧ (data.size : Int) ≠ size ∧ dropErr k size seed data = 3) ∨
    (1 ≤ k ∧ k ≤ 16 ∧ 1 ≤ size ∧ size ≤ 8 ∧ 1 ≤ seed ∧ seed ≤ 10000 ∧ (data.size : Int) = size ∧ dropErr k size seed data = 0) := by
  unfold dropErr
  by_cases h : k < 1 ∨ 16 < k ∨ size < 1 ∨ 8 < size ∨ seed < 1 ∨ 10000 < seed
  · rw [if_pos h]; left; exact ⟨by omega, rfl⟩
  · rw [if_neg h]; right
    by_cases h2 : (data.size : Int) = size
    · rw [if_neg (by simpa using h2)]; right; simp only [not_or] at h; exact ⟨by omega, by omega, by omega, by omega, by omega, by omega, h2, rfl⟩
    · rw [if_pos h2]; left; simp only [not_or] at h; exact ⟨by omega, by omega, by omega, by omega, by omega, by omega, h2, rfl⟩

set_option maxHeartbeats 2000000 in
theorem c_drop_Check (k size seed : Int) (data : ByteArray) (w : World) (hd : data.size ≤ 9223372036854775807) :
    Calls Tryd.prog 39 #[.int .i64 k, .int .i64 size, .agg #[.int .i64 seed, .string data]] w fun e w' => e = .returned (if dropErr k size seed data = 0 then .nilIface else errI (dropErr k size seed data)) ∧ Fresh w w' := by
  rcases dropErr_cases k size seed data with ⟨h, he⟩ | ⟨h1, h2, h3, h4, h5, h6, h7, he⟩ | ⟨h1, h2, h3, h4, h5, h6, h7, he⟩
  · rw [he, if_neg (by omega)]
    clear he
    rcases h with h | ⟨h1, h⟩ | ⟨h1, h2, h⟩ | ⟨h1, h2, h3, h⟩ | ⟨h1, h2, h3, h4, h⟩ | ⟨h1, h2, h3, h4, h5, h⟩
    case' _ => skip
    all_goals
      try have hs : decide (seed ≤ 10000) = false := by simp; omega
      go_enter Tryd.func39, Tryd.ntmps39
      go_wp2
      go_ret
      exact ⟨rfl, (Touch.refl _ _).alloc _⟩
  · rw [he, if_neg (by omega)]
    clear he
    have hs : decide (seed ≤ 10000) = true := by simp; omega
    have ht : ((data.size : Int) != size) = true := by rw [bne_iff_ne]; exact h7
    clear h7
    go_enter Tryd.func39, Tryd.ntmps39
    go_wp2
    go_ret
    exact ⟨rfl, (Touch.refl _ _).alloc _⟩
  · rw [he, if_pos rfl]
    clear he
    have hs : decide (seed ≤ 10000) = true := by simp; omega
    have ht : ((data.size : Int) != size) = false := by rw [bne_eq_false_iff_eq]; exact h7
    clear h7
    go_enter Tryd.func39, Tryd.ntmps39
    go_wp2
    go_ret
    exact ⟨rfl, (Touch.refl _ _).alloc _⟩

set_option maxHeartbeats 2000000 in
theorem c_R_Drop (k size seed : Int) (data : ByteArray) (w : World) (hd : data.size ≤ 9223372036854775807) :
    Calls Tryd.prog 11 #[.int .i64 k, .int .i64 size, .agg #[.int .i64 seed, .string data]] w fun e w' => e = .returned (.int .i64 (dropErr k size seed data)) ∧ Fresh w w' := by
  rcases dropErr_cases k size seed data with ⟨h, he⟩ | ⟨h1, h2, h3, h4, h5, h6, h7, he⟩ | ⟨h1, h2, h3, h4, h5, h6, h7, he⟩
  · rw [he]
    clear he
    rcases h with h | ⟨h1, h⟩ | ⟨h1, h2, h⟩ | ⟨h1, h2, h3, h⟩ | ⟨h1, h2, h3, h4, h⟩ | ⟨h1, h2, h3, h4, h5, h⟩
    case' _ => skip
    all_goals
      try have hs : decide (seed ≤ 10000) = false := by simp; omega
      go_enter Tryd.func11, Tryd.ntmps11
      go_wp2
      go_ret
      exact ⟨rfl, (Touch.refl _ _).alloc _⟩
  · rw [he]
    clear he
    have hs : decide (seed ≤ 10000) = true := by simp; omega
    have ht : ((data.size : Int) != size) = true := by rw [bne_iff_ne]; exact h7
    clear h7
    go_enter Tryd.func11, Tryd.ntmps11
    go_wp2
    go_ret
    exact ⟨rfl, (Touch.refl _ _).alloc _⟩
  · rw [he]
    clear he
    have hs : decide (seed ≤ 10000) = true := by simp; omega
    have ht : ((data.size : Int) != size) = false := by rw [bne_eq_false_iff_eq]; exact h7
    clear h7
    go_enter Tryd.func11, Tryd.ntmps11
    go_wp2
    go_ret
    exact ⟨rfl, (Touch.refl _ _).alloc _⟩
end Go.Proofs.YtnepdhkjammibaaDoor
