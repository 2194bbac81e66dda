/- Contracts: two lists that are the same. -/
import Derived.Test.YtnepdhkjammibaaDoorTold
import Derived.RegionTactic
set_option linter.unusedVariables false
set_option linter.unusedSimpArgs false
namespace Go.Proofs.YtnepdhkjammibaaDoor
open Go.RowKit

theorem c_Ints_same (v1 v2 : Value) (l : List Int) (w : World) (h1 : RowAt w v1 l.length (l.map (.int .i64))) (h2 : RowAt w v2 l.length (l.map (.int .i64))) :
    Calls Tryd.prog 15 #[v1, v2] w fun r w' => r = .returned (.bool true) ∧ Fresh w w' := by
  obtain ⟨A1, c1, rfl, hc1, hm⟩ := h1.form
  obtain ⟨A2, c2, rfl, hc2, _⟩ := h2.form
  have hr1 := Lib.hid h1
  have hr2 := Lib.hid h2
  clear h1 h2
  go_enter Tryd.func15, Tryd.ntmps15
  go_wp2
  go_loopg [5] (l.length) (fun g i wr => Fresh w wr ∧ ∃ k : Nat, k + g = l.length ∧ i = .int .i64 k)
  case atStart => exact ⟨Touch.refl _ _, 0, by simp, rfl⟩
  case round =>
    obtain ⟨hfr, k, hk, rfl⟩ := hrel
    by_cases hlt : k < l.length
    · obtain ⟨b1, o1, y, rfl, hy, hcl1⟩ := (hr1.out.fresh hfr).int_at k hlt
      obtain ⟨b2, o2, y2, rfl, hy2, hcl2⟩ := (hr2.out.fresh hfr).int_at k hlt
      obtain rfl : y = y2 := by have := hy.out; rw [hy2.out] at this; exact (Option.some.inj this).symm
      go_wp2_with fail
      go_region
      go_wp2_with fail
      go_roundg (l.length - (k + 1))
      case rel => exact ⟨hfr.drew, k + 1, by omega, by go_num⟩
      case measure => omega
    · go_wp2_with fail
      go_ret
      exact ⟨rfl, hfr⟩

theorem c_Strings_same (v1 v2 : Value) (l : List ByteArray) (w : World) (h1 : RowAt w v1 l.length (l.map .string)) (h2 : RowAt w v2 l.length (l.map .string)) :
    Calls Tryd.prog 29 #[v1, v2] w fun r w' => r = .returned (.bool true) ∧ Fresh w w' := by
  obtain ⟨A1, c1, rfl, hc1, hm⟩ := h1.form
  obtain ⟨A2, c2, rfl, hc2, _⟩ := h2.form
  have hr1 := Lib.hid h1
  have hr2 := Lib.hid h2
  clear h1 h2
  go_enter Tryd.func29, Tryd.ntmps29
  go_wp2
  go_loopg [5] (l.length) (fun g i wr => Fresh w wr ∧ ∃ k : Nat, k + g = l.length ∧ i = .int .i64 k)
  case atStart => exact ⟨Touch.refl _ _, 0, by simp, rfl⟩
  case round =>
    obtain ⟨hfr, k, hk, rfl⟩ := hrel
    by_cases hlt : k < l.length
    · obtain ⟨b1, o1, y, rfl, hy, hcl1⟩ := (hr1.out.fresh hfr).str_at k hlt
      obtain ⟨b2, o2, y2, rfl, hy2, hcl2⟩ := (hr2.out.fresh hfr).str_at k hlt
      obtain rfl : y = y2 := by have := hy.out; rw [hy2.out] at this; exact (Option.some.inj this).symm
      go_wp2_with fail
      go_region
      go_wp2_with fail
      go_roundg (l.length - (k + 1))
      case rel => exact ⟨hfr.drew, k + 1, by omega, by go_num⟩
      case measure => omega
    · go_wp2_with fail
      go_ret
      exact ⟨rfl, hfr⟩
end Go.Proofs.YtnepdhkjammibaaDoor
