/- Contracts of the small functions: numbers, and lists that are only read. -/
import Derived.Test.YtnepdhkjammibaaDoorProg
import Derived.Test.YtnepdhkjammibaaDoorMem
import Derived.Test.YtnepdhkjammibaaDoorSpec
import Derived.WalkKit
import Derived.WalkSpells
import Derived.Deep.LoopGhost
import Derived.IntWalk
set_option linter.unusedVariables false
set_option linter.unusedSimpArgs false
namespace Go.Proofs.YtnepdhkjammibaaDoor
open Go.RowKit

theorem c_chance_Go (n : Int) (w : World) (h0 : 0 ≤ n) (h1 : n ≤ 2147483646) :
    Calls Tryd.prog 60 #[.int .i64 n] w fun e w' => e = .returned (.int .i64 (Sp.nxt n)) ∧ w = w' := by
  go_enter Tryd.func60, Tryd.ntmps60
  go_wp2
  go_ret
  exact ⟨rfl, rfl⟩

theorem c_R_Next (n : Int) (w : World) (h0 : 0 ≤ n) (h1 : n ≤ 2147483646) :
    Calls Tryd.prog 58 #[.int .i64 n] w fun e w' => e = .returned (.int .i64 (Sp.nxt n)) ∧ w = w' := by
  go_enter Tryd.func58, Tryd.ntmps58
  go_wp2
  go_ret
  exact ⟨rfl, rfl⟩

/-- Where it is first; -1: nowhere. -/
def idxI (xs : List Int) (x : Int) : Int := match xs.findIdx? (· == x) with | some i => i | none => -1

theorem idxI_none {xs : List Int} {x : Int} (h : x ∉ xs) : idxI xs x = -1 := by
  have : xs.findIdx? (· == x) = none := by
    rw [List.findIdx?_eq_none_iff]; intro y hy; simp only [beq_eq_false_iff_ne]; intro e; exact h (e ▸ hy)
  simp [idxI, this]
theorem idxI_at {xs : List Int} {x : Int} {k : Nat} (h : x ∉ xs.take k) (hk : xs[k]? = some x) : idxI xs x = k := by
  obtain ⟨hlt, rfl⟩ := List.getElem?_eq_some_iff.1 hk
  have : xs.findIdx? (· == xs[k]) = some k := by
    rw [List.findIdx?_eq_some_iff_getElem]
    refine ⟨hlt, by simp, fun j hj => ?_⟩
    simp only [Bool.not_eq_true, beq_eq_false_iff_ne]
    intro e
    exact h (by rw [List.mem_take_iff_getElem]; exact ⟨j, by omega, e⟩)
  simp [idxI, this]
theorem not_take_succ {xs : List Int} {x y : Int} {k : Nat} (h : x ∉ xs.take k) (hk : xs[k]? = some y) (hne : ¬ x = y) : x ∉ xs.take (k + 1) := by
  rw [List.take_add_one, hk]; simp [h, hne]

theorem c_slices_Index (v : Value) (xs : List Int) (x : Int) (w : World) (h : RowAt w v xs.length (xs.map (.int .i64))) :
    Calls Tryd.prog 79 #[v, .int .i64 x] w fun e w' => e = .returned (.int .i64 (idxI xs x)) ∧ w = w' := by
  obtain ⟨A, c, rfl, hc, hm, hcell⟩ := h.ints
  clear h
  go_enter Tryd.func79, Tryd.ntmps79
  go_wp2
  go_loopg [8] (xs.length) (fun g i wr => w = wr ∧ ∃ k : Nat, k + g = xs.length ∧ Hid (x ∉ xs.take k) ∧ i = .int .i64 k)
  case atStart => exact ⟨rfl, 0, by simp, by simp [Hid], rfl⟩
  case round =>
    obtain ⟨rfl, k, hk, hx, rfl⟩ := hrel
    by_cases hlt : k < xs.length
    · obtain ⟨b, o, y, rfl, hy, hcl⟩ := hcell.out k hlt
      clear hcell
      by_cases he : x = y
      · have ht : (x == y) = true := by simp [he]
        have he' : Hid (x = y) := he
        clear he
        go_wp2
        go_ret
        exact ⟨ret_int (idxI_at hx.out (he'.out ▸ hy.out)).symm, rfl⟩
      · have ht : (x == y) = false := by simp [he]
        go_wp2
        go_roundg (xs.length - (k + 1))
        case rel => exact ⟨rfl, k + 1, by omega, not_take_succ hx.out hy.out he, by go_num⟩
        case measure => omega
    · go_wp2
      go_ret
      have hx' := hx.out
      rw [List.take_of_length_le (by omega)] at hx'
      exact ⟨ret_int (idxI_none hx').symm, rfl⟩

theorem idxI_nonneg {xs : List Int} {x : Int} (h : x ∈ xs) : 0 ≤ idxI xs x := by
  unfold idxI
  cases hx : xs.findIdx? (· == x) with
  | none => rw [List.findIdx?_eq_none_iff] at hx; have := hx x h; simp at this
  | some i => simp

/-- Is it there? (closed to the walk) -/
def memI (xs : List Int) (x : Int) : Bool := xs.contains x
theorem memI_iff {xs : List Int} {x : Int} : memI xs x = true ↔ x ∈ xs := by simp [memI]
theorem memI_no {xs : List Int} {x : Int} : memI xs x = false ↔ x ∉ xs := by rw [← Bool.not_eq_true, memI_iff]

theorem c_slices_Contains (v : Value) (xs : List Int) (x : Int) (w : World) (h : RowAt w v xs.length (xs.map (.int .i64))) :
    Calls Tryd.prog 62 #[v, .int .i64 x] w fun e w' => e = .returned (.bool (memI xs x)) ∧ w = w' := by
  by_cases hm : x ∈ xs
  · have h0 := idxI_nonneg hm
    go_enter Tryd.func62, Tryd.ntmps62
    go_wp2_with (go_at_call 79; refine (c_slices_Index v xs x _ h).mono ?_; rintro e w' ⟨rfl, rfl⟩)
    go_ret
    exact ⟨ret_bool (by simp [memI, hm]), rfl⟩
  · have h0 : idxI xs x < 0 := by rw [idxI_none hm]; omega
    go_enter Tryd.func62, Tryd.ntmps62
    go_wp2_with (go_at_call 79; refine (c_slices_Index v xs x _ h).mono ?_; rintro e w' ⟨rfl, rfl⟩)
    go_ret
    exact ⟨ret_bool (by simp [memI, hm]; exact h0), rfl⟩

theorem c_R_In (v : Value) (xs : List Int) (x : Int) (w : World) (h : RowAt w v xs.length (xs.map (.int .i64))) :
    Calls Tryd.prog 12 #[v, .int .i64 x] w fun e w' => e = .returned (.bool (memI xs x)) ∧ w = w' := by
  obtain ⟨A, c, rfl, hc, hm, hcell⟩ := h.ints
  clear h
  go_enter Tryd.func12, Tryd.ntmps12
  go_wp2
  go_loopg [5] (xs.length) (fun g i wr => w = wr ∧ ∃ k : Nat, k + g = xs.length ∧ Hid (x ∉ xs.take k) ∧ i = .int .i64 k)
  case atStart => exact ⟨rfl, 0, by simp, by simp [Hid], rfl⟩
  case round =>
    obtain ⟨rfl, k, hk, hx, rfl⟩ := hrel
    by_cases hlt : k < xs.length
    · obtain ⟨b, o, y, rfl, hy, hcl⟩ := hcell.out k hlt
      clear hcell
      by_cases he : y = x
      · have ht : (y == x) = true := by simp [he]
        have he' : Hid (y = x) := he
        clear he
        go_wp2
        go_ret
        exact ⟨ret_bool (memI_iff.2 (he'.out ▸ List.mem_of_getElem? hy.out)).symm, rfl⟩
      · have ht : (y == x) = false := by simp [he]
        go_wp2
        go_roundg (xs.length - (k + 1))
        case rel => exact ⟨rfl, k + 1, by omega, not_take_succ hx.out hy.out (fun e => he e.symm), by go_num⟩
        case measure => omega
    · go_wp2
      go_ret
      have hx' := hx.out
      rw [List.take_of_length_le (by omega)] at hx'
      exact ⟨ret_bool (memI_no.2 hx').symm, rfl⟩

theorem c_degree_For (k n : Int) (w : World) (h0 : 0 ≤ n) (h1 : n ≤ 999) (h2 : 1 ≤ k) (h3 : k ≤ 16) :
    Calls Tryd.prog 61 #[.int .i64 k, .int .i64 n] w fun e w' => e = .returned (.int .i64 (Sp.deg k n)) ∧ w = w' := by
  have hb := Sp.mul_bd h0 h1 (show 0 ≤ k by omega) h3
  obtain ⟨b1, b2⟩ := hb
  by_cases ht : n * k < 1000
  · have hd : Hid (Sp.deg k n = 1) := if_pos ht
    go_enter Tryd.func61, Tryd.ntmps61
    go_wp2
    go_ret
    exact ⟨ret_int hd.out.symm, rfl⟩
  · have hd : Hid (Sp.deg k n = Sp.degFrom k n 16 2) := if_neg ht
    have hk2 := Sp.two_le h2 h1 ht
    go_enter Tryd.func61, Tryd.ntmps61
    go_wp2
    go_loopg [5] 16 (fun g i wr => w = wr ∧ ∃ d : Int, 2 ≤ d ∧ d ≤ k ∧ d + g = 18 ∧ Hid (Sp.degFrom k n g d = Sp.deg k n) ∧ i = .int .i64 d)
    case atStart => exact ⟨rfl, 2, by omega, hk2, rfl, hd.out.symm, rfl⟩
    case round =>
      obtain ⟨rfl, d, hd2, hdk, hg, hr, rfl⟩ := hrel
      obtain ⟨c1, c2⟩ := Sp.mul_bd b1 b2 (show 0 ≤ d by omega) (show d ≤ 16 by omega)
      obtain ⟨c3, c4⟩ := Sp.mul_bd (show 0 ≤ k by omega) h3 (show 0 ≤ d - 1 by omega) (show d - 1 ≤ 15 by omega)
      by_cases hc : 1000 * (d + k * (d - 1)) ≤ n * k * d
      · have hne : d < k := by
          rcases Int.lt_or_le d k with h | h
          · exact h
          · have : d = k := by omega
            subst this; exact absurd hc (Sp.deg_stop h2 h1)
        have hst : ∃ g', gk = g' + 1 := ⟨gk - 1, by omega⟩
        have hc' : Hid (1000 * (d + k * (d - 1)) ≤ n * k * d) := hc
        go_wp2
        go_roundg (gk - 1)
        case rel =>
          refine ⟨rfl, d + 1, by omega, by omega, by omega, ?_, by go_num⟩
          obtain ⟨g', rfl⟩ := hst
          have := hr.out
          rw [Sp.degFrom_step hc'.out] at this
          exact this
        case measure => omega
      · have hc' : Hid (¬ 1000 * (d + k * (d - 1)) ≤ n * k * d) := hc
        go_wp2
        go_ret
        have := hr.out
        rw [Sp.degFrom_here (by have := hc'.out; omega)] at this
        exact ⟨ret_int this, rfl⟩

theorem c_R_Degree (k n : Int) (w : World) (h0 : 0 ≤ n) (h1 : n ≤ 999) (h2 : 1 ≤ k) (h3 : k ≤ 16) :
    Calls Tryd.prog 59 #[.int .i64 k, .int .i64 n] w fun e w' => e = .returned (.int .i64 (Sp.deg k n)) ∧ w = w' := by
  have hb := Sp.mul_bd h0 h1 (show 0 ≤ k by omega) h3
  obtain ⟨b1, b2⟩ := hb
  by_cases ht : n * k < 1000
  · have hd : Hid (Sp.deg k n = 1) := if_pos ht
    go_enter Tryd.func59, Tryd.ntmps59
    go_wp2
    go_ret
    exact ⟨ret_int hd.out.symm, rfl⟩
  · have hd : Hid (Sp.deg k n = Sp.degFrom k n 16 2) := if_neg ht
    have hk2 := Sp.two_le h2 h1 ht
    go_enter Tryd.func59, Tryd.ntmps59
    go_wp2
    go_loopg [5] 16 (fun g i wr => w = wr ∧ ∃ d : Int, 2 ≤ d ∧ d ≤ k ∧ d + g = 18 ∧ Hid (Sp.degFrom k n g d = Sp.deg k n) ∧ i = .int .i64 d)
    case atStart => exact ⟨rfl, 2, by omega, hk2, rfl, hd.out.symm, rfl⟩
    case round =>
      obtain ⟨rfl, d, hd2, hdk, hg, hr, rfl⟩ := hrel
      obtain ⟨c1, c2⟩ := Sp.mul_bd b1 b2 (show 0 ≤ d by omega) (show d ≤ 16 by omega)
      obtain ⟨c3, c4⟩ := Sp.mul_bd (show 0 ≤ k by omega) h3 (show 0 ≤ d - 1 by omega) (show d - 1 ≤ 15 by omega)
      by_cases hlt : d < k
      · by_cases hc : 1000 * (d + k * (d - 1)) ≤ n * k * d
        · have hst : ∃ g', gk = g' + 1 := ⟨gk - 1, by omega⟩
          have hc' : Hid (1000 * (d + k * (d - 1)) ≤ n * k * d) := hc
          go_wp2
          go_roundg (gk - 1)
          case rel =>
            refine ⟨rfl, d + 1, by omega, by omega, by omega, ?_, by go_num⟩
            obtain ⟨g', rfl⟩ := hst
            have := hr.out
            rw [Sp.degFrom_step hc'.out] at this
            exact this
          case measure => omega
        · have hc' : Hid (¬ 1000 * (d + k * (d - 1)) ≤ n * k * d) := hc
          go_wp2
          go_ret
          have := hr.out
          rw [Sp.degFrom_here (by have := hc'.out; omega)] at this
          exact ⟨ret_int this, rfl⟩
      · have hdk' : Hid (d = k) := show d = k by omega
        go_wp2
        go_ret
        have := hr.out
        rw [hdk'.out, Sp.degFrom_here (Sp.deg_stop h2 h1)] at this
        exact ⟨ret_int this, rfl⟩
end Go.Proofs.YtnepdhkjammibaaDoor
