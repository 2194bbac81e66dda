/- Contracts: what is wrong with blocks; the closures that the library is handed. -/
import Derived.Test.YtnepdhkjammibaaDoorStr
import Derived.Lib.Hide
set_option linter.unusedVariables false
set_option linter.unusedSimpArgs false
namespace Go.Proofs.YtnepdhkjammibaaDoor
open Go.RowKit

/-- An error of the document's numbers. -/
abbrev errI (c : Int) : Value := .iface 68 (.int .i64 c)

theorem RowAt.str_at {w : World} {A : Option Addr} {n c : Nat} {xs : List ByteArray} (h : RowAt w (.slice A n c) n (xs.map Value.string)) (j : Nat) (hj : j < xs.length) :
    ∃ b o y, A = some ⟨b, o, none⟩ ∧ Hid (xs[j]? = some y) ∧ w.cell? ⟨b, o + j, none⟩ = some (.string y) := by
  obtain ⟨A', c', e, h1, h2, h3⟩ := h
  injection e with e1 e2 e3
  subst e1
  obtain ⟨b, o, rfl, hc⟩ := h3 (by intro e; have := congrArg List.length e; simp at this; subst this; simp at hj)
  exact ⟨b, o, xs[j], rfl, List.getElem?_eq_getElem hj, hc j _ (by simp [List.getElem?_eq_getElem hj])⟩

/-- Where the first one is of which it holds; -1: nowhere. -/
def idxP {α : Type} (l : List α) (p : α → Bool) : Int := match l.findIdx? p with | some i => i | none => -1
theorem idxP_none {α : Type} {l : List α} {p : α → Bool} (h : ∀ x ∈ l, p x = false) : idxP l p = -1 := by
  have : l.findIdx? p = none := by rw [List.findIdx?_eq_none_iff]; exact h
  simp [idxP, this]
theorem idxP_at {α : Type} {l : List α} {p : α → Bool} {k : Nat} {x : α} (h : ∀ y ∈ l.take k, p y = false) (hk : l[k]? = some x) (hp : p x = true) : idxP l p = k := by
  obtain ⟨hlt, rfl⟩ := List.getElem?_eq_some_iff.1 hk
  have : l.findIdx? p = some k := by
    rw [List.findIdx?_eq_some_iff_getElem]
    refine ⟨hlt, hp, fun j hj => ?_⟩
    rw [h _ (List.mem_take_iff_getElem.2 ⟨j, by omega, rfl⟩)]; simp
  simp [idxP, this]
theorem idxP_any {α : Type} {l : List α} {p : α → Bool} : l.any p = decide (0 ≤ idxP l p) := by
  unfold idxP
  cases h : l.findIdx? p with
  | none => rw [List.findIdx?_eq_none_iff] at h; simp; intro x hx; simpa using h x hx
  | some i => rw [List.findIdx?_eq_some_iff_getElem] at h; obtain ⟨h1, h2, _⟩ := h; simp; exact ⟨_, List.getElem_mem h1, h2⟩
theorem all_take_succ {α : Type} {l : List α} {p : α → Bool} {k : Nat} {x : α} (h : ∀ y ∈ l.take k, p y = false) (hk : l[k]? = some x) (hp : p x = false) : ∀ y ∈ l.take (k + 1), p y = false := by
  rw [List.take_add_one, hk]
  intro y hy
  rcases List.mem_append.1 hy with hy | hy
  · exact h y hy
  · simp at hy; subst hy; exact hp

theorem c_IndexFunc_str (cap : Value) (p : ByteArray → Bool) (v : Value) (l : List ByteArray) (w : World) (h : RowAt w v l.length (l.map .string))
    (hf : ∀ x ∈ l, Calls Tryd.prog 54 #[.string x, cap] w fun e w' => e = .returned (.bool (p x)) ∧ w = w') :
    Calls Tryd.prog 74 #[v, .func (.func 54) #[] #[cap]] w fun e w' => e = .returned (.int .i64 (idxP l p)) ∧ w = w' := by
  obtain ⟨A, c, rfl, hc, hm⟩ := h.form
  have hrow : Hid (RowAt w (.slice A l.length c) l.length (l.map .string)) := h
  have hF : Hid (∀ x ∈ l, Calls Tryd.prog 54 #[.string x, cap] w fun e w' => e = .returned (.bool (p x)) ∧ w = w') := hf
  clear h hf
  go_enter Tryd.func74, Tryd.ntmps74
  go_wp2
  go_loopg [8] (l.length) (fun g i wr => w = wr ∧ ∃ k : Nat, k + g = l.length ∧ Hid (∀ y ∈ l.take k, p y = false) ∧ i = .int .i64 k)
  case atStart => exact ⟨rfl, 0, by simp, by simp [Hid], rfl⟩
  case round =>
    obtain ⟨rfl, k, hk, hx, rfl⟩ := hrel
    by_cases hlt : k < l.length
    · obtain ⟨b, o, y, rfl, hy, hcl⟩ := hrow.out.str_at k hlt
      have hcall := hF.out y (List.mem_of_getElem? hy.out)
      cases ht : p y with
      | true =>
        rw [ht] at hcall
        have hcall' := Lib.hid hcall
        clear hcall
        have hp : Hid (p y = true) := ht
        clear ht
        go_wp2_with fail
        refine hcall'.out.mono ?_
        rintro e w' ⟨rfl, rfl⟩
        go_wp2_with fail
        go_ret
        exact ⟨ret_int (idxP_at hx.out hy.out hp.out).symm, rfl⟩
      | false =>
        rw [ht] at hcall
        have hcall' := Lib.hid hcall
        clear hcall
        have hp : Hid (p y = false) := ht
        clear ht
        go_wp2_with fail
        refine hcall'.out.mono ?_
        rintro e w' ⟨rfl, rfl⟩
        go_wp2_with fail
        go_roundg (l.length - (k + 1))
        case rel => exact ⟨rfl, k + 1, by omega, all_take_succ hx.out hy.out hp.out, by go_num⟩
        case measure => omega
    · go_wp2_with fail
      go_ret
      have hx' := hx.out
      rw [List.take_of_length_le (by omega)] at hx'
      exact ⟨ret_int (idxP_none hx').symm, rfl⟩

theorem c_ContainsFunc_str (cap : Value) (p : ByteArray → Bool) (v : Value) (l : List ByteArray) (w : World) (h : RowAt w v l.length (l.map .string))
    (hf : ∀ x ∈ l, Calls Tryd.prog 54 #[.string x, cap] w fun e w' => e = .returned (.bool (p x)) ∧ w = w') :
    Calls Tryd.prog 53 #[v, .func (.func 54) #[] #[cap]] w fun e w' => e = .returned (.bool (l.any p)) ∧ w = w' := by
  have hc := Lib.hid (c_IndexFunc_str cap p v l w h hf)
  have hany : Hid (l.any p = decide (0 ≤ idxP l p)) := idxP_any
  clear h hf
  go_enter Tryd.func53, Tryd.ntmps53
  go_wp2_with fail
  refine hc.out.mono ?_
  rintro e w' ⟨rfl, rfl⟩
  go_wp2_with fail
  go_ret
  exact ⟨ret_bool hany.out.symm, rfl⟩

/-- Blocks that are right: some, not too many, all of so many bytes. -/
structure Good (l : List ByteArray) (size : Nat) : Prop where
  some : 0 < l.length
  few : l.length ≤ 16
  one : 1 ≤ size
  eight : size ≤ 8
  same : ∀ x ∈ l, x.size = size

/-- The fault of some. -/
def blocksErr (l : List ByteArray) : Int :=
  match l with
  | [] => 5
  | x :: _ => if 16 < l.length then 4 else if ¬ (1 ≤ x.size ∧ x.size ≤ 8) then 1 else if l.any (fun y => decide (y.size ≠ x.size)) then 3 else 0

theorem c_blocks_Check1 (b o : Nat) (l : List ByteArray) (x x0 : ByteArray) (wc : Nat) (c : Nat) (w : World) (hx0 : l[0]? = some x0)
    (hbox : w.cell? ⟨wc, 0, none⟩ = some (.slice (some ⟨b, o, none⟩) l.length c)) (hcell : w.cell? ⟨b, o, none⟩ = some (.string x0)) (hl : l.length ≤ 9223372036854775807) :
    Calls Tryd.prog 54 #[.string x, .pointer (some ⟨wc, 0, none⟩)] w fun e w' => e = .returned (.bool (decide (x.size ≠ x0.size))) ∧ w = w' := by
  have hlen : 0 < l.length := by
    cases l with
    | nil => simp at hx0
    | cons _ _ => simp
  have hx0' := Lib.hid hx0
  clear hx0
  by_cases h : x.size = x0.size
  · have ht : ((x.size : Int) != (x0.size : Int)) = false := by rw [bne_eq_false_iff_eq]; omega
    have ht' : (x.size != x0.size) = false := by rw [bne_eq_false_iff_eq]; omega
    have h' := Lib.hid h
    clear h
    go_enter Tryd.func54, Tryd.ntmps54
    go_wp2_with fail
    go_ret
    exact ⟨ret_bool (by simp [h'.out]), rfl⟩
  · have ht : ((x.size : Int) != (x0.size : Int)) = true := by rw [bne_iff_ne]; omega
    have ht' : (x.size != x0.size) = true := by rw [bne_iff_ne]; exact h
    go_enter Tryd.func54, Tryd.ntmps54
    go_wp2_with fail
    go_ret
    exact ⟨ret_bool (by simp [h]), rfl⟩

theorem Good.first {l : List ByteArray} {size : Nat} (h : Good l size) : ∃ x0, l[0]? = .some x0 ∧ x0.size = size := by
  cases l with
  | nil => have := h.some; simp at this
  | cons x l => exact ⟨x, rfl, h.same x (by simp)⟩

theorem good_iff (l : List ByteArray) : blocksErr l = 0 ↔ ∃ size, Good l size := by
  cases l with
  | nil => simp [blocksErr]; intro s h; have := h.some; simp at this
  | cons x l =>
    constructor
    · intro h
      unfold blocksErr at h
      simp only at h
      split at h
      · omega
      · rename_i h1
        split at h
        · omega
        · rename_i h2
          split at h
          · omega
          · rename_i h3
            simp at h2 h3
            refine ⟨x.size, ⟨by simp, by omega, by omega, by omega, ?_⟩⟩
            intro y hy
            rcases List.mem_cons.1 hy with rfl | hy
            · rfl
            · exact h3 y hy
    · rintro ⟨size, h⟩
      have h1 := h.few
      have h2 := h.same x (by simp)
      have h3 := h.one
      have h4 := h.eight
      unfold blocksErr
      simp only
      rw [if_neg (by omega), if_neg (by omega), if_neg]
      simp only [List.any_eq_true, decide_eq_true_eq, not_exists, not_and, Decidable.not_not]
      intro y hy
      rw [h.same y hy, h2]

set_option maxHeartbeats 1000000 in
theorem c_blocks_Check_ok (v : Value) (l : List ByteArray) (size : Nat) (w : World) (h : RowAt w v l.length (l.map .string)) (hg : Good l size) :
    Calls Tryd.prog 30 #[v] w fun e w' => e = .returned .nilIface ∧ Fresh w w' := by
  obtain ⟨x0, hx0, hs0⟩ := hg.first
  obtain ⟨A, c, rfl, hc, hm⟩ := h.form
  have hl0 := hg.some
  have hl1 := hg.few
  have hs1 := hg.one
  have hs2 := hg.eight
  obtain ⟨b, o, y, rfl, hy, hcl⟩ := h.str_at 0 hl0
  obtain rfl : x0 = y := by have := hy.out; rw [hx0] at this; exact Option.some.inj this
  rw [Nat.add_zero] at hcl
  have hlt := block_lt_of_cell hcl
  have hcl' : (w.alloc (.cells #[.slice (some ⟨b, o, none⟩) l.length c] 54)).cell? ⟨b, o, none⟩ = some (.string x0) := by rw [World.cell?_alloc_lt _ _ _ hlt]; exact hcl
  have hcon := c_ContainsFunc_str (.pointer (some ⟨w.heap.size, 0, none⟩)) (fun z => decide (z.size ≠ x0.size)) _ l (w.alloc (.cells #[.slice (some ⟨b, o, none⟩) l.length c] 54)) (h.alloc _)
    (fun z hz => c_blocks_Check1 b o l z x0 w.heap.size c _ hx0 (by simp) hcl' hm)
  have hany : (l.any fun z => decide (z.size ≠ x0.size)) = false := by
    rw [List.any_eq_false]; intro z hz; simp; rw [hg.same z hz, hs0]
  rw [hany] at hcon
  have hcon' := Lib.hid hcon
  have hsz : 1 ≤ x0.size ∧ x0.size ≤ 8 := by omega
  obtain ⟨hz1, hz2⟩ := hsz
  have hd8 : decide ((x0.size : Int) ≤ 8) = true := by simp; omega
  have ht : ((l.length : Int) == 0) = false := by rw [beq_eq_false_iff_ne]; omega
  clear hcon hany hx0 hs0 hy h hg
  go_enter Tryd.func30, Tryd.ntmps30
  go_wp2_with (first | (go_at_call 33; go_in) | (go_at_call 53; refine hcon'.out.mono ?_; rintro e w' ⟨rfl, rfl⟩))
  go_ret
  exact ⟨rfl, (Touch.refl _ _).alloc _⟩

set_option maxHeartbeats 1000000 in
theorem c_blocks_Check_bad (v : Value) (l : List ByteArray) (w : World) (h : RowAt w v l.length (l.map .string)) (hb : blocksErr l ≠ 0) :
    Calls Tryd.prog 30 #[v] w fun e w' => e = .returned (errI (blocksErr l)) ∧ Fresh w w' := by
  obtain ⟨A, c, rfl, hc, hm⟩ := h.form
  cases l with
  | nil =>
    have ht : (((([] : List ByteArray).length : Nat) : Int) == 0) = true := by simp
    go_enter Tryd.func30, Tryd.ntmps30
    go_wp2
    go_ret
    exact ⟨rfl, (Touch.refl _ _).alloc _⟩
  | cons x0 l0 =>
    generalize hl : x0 :: l0 = l at *
    have hx0 : l[0]? = some x0 := by rw [← hl]; rfl
    have hl0 : 0 < l.length := by rw [← hl]; simp
    have hE : blocksErr l = if 16 < l.length then 4 else if ¬ (1 ≤ x0.size ∧ x0.size ≤ 8) then 1 else if l.any (fun y => decide (y.size ≠ x0.size)) then 3 else 0 := by rw [← hl]; rfl
    obtain ⟨b, o, y, rfl, hy, hcl⟩ := h.str_at 0 hl0
    obtain rfl : x0 = y := by have := hy.out; rw [hx0] at this; exact Option.some.inj this
    rw [Nat.add_zero] at hcl
    have hlt := block_lt_of_cell hcl
    have hcl' : (w.alloc (.cells #[.slice (some ⟨b, o, none⟩) l.length c] 54)).cell? ⟨b, o, none⟩ = some (.string x0) := by rw [World.cell?_alloc_lt _ _ _ hlt]; exact hcl
    have ht : ((l.length : Int) == 0) = false := by rw [beq_eq_false_iff_ne]; omega
    clear hl hy
    by_cases h16 : 16 < l.length
    · rw [if_pos h16] at hE
      have hE' := Lib.hid hE
      clear hE hb hx0 h
      go_enter Tryd.func30, Tryd.ntmps30
      go_wp2_with fail
      go_ret
      exact ⟨by rw [hE'.out]; rfl, (Touch.refl _ _).alloc _⟩
    · rw [if_neg h16] at hE
      by_cases hsz : 1 ≤ x0.size ∧ x0.size ≤ 8
      · rw [if_neg (by simpa using hsz)] at hE
        have hcon := c_ContainsFunc_str (.pointer (some ⟨w.heap.size, 0, none⟩)) (fun z => decide (z.size ≠ x0.size)) _ l (w.alloc (.cells #[.slice (some ⟨b, o, none⟩) l.length c] 54)) (h.alloc _)
          (fun z hz => c_blocks_Check1 b o l z x0 w.heap.size c _ hx0 (by simp) hcl' hm)
        have hany : (l.any fun z => decide (z.size ≠ x0.size)) = true := by
          cases ha : (l.any fun z => decide (z.size ≠ x0.size)) with
          | true => rfl
          | false => rw [hE, ha] at hb; simp at hb
        rw [hany] at hcon
        rw [hany, if_pos rfl] at hE
        have hcon' := Lib.hid hcon
        have hE' := Lib.hid hE
        obtain ⟨hz1, hz2⟩ := hsz
        have hd8 : decide ((x0.size : Int) ≤ 8) = true := by simp; omega
        clear hcon hany hx0 h hE hb
        go_enter Tryd.func30, Tryd.ntmps30
        go_wp2_with (first | (go_at_call 33; go_in) | (go_at_call 53; refine hcon'.out.mono ?_; rintro e w' ⟨rfl, rfl⟩))
        go_ret
        exact ⟨by rw [hE'.out]; rfl, (Touch.refl _ _).alloc _⟩
      · rw [if_pos (by simpa using hsz)] at hE
        have hE' := Lib.hid hE
        clear hE hb hx0 h
        by_cases hz : 1 ≤ x0.size
        · have hz2 : 8 < x0.size := by omega
          have hd8 : decide ((x0.size : Int) ≤ 8) = false := by simp; omega
          clear hsz
          go_enter Tryd.func30, Tryd.ntmps30
          go_wp2_with (go_at_call 33; go_in)
          go_ret
          exact ⟨by rw [hE'.out]; rfl, (Touch.refl _ _).alloc _⟩
        · clear hsz
          go_enter Tryd.func30, Tryd.ntmps30
          go_wp2_with (go_at_call 33; go_in)
          go_ret
          exact ⟨by rw [hE'.out]; rfl, (Touch.refl _ _).alloc _⟩
end Go.Proofs.YtnepdhkjammibaaDoor
