/- Contracts: a peeler's learning. -/
import Derived.Test.YtnepdhkjammibaaDoorWithout
set_option linter.unusedVariables false
set_option linter.unusedSimpArgs false
namespace Go.Proofs.YtnepdhkjammibaaDoor
open Go.RowKit

/-- A waiting drop, as memory has it: the slice's value, its numbers, the data. -/
structure Wt where
  vo : Value
  of : List Int
  d : ByteArray
def Wt.cells (t : Wt) : List Value := [t.vo, .string t.d]
def wcells (ws : List Wt) : List Value := ws.flatMap Wt.cells
theorem wcells_length (ws : List Wt) : (wcells ws).length = ws.length * 2 := by
  induction ws with
  | nil => rfl
  | cons t ws ih => simp only [wcells, List.flatMap_cons, List.length_append, List.length_cons] at *; simp [Wt.cells, ih]; omega
theorem wcells_at (ws : List Wt) (j : Nat) (t : Wt) (h : ws[j]? = some t) : (wcells ws)[j * 2]? = some t.vo ∧ (wcells ws)[j * 2 + 1]? = some (.string t.d) := by
  induction ws generalizing j with
  | nil => simp at h
  | cons u ws ih =>
    simp only [wcells, List.flatMap_cons]
    cases j with
    | zero => simp at h; subst h; simp [Wt.cells]
    | succ j =>
      have := ih j (by simpa using h)
      rw [show (j + 1) * 2 = j * 2 + 1 + 1 by omega]
      simpa [Wt.cells, wcells] using this
theorem wcells_append (a b : List Wt) : wcells (a ++ b) = wcells a ++ wcells b := by simp [wcells]

theorem RowAt.wt_at {w : World} {A : Option Addr} {n c : Nat} {ws : List Wt} (h : RowAt w (.slice A n c) n (wcells ws)) (j : Nat) (hj : j < ws.length) :
    ∃ b o t, A = some ⟨b, o, none⟩ ∧ Hid (ws[j]? = some t) ∧ w.cell? ⟨b, o + j * 2, none⟩ = some t.vo ∧ w.cell? ⟨b, o + j * 2 + 1, none⟩ = some (.string t.d) := by
  obtain ⟨A', c', e, h1, h2, h3⟩ := h
  injection e with e1 e2 e3
  subst e1
  have hat := wcells_at ws j ws[j] (List.getElem?_eq_getElem hj)
  obtain ⟨b, o, rfl, hc⟩ := h3 (by intro e; rw [e] at hat; simp at hat)
  exact ⟨b, o, ws[j], rfl, List.getElem?_eq_getElem hj, hc _ _ hat.1, by rw [Nat.add_assoc]; exact hc _ _ hat.2⟩

/-- Every slice of the waiting ones has its length. -/
def Wformed (ws : List Wt) : Prop := ∀ t ∈ ws, ∃ A c, t.vo = .slice A t.of.length c

theorem c_learn1 (A : Option Addr) (c : Nat) (of : List Int) (d : ByteArray) (w : World) (hl : of.length ≤ 1000) :
    Calls Tryd.prog 66 #[.agg #[.slice A of.length c, .string d]] w fun e w' => e = .returned (.bool (of.length == 1)) ∧ Fresh w w' := by
  by_cases h : of.length = 1
  · have ht : ((of.length : Int) == 1) = true := by simp; omega
    have h' := Lib.hid h
    clear h
    go_enter Tryd.func66, Tryd.ntmps66
    go_wp2
    go_ret
    exact ⟨ret_bool (by simp [h'.out]), (Touch.refl _ _).alloc _⟩
  · have ht : ((of.length : Int) == 1) = false := by simp; omega
    go_enter Tryd.func66, Tryd.ntmps66
    go_wp2
    go_ret
    exact ⟨ret_bool (by simp [h]), (Touch.refl _ _).alloc _⟩

set_option maxHeartbeats 1000000 in
theorem c_IndexFunc_wt (v : Value) (ws : List Wt) (w : World) (h : RowAt w v ws.length (wcells ws)) (hf : Wformed ws) (hl : ∀ t ∈ ws, t.of.length ≤ 1000) :
    Calls Tryd.prog 65 #[v, .func (.func 66) #[] #[]] w fun e w' => e = .returned (.int .i64 (idxP ws fun t => t.of.length == 1)) ∧ Fresh w w' := by
  obtain ⟨A, c, rfl, hc, hm⟩ := h.form
  have hrow := Lib.hid h
  have hf' := Lib.hid hf
  have hl' := Lib.hid hl
  clear h hf hl
  go_enter Tryd.func65, Tryd.ntmps65
  go_wp2
  go_loopg [8] (ws.length) (fun g i wr => Fresh w wr ∧ ∃ k : Nat, k + g = ws.length ∧ Hid (∀ y ∈ ws.take k, (y.of.length == 1) = false) ∧ i = .int .i64 k)
  case atStart => exact ⟨Touch.refl _ _, 0, by simp, by simp [Hid], rfl⟩
  case round =>
    obtain ⟨hfr, k, hk, hx, rfl⟩ := hrel
    by_cases hlt : k < ws.length
    · obtain ⟨b, o, t, rfl, hy, hcl0, hcl1⟩ := (hrow.out.fresh hfr).wt_at k hlt
      obtain ⟨At, ct, hvo⟩ := hf'.out t (List.mem_of_getElem? hy.out)
      have hlt' := hl'.out t (List.mem_of_getElem? hy.out)
      obtain ⟨vo, of, d⟩ := t
      simp only at hvo hcl0 hcl1 hlt'
      subst hvo
      have hcl := Lib.hid (c_learn1 At ct of d wr hlt')
      cases ht : (of.length == 1) with
      | true =>
        rw [ht] at hcl
        have hp := Lib.hid ht
        clear ht
        go_wp2_with fail
        refine hcl.out.mono ?_
        rintro e w1 ⟨rfl, hf1⟩
        go_wp2_with fail
        go_ret
        exact ⟨ret_int (idxP_at (p := fun t : Wt => t.of.length == 1) hx.out hy.out hp.out).symm, hfr.then_fresh hf1⟩
      | false =>
        rw [ht] at hcl
        have hp := Lib.hid ht
        clear ht
        go_wp2_with fail
        refine hcl.out.mono ?_
        rintro e w1 ⟨rfl, hf1⟩
        go_wp2_with fail
        go_roundg (ws.length - (k + 1))
        case rel => exact ⟨hfr.then_fresh hf1, k + 1, by omega, all_take_succ (p := fun t : Wt => t.of.length == 1) hx.out hy.out hp.out, by go_num⟩
        case measure => omega
    · go_wp2_with fail
      go_ret
      have hx' := hx.out
      rw [List.take_of_length_le (by omega)] at hx'
      exact ⟨ret_int (idxP_none hx').symm, hfr⟩

/-! ### what learning comes to -/
def red (known : List (Int × ByteArray)) (t : List Int × ByteArray) : List Int × ByteArray := (leftOf known t.1, overKnown known t.1 t.2)
def reduce (known : List (Int × ByteArray)) (ws : List (List Int × ByteArray)) : List (List Int × ByteArray) := (ws.map (red known)).filter fun t => decide (0 < t.1.length)

inductive Learn : List (Int × ByteArray) → List (List Int × ByteArray) → List Int → List (Int × ByteArray) → List (List Int × ByteArray) → List Int → Prop
  | done {known ws out} (h : ∀ t ∈ reduce known ws, t.1.length ≠ 1) : Learn known ws out known (reduce known ws) (Sp.isort out)
  | step {known ws out j x d known' ws' out'} (hj : (reduce known ws)[j]? = some ([x], d)) (hf : ∀ t ∈ (reduce known ws).take j, t.1.length ≠ 1)
      (h : Learn (aput known x d) (reduce known ws) (out ++ [x]) known' ws' out') : Learn known ws out known' ws' out'

def strip (ws : List Wt) : List (List Int × ByteArray) := ws.map fun t => (t.of, t.d)

/-- All is in its bounds: numbers below k, data of n bytes. -/
structure Sane (k : Nat) (n : Nat) (known : List (Int × ByteArray)) (ws : List (List Int × ByteArray)) : Prop where
  kn : ∀ i b, aget known i = some b → b.size = n ∧ 0 ≤ i ∧ i < k
  of : ∀ t ∈ ws, t.1.length ≤ 1000 ∧ t.2.size = n ∧ ∀ i ∈ t.1, 0 ≤ i ∧ i < k

/-- How many are not known yet. -/
def unknown (k : Nat) (known : List (Int × ByteArray)) : Nat := ((List.range k).filter fun i : Nat => (aget known (i : Int)).isNone).length
theorem unknown_aput {k : Nat} {known : List (Int × ByteArray)} {x : Int} {d : ByteArray} (h0 : 0 ≤ x) (h1 : x < k) (hn : aget known x = none) : unknown k (aput known x d) < unknown k known := by
  unfold unknown
  have key : ∀ l : List Nat, l.Nodup → (∀ i : Nat, (i : Int) = x → i ∈ l) → (l.filter fun i : Nat => (aget (aput known x d) (i : Int)).isNone).length < (l.filter fun i : Nat => (aget known (i : Int)).isNone).length := by
    intro l
    have sub : ∀ l : List Nat, (l.filter fun i : Nat => (aget (aput known x d) (i : Int)).isNone).length ≤ (l.filter fun i : Nat => (aget known (i : Int)).isNone).length := by
      intro l
      induction l with
      | nil => simp
      | cons a l ih =>
        simp only [List.filter_cons]
        by_cases ha : (a : Int) = x
        · rw [aget_aput, if_pos ha]
          simp only [Option.isNone_some, Bool.false_eq_true, if_false]
          split <;> (try simp) <;> omega
        · rw [aget_aput, if_neg ha]
          split <;> (try simp) <;> omega
    induction l with
    | nil => intro _ h; have := h x.toNat (by omega); simp at this
    | cons a l ih =>
      intro hnd hm
      rw [List.nodup_cons] at hnd
      by_cases ha : (a : Int) = x
      · have := sub l
        simp only [List.filter_cons]
        rw [aget_aput, if_pos ha, ha, hn]
        simp; omega
      · have hm' : ∀ i : Nat, (i : Int) = x → i ∈ l := by
          intro i hi
          rcases List.mem_cons.1 (hm i hi) with rfl | h
          · exact absurd hi ha
          · exact h
        have := ih hnd.2 hm'
        simp only [List.filter_cons]
        rw [aget_aput, if_neg ha]
        split <;> simp <;> omega
  exact key _ List.nodup_range (fun i hi => List.mem_range.2 (by omega))

theorem Sane.reduce {k n : Nat} {known : List (Int × ByteArray)} {ws : List (List Int × ByteArray)} (h : Sane k n known ws) : Sane k n known (reduce known ws) := by
  refine ⟨h.kn, fun t ht => ?_⟩
  have := (List.mem_filter.1 ht).1
  obtain ⟨u, hu, rfl⟩ := List.mem_map.1 this
  obtain ⟨h1, h2, h3⟩ := h.of u hu
  refine ⟨Nat.le_trans (List.length_filter_le _ _) h1, overKnown_size known n (fun i b hb => (h.kn i b hb).1) _ _ h2, fun i hi => h3 i (List.mem_filter.1 hi).1⟩
theorem Sane.put {k n : Nat} {known : List (Int × ByteArray)} {ws : List (List Int × ByteArray)} (h : Sane k n known ws) {x : Int} {d : ByteArray} (ht : ([x], d) ∈ ws) : Sane k n (aput known x d) ws := by
  obtain ⟨h1, h2, h3⟩ := h.of _ ht
  refine ⟨fun i b hb => ?_, h.of⟩
  rw [aget_aput] at hb
  split at hb
  · rename_i e; injection hb with hb; subst hb; subst e; exact ⟨h2, h3 _ (by simp)⟩
  · exact h.kn i b hb
theorem left_unknown {known : List (Int × ByteArray)} {ws : List (List Int × ByteArray)} {t : List Int × ByteArray} (ht : t ∈ Go.Proofs.YtnepdhkjammibaaDoor.reduce known ws) {x : Int} (hx : x ∈ t.1) : aget known x = none := by
  have := (List.mem_filter.1 ht).1
  obtain ⟨u, hu, rfl⟩ := List.mem_map.1 this
  have := (List.mem_filter.1 hx).2
  simpa using this
theorem reduce_snoc (known : List (Int × ByteArray)) (ws : List (List Int × ByteArray)) (t : List Int × ByteArray) :
    Go.Proofs.YtnepdhkjammibaaDoor.reduce known (ws ++ [t]) = Go.Proofs.YtnepdhkjammibaaDoor.reduce known ws ++ (if 0 < (leftOf known t.1).length then [red known t] else []) := by
  unfold Go.Proofs.YtnepdhkjammibaaDoor.reduce
  rw [List.map_append, List.filter_append]
  congr 1
  simp only [List.map_cons, List.map_nil, List.filter_cons, List.filter_nil, red]
  split <;> simp_all
end Go.Proofs.YtnepdhkjammibaaDoor
