/- Contract: a waiting drop without what is known (peel.without). -/
import Derived.Test.YtnepdhkjammibaaDoorSets
import Derived.Test.YtnepdhkjammibaaDoorMap
set_option linter.unusedVariables false
set_option linter.unusedSimpArgs false
namespace Go.Proofs.YtnepdhkjammibaaDoor
open Go.RowKit

/-- Known blocks, as the map's block has them. -/
def strMap (m : List (Int × ByteArray)) : List (Int × Value) := m.map fun p => (p.1, .string p.2)
theorem aget_strMap (m : List (Int × ByteArray)) (k : Int) : aget (strMap m) k = (aget m k).map Value.string := by
  induction m with
  | nil => rfl
  | cons p r ih => simp only [strMap, List.map_cons, aget] at *; split <;> simp_all
theorem aput_strMap (m : List (Int × ByteArray)) (k : Int) (s : ByteArray) : aput (strMap m) k (.string s) = strMap (aput m k s) := by
  induction m with
  | nil => rfl
  | cons p r ih => simp only [strMap, List.map_cons, aput] at *; split <;> simp_all [strMap]

/-- Data, the known ones of a list over it. -/
def overKnown (known : List (Int × ByteArray)) (of : List Int) (d : ByteArray) : ByteArray := of.foldl (fun d i => match aget known i with | some b => bx d b | none => d) d
def leftOf (known : List (Int × ByteArray)) (of : List Int) : List Int := of.filter fun i => (aget known i).isNone

theorem bx_size (a b : ByteArray) (h : a.size ≤ b.size) : (bx a b).size = a.size := by
  have h1 : (bx a b).data.toList.length = (xl a.data.toList b.data.toList).length := by simp [bx, xl]
  rw [data_len] at h1
  rw [h1]; unfold xl; rw [List.length_zipWith, data_len, data_len]; omega
where data_len (s : ByteArray) : s.data.toList.length = s.size := by rw [Array.length_toList]; rfl
theorem overKnown_size (known : List (Int × ByteArray)) (n : Nat) (hk : ∀ i b, aget known i = some b → b.size = n) : ∀ (of : List Int) (d : ByteArray), d.size = n → (overKnown known of d).size = n := by
  intro of
  induction of with
  | nil => intro d h; exact h
  | cons i of ih =>
    intro d h
    simp only [overKnown, List.foldl_cons] at *
    cases hi : aget known i with
    | none => exact ih d h
    | some b => exact ih _ (by rw [bx_size _ _ (by rw [h, hk i b hi]; exact Nat.le_refl _), h])

theorem Tryd.zeroString (w : World) : (zeroValue 9).run Tryd.prog w = .ok (.string ByteArray.empty) w := by kernel_rfl

set_option maxHeartbeats 2000000 in
theorem c_without (p bk bt : Nat) (k size : Int) (vw : Value) (known : List (Int × ByteArray)) (n : Nat) (vo : Value) (of : List Int) (d : ByteArray) (w : World)
    (hp : w.heap[p]? = some (.cells #[.int .i64 k, .int .i64 size, .map (some bk), .map (some bt), vw] 73 (0, 0)))
    (hm : MapAt w .i64 bk (strMap known)) (hkn : ∀ i b, aget known i = some b → b.size = n) (hd : d.size = n) (hn : n ≤ 1000) (hrow : RowAt w vo of.length (of.map (.int .i64))) (hof : of.length ≤ 1000) :
    Calls Tryd.prog 64 #[.pointer (some ⟨p, 0, none⟩), .agg #[vo, .string d]] w fun e w' =>
      ∃ vo', e = .returned (.agg #[vo', .string (overKnown known of d)]) ∧ w'.ownsRow w.heap.size 3 1 vo' (leftOf known of).length ((leftOf known of).map (.int .i64)) ∧ Fresh w w' := by
  obtain ⟨A, c, rfl, hc, hlen⟩ := hrow.form
  have hrow' := Lib.hid hrow
  have hp' := Lib.hid hp
  have hm' := Lib.hid hm
  have hkn' := Lib.hid hkn
  have hpl := lt_of_block hp
  clear hrow hp hm hkn
  go_enter Tryd.func64, Tryd.ntmps64
  go_wp2_with fail
  go_loopg [5, 13] (of.length) (fun g s5 s13 wr => ∃ (j : Nat) (dj : ByteArray), j + g = of.length ∧ s13 = .int .i64 j ∧ Hid (dj = overKnown known (of.take j) d) ∧ dj.size = n ∧
      wr.heap[w.heap.size]? = some (.cells #[.slice A of.length c, .string dj] 80 (0, 0)) ∧ wr.heap[w.heap.size + 1]? = some (.cells #[.slice none 0 0, .string ⟨#[]⟩] 80 (0, 0)) ∧
      wr.ownsRow (w.heap.size + 2) 3 1 s5 (leftOf known (of.take j)).length ((leftOf known (of.take j)).map (.int .i64)) ∧ Fresh w wr)
  case atStart => exact ⟨0, d, by simp, rfl, rfl, hd, heap_alloc2_old _ _ _, heap_alloc2_new _ _ _, World.ownsRow_nil _ _ _ _, ((Touch.refl _ _).alloc _).alloc _⟩
  case round =>
    obtain ⟨j, dj, hj, rfl, hdj, hds, hb0, hb1, hown, hfr⟩ := hrel
    have hfz := hfr.size
    have hsz1 := lt_of_block hb1
    obtain ⟨c0, c1, f0, f1⟩ := cells2 hb0
    obtain ⟨e0, e1, q0, q1⟩ := cells2 hb1
    have hb0' := Lib.hid hb0
    have hb1' := Lib.hid hb1
    clear hb0 hb1
    by_cases hlt : j < of.length
    · obtain ⟨ba, oa, y, rfl, hy, hcl⟩ := (hrow'.out.fresh hfr).int_at j hlt
      have hpw : wr.heap[p]? = _ := hfr.some hp'.out
      have hmw := Lib.hid (hm'.out.fresh hfr)
      have p2 : wr.cell? ⟨p, 2, none⟩ = some (.map (some bk)) := cell_of_row _ _ _ _ _ _ hpw
      clear hpw
      have htk : of.take (j + 1) = of.take j ++ [y] := by rw [List.take_add_one, hy.out]; rfl
      cases hget : aget known y with
      | some b =>
        have hbs := hkn'.out y b hget
        have hr : Hid (aget (strMap known) y = some (.string b)) := by unfold Hid; rw [aget_strMap, hget]; rfl
        have hnext : Hid (bx dj b = overKnown known (of.take (j + 1)) d ∧ leftOf known (of.take (j + 1)) = leftOf known (of.take j)) := by
          unfold Hid; rw [htk, hdj.out]
          constructor
          · simp only [overKnown, List.foldl_append, List.foldl_cons, List.foldl_nil, hget]
          · simp [leftOf, hget]
        clear hget htk hy
        go_wp2_with (first | (at_lookup; refine wl_lookup_is rfl 69 _ _ true rfl Tryd.underlying69 Tryd.underlying3 hmw.out (Tryd.zeroString _) y rfl rfl _ hr.out ?_) | (go_at_call 73; refine Halt.out ?_))
        refine ⟨?_⟩
        refine (c_mix_Over dj b _ (by omega) (by omega)).mono ?_
        rintro e w1 ⟨rfl, hf1⟩
        have g0 : w1.heap[w.heap.size]? = _ := hf1.some hb0'.out
        have g1 : w1.heap[w.heap.size + 1]? = _ := hf1.some hb1'.out
        have d1 : w1.cell? ⟨w.heap.size, 1, none⟩ = some (.string dj) := cell_of_row _ _ _ _ _ _ g0
        have df1 : w1.frozen? ⟨w.heap.size, 1, none⟩ = false := frozen_of_row _ _ _ _ _ g0
        have g0' := Lib.hid g0
        have g1' := Lib.hid g1
        clear g0 g1 c0 c1 f0 f1 p2 hcl e0 e1 q0 q1
        go_wp2_with fail
        go_roundg (of.length - (j + 1))
        case rel =>
          refine ⟨j + 1, bx dj b, by omega, by go_num, hnext.out.1, by rw [bx_size _ _ (by omega), hds], heap_setCell_same _ _ 1 _ _ _ g0'.out, ?_, ?_, ?_⟩
          · rw [heap_setCell_other _ _ _ _ (by simp)]; exact g1'.out
          · rw [hnext.out.2]
            exact ownsRow_setCell_other (owns_fresh hown hf1) (by intro e; have := (hown.lt _ e).1; simp at this; omega) _
          · exact (hfr.then_fresh hf1).setCell _ _ (fun h => absurd h (by simp))
        case measure => omega
      | none =>
        have hr : Hid (aget (strMap known) y = none) := by unfold Hid; rw [aget_strMap, hget]; rfl
        have hnext : Hid (dj = overKnown known (of.take (j + 1)) d ∧ leftOf known (of.take (j + 1)) = leftOf known (of.take j) ++ [y]) := by
          unfold Hid; rw [htk, hdj.out]
          constructor
          · simp only [overKnown, List.foldl_append, List.foldl_cons, List.foldl_nil, hget]
          · simp [leftOf, hget]
        have hll : (leftOf known (of.take j)).length ≤ 1000 := by
          have h1 := List.length_filter_le (fun i => (aget known i).isNone) (of.take j)
          have h2 : (leftOf known (of.take j)).length ≤ (of.take j).length := h1
          rw [List.length_take] at h2; omega
        clear hget htk hy
        go_wp2_with (first | (at_lookup; refine wl_lookup_is rfl 69 _ _ true rfl Tryd.underlying69 Tryd.underlying3 hmw.out (Tryd.zeroString _) y rfl rfl _ hr.out ?_) | (at_builtin; refine Halt.out ?_))
        refine ⟨?_⟩
        refine wl_append rfl _ _ 32 rfl (w.heap.size + 2) 3 (.int .i64 0) 1 8 Tryd.underlying32 Tryd.infoInt rfl (by decide) (by decide) _ _ _ rfl _ 1 [.int .i64 y] rfl (hown.alloc _) (RowAt.box _ [.int .i64 y] _ 1 (by simp [maxLen])) rfl (ints_one .i64 [y]) (by omega) (by simp; omega) ?_
        intro v1 w1 hown1 hgr1 hat1
        have k0 := Lib.hid (kept_row (hown.alloc _) hgr1 ((Below.heap_alloc _ _ _ (by omega)).trans hb0'.out) (by omega))
        have k1 := Lib.hid (kept_row (hown.alloc _) hgr1 ((Below.heap_alloc _ _ _ (by omega)).trans hb1'.out) (by omega))
        clear c0 c1 f0 f1 p2 hcl e0 e1 q0 q1
        go_wp2_with fail
        go_roundg (of.length - (j + 1))
        case rel =>
          refine ⟨j + 1, dj, by omega, by go_num, hnext.out.1, hds, k0.out, k1.out, ?_, Fresh.append (hfr.alloc _) (hown.alloc _) (by omega) hgr1⟩
          rw [hnext.out.2]
          simpa using hown1
        case measure => omega
    · have htk : of.take j = of := List.take_of_length_le (by omega)
      rw [htk] at hown hdj
      obtain ⟨A5, c5, rfl, hc5, hm5⟩ := (RowAt.of_owns hown).form
      generalize hLl : (leftOf known of).length = L at *
      have hLl' := Lib.hid hLl
      have hown' := Lib.hid hown
      clear hown htk hLl
      go_wp2_with fail
      refine bodyPost_ret (v := .agg #[.slice A5 L c5, .string dj]) (by simp [results, Tryd.results64, go_sem, c0, c1, e0, e1]) rfl ?_
      refine ⟨_, by rw [hdj.out], ?_, ?_⟩
      · rw [hLl'.out]
        have hb : ∀ i, (Value.slice A5 L c5).ownBlock = some i → w.heap.size + 2 ≤ i := fun i hi => (hown'.out.lt i hi).1
        refine owns_low (ownsRow_setCell_other (ownsRow_setCell_other (ownsRow_setCell_other hown'.out ?_ _) ?_ _) ?_ _) (by omega)
        all_goals (intro e; have := hb _ e; simp at this; try omega)
      · exact ((hfr.setCell _ _ (fun h => absurd h (by simp))).setCell _ _ (fun h => absurd h (by simp))).setCell _ _ (fun h => absurd h (by simp))
end Go.Proofs.YtnepdhkjammibaaDoor
