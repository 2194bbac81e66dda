/- Contracts: a peeler that is made, that takes, that tells. -/
import Derived.Test.YtnepdhkjammibaaDoorLearnW
import Derived.Test.YtnepdhkjammibaaDoorTold
import Derived.Deep.RegionHeld3
import Derived.Deep.DeepCutAuto
import Derived.RegionTactic
set_option linter.unusedVariables false
set_option linter.unusedSimpArgs false
namespace Go.Proofs.YtnepdhkjammibaaDoor
open Go.RowKit

theorem keepc {W W' : World} (hf : Fresh W W') {a : Addr} {v : Value} (h : W.cell? a = some v) : W'.cell? a = some v := (hf.cell (block_lt_of_cell h) id).trans h

def boolMap (l : List Int) : List (Int × Value) := l.map fun s => (s, .bool true)
theorem aget_boolMap (l : List Int) (k : Int) : aget (boolMap l) k = if k ∈ l then some (.bool true) else none := by
  induction l with
  | nil => rfl
  | cons x l ih =>
    unfold boolMap at ih ⊢
    rw [List.map_cons, aget]
    by_cases h : x = k
    · subst h; simp
    · have hx : ¬ k = x := fun e => h e.symm
      rw [if_neg h, ih]; simp [hx]
theorem aput_boolMap (l : List Int) (k : Int) (h : k ∉ l) : aput (boolMap l) k (.bool true) = boolMap (l ++ [k]) := by
  induction l with
  | nil => rfl
  | cons x l ih =>
    rw [List.mem_cons, not_or] at h
    have := ih h.2
    unfold boolMap at this ⊢
    rw [List.map_cons, aput, if_neg (fun e => h.1 e.symm), this]
    rfl

/-- The peeler at block p, all that it reaches lies in F. -/
structure PeelerAt (w : World) (p k n : Nat) (known : List (Int × ByteArray)) (taken : List Int) (ws : List (List Int × ByteArray)) (F : Nat → Prop) : Prop where
  ex : ∃ (bk bt : Nat) (v : Value) (wt : List Wt), w.heap[p]? = some (pcells k n bk bt v) ∧ MapAt w .i64 bk (strMap known) ∧ MapAt w .i64 bt (boolMap taken) ∧ bk ≠ bt ∧
    w.ownsRow 0 80 2 v wt.length (wcells wt) ∧ Wheld w 0 wt ∧ strip wt = ws ∧ F p ∧ F bk ∧ F bt ∧ (∀ i, v.ownBlock = some i → F i) ∧ ∀ t ∈ wt, ∀ i, t.vo.ownBlock = some i → F i
  sane : Sane k n known ws
  few : ws.length ≤ taken.length
  most : taken.length ≤ 60

theorem PeelerAt.touch {F G : Nat → Prop} {w w' : World} {p k n : Nat} {known : List (Int × ByteArray)} {taken : List Int} {ws : List (List Int × ByteArray)} (h : PeelerAt w p k n known taken ws F) (ht : Touch G w w') (hd : ∀ i, F i → ¬ G i) :
    PeelerAt w' p k n known taken ws F := by
  obtain ⟨⟨bk, bt, v, wt, h1, h2, h3, h4, h5, h6, h7, h8, h9, h10, h11, h12⟩, hs, hf, hm⟩ := h
  exact ⟨⟨bk, bt, v, wt, ht.some h1 (hd _ h8), h2.touch ht (hd _ h9), h3.touch ht (hd _ h10), h4, owns_touch h5 ht (fun i hi => hd _ (h11 i hi)), h6.touch ht (fun t hm i hi => hd _ (h12 t hm i hi)), h7, h8, h9, h10, h11, h12⟩, hs, hf, hm⟩
theorem PeelerAt.fresh {F : Nat → Prop} {w w' : World} {p k n : Nat} {known : List (Int × ByteArray)} {taken : List Int} {ws : List (List Int × ByteArray)} (h : PeelerAt w p k n known taken ws F) (ht : Fresh w w') : PeelerAt w' p k n known taken ws F :=
  h.touch ht fun _ _ => id
theorem PeelerAt.lt {F : Nat → Prop} {w : World} {p k n : Nat} {known : List (Int × ByteArray)} {taken : List Int} {ws : List (List Int × ByteArray)} (h : PeelerAt w p k n known taken ws F) : p < w.heap.size := by
  obtain ⟨⟨bk, bt, v, wt, h1, _⟩, _⟩ := h; exact lt_of_block h1

set_option maxHeartbeats 1000000 in
theorem c_peel_New_ok (k n : Nat) (w : World) (h1 : 1 ≤ k) (h2 : k ≤ 16) (h3 : 1 ≤ n) (h4 : n ≤ 8) :
    Calls Tryd.prog 9 #[.int .i64 k, .int .i64 n] w fun e w' => ∃ p, e = .returned (.tuple #[.pointer (some ⟨p, 0, none⟩), .nilIface]) ∧ PeelerAt w' p k n [] [] [] (fun i => w.heap.size ≤ i) ∧ Fresh w w' ∧ w.heap.size ≤ p := by
  have hd8 : decide ((n : Int) ≤ 8) = true := by simp; omega
  have hd16 : decide ((k : Int) ≤ 16) = true := by simp; omega
  have hmm := @run_makeMap Tryd.prog
  go_enter Tryd.func9, Tryd.ntmps9
  go_wp2
  go_ret2
  have e2 : ((w.alloc (.map #[] 0)).alloc (.map #[] 0)).heap.size = w.heap.size + 1 + 1 := by simp
  refine ⟨w.heap.size + 1 + 1, rfl, ⟨⟨w.heap.size, w.heap.size + 1, .slice none 0 0, [], ?_, ?_, ?_, by omega, World.ownsRow_nil _ _ _ _, fun t ht => by simp at ht, rfl, by omega, Nat.le_refl _, by omega, fun i hi => by simp [Value.ownBlock] at hi, fun t ht => by simp at ht⟩,
    ⟨fun i b hb => by simp [aget] at hb, fun t ht => by simp at ht⟩, by simp, by simp⟩, (((Touch.refl _ _).alloc _).alloc _).alloc _, by omega⟩
  · have := heap_alloc_new ((w.alloc (.map #[] 0)).alloc (.map #[] 0)) (pcells k n w.heap.size (w.heap.size + 1) (.slice none 0 0))
    rw [e2] at this; exact this
  · exact (MapAt.made w .i64).fresh (((Touch.refl _ _).alloc _).alloc _)
  · have := (MapAt.made (w.alloc (.map #[] 0)) .i64).fresh ((Touch.refl _ _).alloc (pcells k n w.heap.size (w.heap.size + 1) (.slice none 0 0)))
    simp only [World.size_alloc] at this
    exact this

theorem c_peel_New_bad (k n : Int) (w : World) (h : k < 1 ∨ 16 < k ∨ n < 1 ∨ 8 < n) :
    Calls Tryd.prog 9 #[.int .i64 k, .int .i64 n] w fun e w' => e = .returned (.tuple #[.pointer none, errI 1]) ∧ Fresh w w' := by
  have hcs : k < 1 ∨ (1 ≤ k ∧ 16 < k) ∨ (1 ≤ k ∧ k ≤ 16 ∧ n < 1) ∨ (1 ≤ k ∧ k ≤ 16 ∧ 1 ≤ n ∧ 8 < n) := by omega
  rcases hcs with h1 | ⟨h1, h2⟩ | ⟨h1, h2, h3⟩ | ⟨h1, h2, h3, h4⟩
  · clear h
    go_enter Tryd.func9, Tryd.ntmps9
    go_wp2
    go_ret2
    exact ⟨rfl, Touch.refl _ _⟩
  · have hd16 : decide (k ≤ 16) = false := by simp; omega
    clear h
    go_enter Tryd.func9, Tryd.ntmps9
    go_wp2
    go_ret2
    exact ⟨rfl, Touch.refl _ _⟩
  · have hd16 : decide (k ≤ 16) = true := by simp; omega
    clear h
    go_enter Tryd.func9, Tryd.ntmps9
    go_wp2
    go_ret2
    exact ⟨rfl, Touch.refl _ _⟩
  · have hd16 : decide (k ≤ 16) = true := by simp; omega
    have hd8 : decide (n ≤ 8) = false := by simp; omega
    clear h
    go_enter Tryd.func9, Tryd.ntmps9
    go_wp2
    go_ret2
    exact ⟨rfl, Touch.refl _ _⟩

/-! ### what it tells -/
theorem Tryd.zeroBool (w : World) : (zeroValue 4).run Tryd.prog w = .ok (.bool false) w := by kernel_rfl

theorem c_peel_Waits (p k n : Nat) (known : List (Int × ByteArray)) (taken : List Int) (ws : List (List Int × ByteArray)) (F : Nat → Prop) (w : World) (h : PeelerAt w p k n known taken ws F) :
    Calls Tryd.prog 19 #[.pointer (some ⟨p, 0, none⟩)] w fun e w' => e = .returned (.int .i64 ws.length) ∧ w = w' := by
  obtain ⟨⟨bk, bt, v, wt, h1, h2, h3, h4, h5, h6, rfl, _⟩, hs, hf, hm⟩ := h
  obtain ⟨A, c, rfl, hc, hcm⟩ := (RowAt.of_owns h5).form
  have hl : Hid ((strip wt).length = wt.length) := by simp [Hid, strip]
  unfold pcells at h1
  obtain ⟨p0, p1, p2, p3, p4⟩ := cells5 h1
  clear h1 h2 h3 h5 h6 hs hf
  go_enter Tryd.func19, Tryd.ntmps19
  go_wp2
  go_ret
  exact ⟨ret_int (by rw [hl.out]), rfl⟩

/-- The blocks that are known, rising. -/
def knowsOf (k : Nat) (known : List (Int × ByteArray)) : List Int := ((List.range k).map (fun i : Nat => (i : Int))).filter fun i => (aget known i).isSome

set_option maxHeartbeats 1000000 in
theorem c_peel_Knows (p k n : Nat) (known : List (Int × ByteArray)) (taken : List Int) (ws : List (List Int × ByteArray)) (F : Nat → Prop) (w : World) (h : PeelerAt w p k n known taken ws F) (hk : k ≤ 1000) :
    Calls Tryd.prog 17 #[.pointer (some ⟨p, 0, none⟩)] w fun e w' => ∃ v, e = .returned v ∧ w'.ownsRow w.heap.size 3 1 v (knowsOf k known).length ((knowsOf k known).map (.int .i64)) ∧ Fresh w w' := by
  obtain ⟨⟨bk, bt, v, wt, h1, h2, h3, h4, h5, h6, rfl, _⟩, hs, hf, hm⟩ := h
  unfold pcells at h1
  have h1' := Lib.hid h1
  have h2' := Lib.hid h2
  obtain ⟨p0, p1, p2, p3, p4⟩ := cells5 h1
  clear h1 h2 h3 h5 h6 hs hf p1 p2 p3 p4
  go_enter Tryd.func17, Tryd.ntmps17
  go_wp2_with fail
  clear p0
  go_loopg [3, 11] k (fun g s3 s11 wr => ∃ j : Nat, j + g = k ∧ s11 = .int .i64 j ∧ (knowsOf j known).length ≤ j ∧ wr.ownsRow w.heap.size 3 1 s3 (knowsOf j known).length ((knowsOf j known).map (.int .i64)) ∧ Fresh w wr)
  case atStart => exact ⟨0, by simp, rfl, by simp [knowsOf], World.ownsRow_nil _ _ _ _, Touch.refl _ _⟩
  case round =>
    obtain ⟨j, hj, rfl, hjl, hown, hfr⟩ := hrel
    have hfz := hfr.size
    by_cases hlt : j < k
    · obtain ⟨p0, p1, p2, p3, p4⟩ := cells5 (hfr.some h1'.out)
      clear p0 p1 p3 p4
      have hmw := Lib.hid (h2'.out.fresh hfr)
      have hnx : Hid (knowsOf (j + 1) known = knowsOf j known ++ if (aget known (j : Int)).isSome then [(j : Int)] else []) := by
        unfold Hid knowsOf
        rw [List.range_succ, List.map_append, List.filter_append]
        congr 1
        simp only [List.map_cons, List.map_nil, List.filter_cons, List.filter_nil]
      cases hget : aget known (j : Int) with
      | some b =>
        have hr : Hid (aget (strMap known) (j : Int) = some (.string b)) := by unfold Hid; rw [aget_strMap, hget]; rfl
        have hnx2 : Hid (knowsOf (j + 1) known = knowsOf j known ++ [(j : Int)]) := by
          have := hnx.out; rw [hget] at this; exact this
        clear hget hnx
        go_wp2_with (first | (at_lookup; refine wl_lookup_is rfl 69 _ _ true rfl Tryd.underlying69 Tryd.underlying3 hmw.out (Tryd.zeroString _) j rfl rfl _ hr.out ?_) | (at_builtin; refine Halt.out ?_))
        refine ⟨?_⟩
        refine wl_append rfl _ _ 32 rfl w.heap.size 3 (.int .i64 0) 1 8 Tryd.underlying32 Tryd.infoInt rfl (by decide) (by decide) _ _ _ rfl _ 1 [.int .i64 j] rfl (hown.alloc _) (RowAt.boxed _ [.int .i64 j] _ 1 _ rfl (by simp [maxLen])) rfl (ints_one .i64 [(j : Int)]) (by omega) (by simp; omega) ?_
        intro v1 w1 hown1 hgr1 hat1
        clear p2
        go_wp2_with fail
        go_roundg (k - (j + 1))
        case rel =>
          refine ⟨j + 1, by omega, by go_num, by rw [hnx2.out]; simp; exact hjl, ?_, Fresh.append (hfr.alloc _) (hown.alloc _) (Nat.le_refl _) hgr1⟩
          rw [hnx2.out]
          simpa using hown1
        case measure => omega
      | none =>
        have hr : Hid (aget (strMap known) (j : Int) = none) := by unfold Hid; rw [aget_strMap, hget]; rfl
        have hnx2 : Hid (knowsOf (j + 1) known = knowsOf j known) := by
          have := hnx.out; rw [hget] at this; unfold Hid; simpa using this
        clear hget hnx
        go_wp2_with (at_lookup; refine wl_lookup_is rfl 69 _ _ true rfl Tryd.underlying69 Tryd.underlying3 hmw.out (Tryd.zeroString _) j rfl rfl _ hr.out ?_)
        clear p2
        go_roundg (k - (j + 1))
        case rel =>
          refine ⟨j + 1, by omega, by go_num, by rw [hnx2.out]; omega, ?_, hfr⟩
          rw [hnx2.out]
          exact hown
        case measure => omega
    · have hjk : Hid (j = k) := show j = k by omega
      go_wp2_with fail
      go_ret
      refine ⟨_, rfl, ?_, hfr⟩
      rw [← hjk.out]; exact hown

/-- A block that may be known: the fault, and the bytes. -/
def blockErr (k : Nat) (known : List (Int × ByteArray)) (i : Int) : Int := if i < 0 ∨ (k : Int) ≤ i then 1 else if (aget known i).isSome then 0 else 5
def blockOf (k : Nat) (known : List (Int × ByteArray)) (i : Int) : ByteArray := if i < 0 ∨ (k : Int) ≤ i then ⟨#[]⟩ else (aget known i).getD ⟨#[]⟩

set_option maxHeartbeats 1000000 in
theorem c_peel_Block (p k n : Nat) (known : List (Int × ByteArray)) (taken : List Int) (ws : List (List Int × ByteArray)) (F : Nat → Prop) (i : Int) (w : World) (h : PeelerAt w p k n known taken ws F) (hk : k ≤ 1000) :
    Calls Tryd.prog 16 #[.pointer (some ⟨p, 0, none⟩), .int .i64 i] w fun e w' => e = .returned (.tuple #[.string (blockOf k known i), errV (blockErr k known i)]) ∧ w = w' := by
  obtain ⟨⟨bk, bt, v, wt, h1, h2, h3, h4, h5, h6, rfl, _⟩, hs, hf, hm⟩ := h
  unfold pcells at h1
  have h2' := Lib.hid h2
  obtain ⟨p0, p1, p2, p3, p4⟩ := cells5 h1
  clear h1 h2 h3 h5 h6 hs hf p1 p3 p4
  by_cases hneg : i < 0
  · have hE : blockErr k known i = 1 := if_pos (.inl hneg)
    have hB : blockOf k known i = ⟨#[]⟩ := if_pos (.inl hneg)
    rw [hE, hB]
    clear hE hB
    go_enter Tryd.func16, Tryd.ntmps16
    go_wp2
    go_ret2
    exact ⟨rfl, rfl⟩
  · by_cases hge : (k : Int) ≤ i
    · have hE : blockErr k known i = 1 := if_pos (.inr hge)
      have hB : blockOf k known i = ⟨#[]⟩ := if_pos (.inr hge)
      rw [hE, hB]
      have hd : decide ((k : Int) ≤ i) = true := by simp; omega
      clear hE hB
      go_enter Tryd.func16, Tryd.ntmps16
      go_wp2
      go_ret2
      exact ⟨rfl, rfl⟩
    · have hd : decide ((k : Int) ≤ i) = false := by simp; omega
      cases hget : aget known i with
      | some b =>
        have hE : blockErr k known i = 0 := by unfold blockErr; rw [if_neg (by omega), hget]; rfl
        have hB : blockOf k known i = b := by unfold blockOf; rw [if_neg (by omega), hget]; rfl
        rw [hE, hB]
        have hr : Hid (aget (strMap known) i = some (.string b)) := by unfold Hid; rw [aget_strMap, hget]; rfl
        clear hE hB hget
        go_enter Tryd.func16, Tryd.ntmps16
        go_wp2_with (at_lookup; refine wl_lookup_is rfl 69 _ _ true rfl Tryd.underlying69 Tryd.underlying3 h2'.out (Tryd.zeroString _) i rfl rfl _ hr.out ?_)
        go_ret2
        exact ⟨rfl, rfl⟩
      | none =>
        have hE : blockErr k known i = 5 := by unfold blockErr; rw [if_neg (by omega), hget]; rfl
        have hB : blockOf k known i = ⟨#[]⟩ := by unfold blockOf; rw [if_neg (by omega), hget]; rfl
        rw [hE, hB]
        have hr : Hid (aget (strMap known) i = none) := by unfold Hid; rw [aget_strMap, hget]; rfl
        clear hE hB hget
        go_enter Tryd.func16, Tryd.ntmps16
        go_wp2_with (at_lookup; refine wl_lookup_is rfl 69 _ _ true rfl Tryd.underlying69 Tryd.underlying3 h2'.out (Tryd.zeroString _) i rfl rfl _ hr.out ?_)
        go_ret2
        exact ⟨rfl, rfl⟩
end Go.Proofs.YtnepdhkjammibaaDoor
