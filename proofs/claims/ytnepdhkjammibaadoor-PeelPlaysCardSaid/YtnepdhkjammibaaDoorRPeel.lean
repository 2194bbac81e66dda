/- Contracts: the document's peeler: what is left of a drop, what it knows. -/
import Derived.Test.YtnepdhkjammibaaDoorSets
import Derived.Test.YtnepdhkjammibaaDoorLearnW
import Derived.Test.YtnepdhkjammibaaDoorFacts
import Derived.Deep.RegionHeld3
import Derived.Deep.DeepCutAuto
set_option linter.unusedVariables false
set_option linter.unusedSimpArgs false
namespace Go.Proofs.YtnepdhkjammibaaDoor
open Go.RowKit

theorem cell_set_ne {w : World} {a b : Addr} {u x : Value} (h : w.cell? b = some x) (hne : a ≠ b) : (w.setCell a u).cell? b = some x := by
  rw [World.cell?_setCell_other _ _ _ _ hne]; exact h

/-- The document's peeler at block m. -/
structure RCells (w : World) (m : Nat) (k : Int) (kn : Int → Bool) (bs : Int → ByteArray) (vL vT : Value) : Prop where
  k0 : w.cell? ⟨m, 0, none⟩ = some (.int .i64 k)
  kk : ∀ i : Nat, i < 16 → w.cell? ⟨m, 1 + i, none⟩ = some (.bool (kn i))
  kb : ∀ i : Nat, i < 16 → w.cell? ⟨m, 17 + i, none⟩ = some (.string (bs i))
  kl : w.cell? ⟨m, 33, none⟩ = some vL
  kt : w.cell? ⟨m, 34, none⟩ = some vT
  ty : ∃ cs, w.heap[m]? = some (.cells cs 34 (0, 0))

theorem RCells.lt {w : World} {m : Nat} {k : Int} {kn : Int → Bool} {bs : Int → ByteArray} {vL vT : Value} (h : RCells w m k kn bs vL vT) : m < w.heap.size := by
  obtain ⟨cs, h⟩ := h.ty; exact lt_of_block h
theorem RCells.touch {F : Nat → Prop} {w w' : World} {m : Nat} {k : Int} {kn : Int → Bool} {bs : Int → ByteArray} {vL vT : Value} (h : RCells w m k kn bs vL vT) (ht : Touch F w w') (hm : ¬ F m) : RCells w' m k kn bs vL vT := by
  have hc : ∀ {o : Nat} {x : Value}, w.cell? ⟨m, o, none⟩ = some x → w'.cell? ⟨m, o, none⟩ = some x := fun hx => (ht.cell (p := ⟨m, _, none⟩) h.lt hm).trans hx
  obtain ⟨cs, hb⟩ := h.ty
  exact ⟨hc h.k0, fun i hi => hc (h.kk i hi), fun i hi => hc (h.kb i hi), hc h.kl, hc h.kt, ⟨cs, ht.some hb hm⟩⟩
theorem RCells.fresh {w w' : World} {m : Nat} {k : Int} {kn : Int → Bool} {bs : Int → ByteArray} {vL vT : Value} (h : RCells w m k kn bs vL vT) (ht : Fresh w w') : RCells w' m k kn bs vL vT := h.touch ht id
theorem RCells.drew {w : World} {m : Nat} {k : Int} {kn : Int → Bool} {bs : Int → ByteArray} {vL vT : Value} (h : RCells w m k kn bs vL vT) : RCells w.drew m k kn bs vL vT := h.fresh ((Touch.refl _ _).drew)
theorem RCells.fz {w : World} {m : Nat} {k : Int} {kn : Int → Bool} {bs : Int → ByteArray} {vL vT : Value} (h : RCells w m k kn bs vL vT) (o : Nat) : w.frozen? ⟨m, o, none⟩ = false := by
  obtain ⟨cs, hb⟩ := h.ty; exact frozen_of_row _ _ _ _ _ hb
theorem RCells.ty_set {w : World} {m : Nat} {k : Int} {kn : Int → Bool} {bs : Int → ByteArray} {vL vT : Value} (h : RCells w m k kn bs vL vT) (o : Nat) (u : Value) : ∃ cs, (w.setCell ⟨m, o, none⟩ u).heap[m]? = some (.cells cs 34 (0, 0)) := by
  obtain ⟨cs, hb⟩ := h.ty
  exact ⟨_, heap_setCell_same w m o cs _ u hb⟩
theorem addr_ne {b o o' : Nat} (h : o ≠ o') : (⟨b, o, none⟩ : Addr) ≠ ⟨b, o', none⟩ := fun e => h (by injection e)
theorem RCells.setL {w : World} {m : Nat} {k : Int} {kn : Int → Bool} {bs : Int → ByteArray} {vL vT : Value} (h : RCells w m k kn bs vL vT) (u : Value) : RCells (w.setCell ⟨m, 33, none⟩ u) m k kn bs u vT :=
  ⟨cell_set_ne h.k0 (addr_ne (by omega)), fun i hi => cell_set_ne (h.kk i hi) (addr_ne (by omega)), fun i hi => cell_set_ne (h.kb i hi) (addr_ne (by omega)), World.cell?_setCell_same _ _ _ h.kl, cell_set_ne h.kt (addr_ne (by omega)), h.ty_set _ _⟩
theorem RCells.setT {w : World} {m : Nat} {k : Int} {kn : Int → Bool} {bs : Int → ByteArray} {vL vT : Value} (h : RCells w m k kn bs vL vT) (u : Value) : RCells (w.setCell ⟨m, 34, none⟩ u) m k kn bs vL u :=
  ⟨cell_set_ne h.k0 (addr_ne (by omega)), fun i hi => cell_set_ne (h.kk i hi) (addr_ne (by omega)), fun i hi => cell_set_ne (h.kb i hi) (addr_ne (by omega)), cell_set_ne h.kl (addr_ne (by omega)), World.cell?_setCell_same _ _ _ h.kt, h.ty_set _ _⟩
theorem RCells.setK {w : World} {m : Nat} {k : Int} {kn : Int → Bool} {bs : Int → ByteArray} {vL vT : Value} (h : RCells w m k kn bs vL vT) (x : Nat) (hx : x < 16) (b : Bool) : RCells (w.setCell ⟨m, 1 + x, none⟩ (.bool b)) m k (fun i => if i = x then b else kn i) bs vL vT := by
  refine ⟨cell_set_ne h.k0 (addr_ne (by omega)), fun i hi => ?_, fun i hi => cell_set_ne (h.kb i hi) (addr_ne (by omega)), cell_set_ne h.kl (addr_ne (by omega)), cell_set_ne h.kt (addr_ne (by omega)), h.ty_set _ _⟩
  by_cases e : i = x
  · subst e; rw [World.cell?_setCell_same _ _ _ (h.kk i hi)]; simp
  · rw [cell_set_ne (h.kk i hi) (addr_ne (by omega)), if_neg (by omega)]
theorem RCells.setB {w : World} {m : Nat} {k : Int} {kn : Int → Bool} {bs : Int → ByteArray} {vL vT : Value} (h : RCells w m k kn bs vL vT) (x : Nat) (hx : x < 16) (b : ByteArray) : RCells (w.setCell ⟨m, 17 + x, none⟩ (.string b)) m k kn (fun i => if i = x then b else bs i) vL vT := by
  refine ⟨cell_set_ne h.k0 (addr_ne (by omega)), fun i hi => cell_set_ne (h.kk i hi) (addr_ne (by omega)), fun i hi => ?_, cell_set_ne h.kl (addr_ne (by omega)), cell_set_ne h.kt (addr_ne (by omega)), h.ty_set _ _⟩
  by_cases e : i = x
  · subst e; rw [World.cell?_setCell_same _ _ _ (h.kb i hi)]; simp
  · rw [cell_set_ne (h.kb i hi) (addr_ne (by omega)), if_neg (by omega)]

/-- Which of a set's are not known. -/
def rleft (kn : Int → Bool) (of : List Int) : List Int := of.filter fun i => !kn i
theorem rleft_snoc (kn : Int → Bool) (of : List Int) (x : Int) : rleft kn (of ++ [x]) = rleft kn of ++ (if kn x then [] else [x]) := by
  unfold rleft; rw [List.filter_append]; cases h : kn x <;> simp [h]

set_option maxHeartbeats 2000000 in
set_option maxRecDepth 100000 in
theorem c_R_Left (m : Nat) (k : Int) (kn : Int → Bool) (bs : Int → ByteArray) (vL vT : Value) (seed : Int) (data : ByteArray) (w : World) (h : RCells w m k kn bs vL vT) (k1 : 1 ≤ k) (k2 : k ≤ 16) (s1 : 1 ≤ seed) (s2 : seed ≤ 10000) :
    Calls Tryd.prog 35 #[.pointer (some ⟨m, 0, none⟩), .agg #[.int .i64 seed, .string data]] w fun e w' => ∃ v, e = .returned v ∧ w'.ownsRow w.heap.size 3 1 v (rleft kn (Sp.setOf k seed)).length ((rleft kn (Sp.setOf k seed)).map (.int .i64)) ∧ Fresh w w' := by
  have h' := Lib.hid h
  have p0 := h.k0
  have hml := h.lt
  obtain ⟨g1, g2, g3, g4⟩ := setOf_good k1 k2 s1 s2
  have g2' := Lib.hid g2
  clear h g1 g2 g4
  go_enter Tryd.func35, Tryd.ntmps35
  go_upto_region 2 with fail
  go_cut [6] (fun s6 wc => wc.ownsRow w.heap.size 3 1 s6 (Sp.setOf k seed).length ((Sp.setOf k seed).map (.int .i64)) ∧ Fresh w wc)
  case first =>
    have b0 : (w.alloc (.cells #[.int .i64 seed, .string data] 37)).cell? ⟨w.heap.size, 0, none⟩ = some (.int .i64 seed) := by simp
    have hfW : Fresh w (w.alloc (.cells #[.int .i64 seed, .string data] 37)) := (Touch.refl _ _).alloc _
    have q0 := (hfW.cell (p := ⟨m, 0, none⟩) hml id).trans p0
    clear p0
    generalize w.alloc (.cells #[.int .i64 seed, .string data] 37) = W at *
    go_region_held3 (fun w' => w'.cell? ⟨m, 0, none⟩ = some (.int .i64 k) ∧ w'.cell? ⟨w.heap.size, 0, none⟩ = some (.int .i64 seed))
      (first | with_reducible exact ⟨q0, b0⟩ | with_reducible exact ⟨r0, r1⟩ | go_keep)
      ((go_at_call 36; refine (c_R_Set k seed _ k1 k2 s1 s2).mono ?_; rintro e w1 ⟨vs, rfl, hown, hf1⟩; have r0 := (hf1.cell (p := ⟨m, 0, none⟩) (block_lt_of_cell q0) id).trans q0; have r1 := (hf1.cell (p := ⟨w.heap.size, 0, none⟩) (block_lt_of_cell b0) id).trans b0))
    all_goals
      go_wp2_with fail
      go_meet
      case rel => exact ⟨owns_low hown hfW.size, (hfW.drew).then_fresh hf1⟩
  case rest =>
    obtain ⟨hown, hfc⟩ := hcut
    obtain ⟨A, c, rfl, hc, hm⟩ := (RowAt.of_owns hown).form
    have hset := Lib.hid (RowAt.of_owns hown)
    have hcz := hfc.size
    clear p0 hown
    generalize hS : Sp.setOf k seed = S at *
    have hS' := Lib.hid hS
    clear hS
    go_wp2_with fail
    go_loopg [7, 5] (S.length) (fun g s7 s5 wr => ∃ j : Nat, j + g = S.length ∧ s7 = .int .i64 j ∧ wr.ownsRow wc.heap.size 3 1 s5 (rleft kn (S.take j)).length ((rleft kn (S.take j)).map (.int .i64)) ∧ Fresh wc wr)
    case atStart => exact ⟨0, by simp, rfl, World.ownsRow_nil _ _ _ _, Touch.refl _ _⟩
    case round =>
      obtain ⟨j, hj, rfl, hown, hfr⟩ := hrel
      have hrl : (rleft kn (S.take j)).length ≤ 16 := Nat.le_trans (List.length_filter_le _ _) (by rw [List.length_take]; omega)
      have hrz := hfr.size
      obtain ⟨A5, c5, rfl, hc5, hm5⟩ := (RowAt.of_owns hown).form
      by_cases hlt : j < S.length
      · obtain ⟨b, o, y, rfl, hy, hcl⟩ := (hset.out.fresh hfr).int_at j hlt
        obtain ⟨y0, yk⟩ := g2'.out y (List.mem_of_getElem? hy.out)
        obtain ⟨y, rfl⟩ := Int.eq_ofNat_of_zero_le y0
        have y16 : (y : Int) < 16 := by omega
        have y16n : y < 16 := by omega
        have hR := Lib.hid (h'.out.fresh (hfc.then_fresh hfr))
        have hkc := hR.out.kk y y16n
        have htake : Hid (S.take (j + 1) = S.take j ++ [(y : Int)]) := by unfold Hid; rw [List.take_add_one, hy.out]; rfl
        have hown' := Lib.hid hown
        clear hown
        cases hk : kn y with
        | true =>
          rw [hk] at hkc
          have hk' := Lib.hid hk
          clear hk
          go_wp2_with fail
          go_region
          go_wp2_with fail
          go_roundg (S.length - (j + 1))
          case rel =>
            refine ⟨j + 1, by omega, by go_num, ?_, hfr.drew⟩
            rw [htake.out, rleft_snoc, hk'.out, if_pos rfl, List.append_nil]
            exact hown'.out
          case measure => omega
        | false =>
          rw [hk] at hkc
          have hk' := Lib.hid hk
          clear hk
          go_wp2_with fail
          go_region
          go_wp2_with (at_builtin; refine Halt.out ?_)
          refine ⟨?_⟩
          refine wl_append rfl _ _ 32 rfl wc.heap.size 3 (.int .i64 0) 1 8 Tryd.underlying32 Tryd.infoInt rfl (by decide) (by decide) _ (rleft kn (S.take j)).length ((rleft kn (S.take j)).map (.int .i64)) rfl _ 1 [.int .i64 y] rfl ((owns_fresh hown'.out ((Touch.refl _ wr).drew)).alloc _) (RowAt.boxed _ [.int .i64 y] _ 1 _ rfl (by simp [maxLen])) rfl (ints_one .i64 [(y : Int)]) (by omega) (by simp; omega) ?_
          intro v1 w1 hown1 hgr1 hat1
          have hf1 : Fresh wc w1 := Fresh.append ((hfr.drew).alloc _) ((owns_fresh hown'.out ((Touch.refl _ wr).drew)).alloc _) (Nat.le_refl _) hgr1
          go_wp2_with fail
          go_roundg (S.length - (j + 1))
          case rel =>
            refine ⟨j + 1, by omega, by go_num, ?_, ?_⟩
            · rw [htake.out, rleft_snoc, hk'.out, List.length_append, List.map_append]
              exact hown1
            · exact hf1
          case measure => omega
      · have hall : Hid (S.take j = S) := List.take_of_length_le (by omega)
        go_wp2_with fail
        go_ret
        refine ⟨_, rfl, ?_, hfc.then_fresh hfr⟩
        rw [hS'.out]
        have h := owns_low hown hcz
        simp only [hall.out] at h ⊢
        exact h

/-- The numbers below k that are known. -/
def rknows (kn : Int → Bool) (k : Nat) : List Int := ((List.range k).map Int.ofNat).filter fun i => kn i
theorem rknows_succ (kn : Int → Bool) (k : Nat) : rknows kn (k + 1) = rknows kn k ++ (if kn k then [(k : Int)] else []) := by
  unfold rknows; rw [List.range_succ, List.map_append, List.filter_append]
  cases h : kn k <;> simp [h]
theorem rknows_len (kn : Int → Bool) (k : Nat) : (rknows kn k).length ≤ k := by
  unfold rknows; exact Nat.le_trans (List.length_filter_le _ _) (by simp)

set_option maxHeartbeats 2000000 in
set_option maxRecDepth 100000 in
theorem c_R_Knows (m : Nat) (k : Nat) (kn : Int → Bool) (bs : Int → ByteArray) (vL vT : Value) (w : World) (h : RCells w m k kn bs vL vT) (k2 : k ≤ 16) :
    Calls Tryd.prog 18 #[.pointer (some ⟨m, 0, none⟩)] w fun e w' => ∃ v, e = .returned v ∧ w'.ownsRow w.heap.size 3 1 v (rknows kn k).length ((rknows kn k).map (.int .i64)) ∧ Fresh w w' := by
  have h' := Lib.hid h
  clear h
  go_enter Tryd.func18, Tryd.ntmps18
  go_wp2_with fail
  go_loopg [4, 3] k (fun g s4 s3 wr => ∃ j : Nat, j + g = k ∧ s4 = .int .i64 j ∧ wr.ownsRow w.heap.size 3 1 s3 (rknows kn j).length ((rknows kn j).map (.int .i64)) ∧ Fresh w wr)
  case atStart => exact ⟨0, by simp, rfl, World.ownsRow_nil _ _ _ _, Touch.refl _ _⟩
  case round =>
    obtain ⟨j, hj, rfl, hown, hfr⟩ := hrel
    have hrl := rknows_len kn j
    have hrz := hfr.size
    obtain ⟨A5, c5, rfl, hc5, hm5⟩ := (RowAt.of_owns hown).form
    have hR := Lib.hid (h'.out.fresh hfr)
    have p0 := hR.out.k0
    have hown' := Lib.hid hown
    clear hown
    by_cases hlt : j < k
    · have j16 : (j : Int) < 16 := by omega
      have hlt' : (j : Int) < k := by omega
      have hkc := hR.out.kk j (by omega)
      cases hk : kn j with
      | true =>
        rw [hk] at hkc
        have hk' := Lib.hid hk
        clear hk
        go_wp2_with (at_builtin; refine Halt.out ?_)
        refine ⟨?_⟩
        refine wl_append rfl _ _ 32 rfl w.heap.size 3 (.int .i64 0) 1 8 Tryd.underlying32 Tryd.infoInt rfl (by decide) (by decide) _ (rknows kn j).length ((rknows kn j).map (.int .i64)) rfl _ 1 [.int .i64 j] rfl (hown'.out.alloc _) (RowAt.boxed _ [.int .i64 j] _ 1 _ rfl (by simp [maxLen])) rfl (ints_one .i64 [(j : Int)]) (by omega) (by simp; omega) ?_
        intro v1 w1 hown1 hgr1 hat1
        have hf1 : Fresh w w1 := Fresh.append (hfr.alloc _) (hown'.out.alloc _) (Nat.le_refl _) hgr1
        go_wp2_with fail
        go_roundg (k - (j + 1))
        case rel =>
          refine ⟨j + 1, by omega, by go_num, ?_, hf1⟩
          rw [rknows_succ, hk'.out, if_pos rfl, List.length_append, List.map_append]
          exact hown1
        case measure => omega
      | false =>
        rw [hk] at hkc
        have hk' := Lib.hid hk
        clear hk
        go_wp2_with fail
        go_roundg (k - (j + 1))
        case rel =>
          refine ⟨j + 1, by omega, by go_num, ?_, hfr⟩
          rw [rknows_succ, hk'.out, if_neg (by simp), List.append_nil]
          exact hown'.out
        case measure => omega
    · have hjk : Hid (j = k) := by unfold Hid; omega
      have hlt' : ¬ (j : Int) < k := by omega
      go_wp2_with fail
      go_ret
      refine ⟨_, rfl, ?_, hfr⟩
      have h := hown'.out
      rw [← hjk.out]
      exact h
end Go.Proofs.YtnepdhkjammibaaDoor
