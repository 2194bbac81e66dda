/- Contracts: the sort of a list of one's own, a number put into a list that rises, the set of a seed (the program's, and the document's). -/
import Derived.Test.YtnepdhkjammibaaDoorLeaf
import Derived.Test.YtnepdhkjammibaaDoorEnds
import Derived.Test.YtnepdhkjammibaaDoorShelf
import Derived.Sort.OwnSortedInts
set_option linter.unusedVariables false
set_option linter.unusedSimpArgs false
namespace Go.Proofs.YtnepdhkjammibaaDoor
open Go.RowKit

theorem Tryd.infoInt : (Tryd.prog.info? 3).map (fun i => (i.zero, i.size, i.bytes)) = some (some (.int .i64 0), 1, 8) := by kernel_rfl

theorem ints_one (k : IntKind) (xs : List Int) : ∀ u ∈ xs.map (Value.int k), u.oneCell' = true := by
  intro u hu; obtain ⟨x, _, rfl⟩ := List.mem_map.1 hu; rfl

theorem c_Sort (base : Nat) (v : Value) (xs : List Int) (w : World) (h : w.ownsRow base 3 1 v xs.length (xs.map (.int .i64))) (hl : xs.length ≤ 1000000) :
    Calls Tryd.prog 63 #[v] w fun e w' => e = .returned (.tuple #[]) ∧ w'.ownsRow base 3 1 v xs.length ((Sp.isort xs).map (.int .i64)) ∧ w.grownBy w' v.ownBlock := by
  rcases h.2 with ⟨rfl, h0⟩ | ⟨g, cap, cur, rfl, hb, hg, hnc, hcm, hcs, htake⟩
  · obtain rfl := List.eq_nil_of_length_eq_zero h0
    refine (Tryd.slices_Sort_int_none none 0 w).mono ?_
    rintro e w' ⟨rfl, rfl⟩
    exact ⟨rfl, h, World.grownBy.refl _ _⟩
  · refine (Tryd.slices_Sort_int g 0 cap xs w (holds_of_blockI hg (by simpa using htake)) (lt_of_block hg) (by omega)).mono ?_
    rintro e w' ⟨rfl, n, os, rfl⟩
    rw [Sp.mergeSort_isort]
    exact ⟨rfl, ownsRow_sortedI (by rw [Sp.length_isort]) hb hg hnc hcm hcs, grownBy_sortedI _⟩


theorem setU_len {k seed : Int} (h1 : 1 ≤ k) (h2 : k ≤ 16) (h3 : 1 ≤ seed) (h4 : seed ≤ 10000) : (Sp.setU k seed).length ≤ 16 := by
  unfold Sp.setU
  split
  · simp
  · have := Sp.draws_end k seed h1 h2 h3 h4
    have := Sp.deg_range (k := k) (n := Sp.nxt seed % 1000) h1 (by omega)
    omega

set_option maxHeartbeats 1000000 in
theorem c_drop_Of (k seed : Int) (w : World) (h1 : 1 ≤ k) (h2 : k ≤ 16) (h3 : 1 ≤ seed) (h4 : seed ≤ 10000) :
    Calls Tryd.prog 40 #[.int .i64 k, .int .i64 seed] w fun e w' => ∃ v, e = .returned v ∧ w'.ownsRow w.heap.size 3 1 v (Sp.setOf k seed).length ((Sp.setOf k seed).map (.int .i64)) ∧ Fresh w w' := by
  by_cases hs : seed ≤ k
  · have hset : Hid (Sp.setOf k seed = [seed - 1]) := by unfold Hid Sp.setOf Sp.setU; rw [if_pos hs]; rfl
    go_enter Tryd.func40, Tryd.ntmps40
    go_wp2
    go_ret
    refine ⟨_, rfl, ?_, (Touch.refl _ _).alloc _⟩
    rw [hset.out]
    exact World.ownsRow_lit (base := w.heap.size) (e := 3) (size := 1) w #[.int .i64 (seed - 1)] 1 (Nat.le_refl _) (by simp [maxLen]) rfl
  · have hU : Hid (Sp.draw k (Sp.deg k (Sp.nxt seed % 1000)) 150 (Sp.nxt seed) [] = Sp.setU k seed) := by unfold Hid Sp.setU; rw [if_neg hs]
    have hUl : Hid (((Sp.setU k seed).length : Int) = Sp.deg k (Sp.nxt seed % 1000)) := by rw [← hU.out]; exact Sp.draws_end k seed h1 h2 h3 h4
    have hset : Hid (Sp.setOf k seed = Sp.isort (Sp.setU k seed)) := rfl
    have hlen := setU_len h1 h2 h3 h4
    have hb := Sp.nxt_bd seed
    obtain ⟨b1, b2⟩ := hb
    have hdeg := Sp.deg_range (k := k) (n := Sp.nxt seed % 1000) h1 (by omega)
    obtain ⟨d1, d2⟩ := hdeg
    generalize hn1 : Sp.nxt seed = n1 at *
    have hn1' : Hid (Sp.nxt seed = n1) := hn1
    clear hn1
    go_enter Tryd.func40, Tryd.ntmps40
    go_wp2_with fail
    refine (c_chance_Go seed _ (by omega) (by omega)).mono ?_
    rintro e w' ⟨rfl, rfl⟩
    rw [hn1'.out]
    go_wp2_with fail
    refine (c_degree_For k (n1 % 1000) _ (by omega) (by omega) h1 h2).mono ?_
    rintro e w' ⟨rfl, rfl⟩
    generalize hd : Sp.deg k (n1 % 1000) = d at *
    have hd' : Hid (Sp.deg k (n1 % 1000) = d) := hd
    clear hd
    go_wp2_with fail
    go_loopg [5, 7] 150 (fun g s5 s7 wr => ∃ (n : Int) (l : List Int), 0 ≤ n ∧ n ≤ 2147483646 ∧ l.length ≤ 16 ∧ Hid (Sp.draw k d g n l = Sp.setU k seed) ∧ s5 = .int .i64 n ∧ wr.ownsRow w.heap.size 3 1 s7 l.length (l.map (.int .i64)) ∧ Fresh w wr)
    case atStart => exact ⟨n1, [], b1, b2, by simp, hU, rfl, World.ownsRow_nil _ _ _ _, Touch.refl _ _⟩
    case round =>
      obtain ⟨n, l, c1, c2, hl16, hdr, rfl, hown, hfr⟩ := hrel
      obtain ⟨A, c, rfl, hc, hm, hcell⟩ := (RowAt.of_owns hown).ints
      clear hcell
      by_cases hlt : (l.length : Int) < d
      · obtain ⟨g', hg', hyes, hno⟩ := Sp.draw_go hdr.out hUl.out hlt
        obtain ⟨e1, e2⟩ := Sp.nxt_bd n
        have hY : Hid (Sp.nxt n % k ∈ l → Sp.draw k d g' (Sp.nxt n) l = Sp.setU k seed) := hyes
        have hN : Hid (Sp.nxt n % k ∉ l → Sp.draw k d g' (Sp.nxt n) (l ++ [Sp.nxt n % k]) = Sp.setU k seed) := hno
        clear hyes hno hdr
        generalize hn2 : Sp.nxt n = n2 at *
        have hn2' : Hid (Sp.nxt n = n2) := hn2
        clear hn2
        generalize hr : n2 % k = r at *
        have hr' : Hid (n2 % k = r) := hr
        clear hr
        by_cases hmem : r ∈ l
        · have hmt : memI l r = true := memI_iff.2 hmem
          go_wp2_with fail
          refine (c_chance_Go n _ (by omega) (by omega)).mono ?_
          rintro e w' ⟨rfl, rfl⟩
          rw [hn2'.out]
          go_wp2_with fail
          rw [hr'.out]
          refine (c_slices_Contains _ l r _ (RowAt.of_owns hown)).mono ?_
          rintro e w' ⟨rfl, rfl⟩
          go_wp2_with fail
          go_roundg g'
          case rel => exact ⟨n2, l, e1, e2, hl16, hY.out hmem, rfl, hown, hfr⟩
          case measure => omega
        · have hmt : memI l r = false := memI_no.2 hmem
          go_wp2_with fail
          refine (c_chance_Go n _ (by omega) (by omega)).mono ?_
          rintro e w' ⟨rfl, rfl⟩
          rw [hn2'.out]
          go_wp2_with fail
          rw [hr'.out]
          refine (c_slices_Contains _ l r _ (RowAt.of_owns hown)).mono ?_
          rintro e w' ⟨rfl, rfl⟩
          go_wp2_with (at_builtin; go_must (refine wl_append rfl _ _ 32 rfl w.heap.size 3 (.int .i64 0) 1 8 Tryd.underlying32 Tryd.infoInt rfl (by decide) (by decide) _ l.length (l.map (.int .i64)) rfl _ 1 [.int .i64 r] rfl (hown.alloc _) (RowAt.box _ [.int .i64 r] _ 1 (by simp [maxLen])) rfl (ints_one .i64 [r]) (by omega) (by have := hfr.size; simp; omega) ?_); intro v1 w1 hown1 hgr1 hat1)
          go_roundg g'
          case rel =>
            refine ⟨n2, l ++ [r], e1, e2, by simp; omega, hN.out hmem, rfl, ?_, ?_⟩
            · simpa using hown1
            · exact Fresh.append (hfr.alloc _) (hown.alloc _) (Nat.le_refl _) hgr1
          case measure => omega
      · have hle := Sp.draw_stop hdr.out hlt
        have hle' : Hid (l = Sp.setU k seed) := hle
        clear hle hdr
        go_wp2_with fail
        refine (c_Sort w.heap.size _ l _ hown (by omega)).mono ?_
        rintro e w' ⟨rfl, hown1, hgr1⟩
        go_wp2_with fail
        go_ret
        refine ⟨_, rfl, ?_, Fresh.append hfr hown (Nat.le_refl _) hgr1⟩
        rw [hset.out, ← hle'.out, Sp.length_isort]
        exact hown1

/-- The numbers ahead that are less. -/
def lowCount (x : Int) : List Int → Nat
  | [] => 0
  | y :: l => if y < x then lowCount x l + 1 else 0
theorem ins_eq (x : Int) (l : List Int) : Sp.ins x l = l.take (lowCount x l) ++ [x] ++ l.drop (lowCount x l) := by
  induction l with
  | nil => rfl
  | cons y l ih =>
    rw [Sp.ins, lowCount]
    split
    · simp [ih]
    · simp
theorem lowCount_le (x : Int) (l : List Int) : lowCount x l ≤ l.length := by
  induction l with
  | nil => simp [lowCount]
  | cons y l ih => rw [lowCount]; split <;> simp; omega
theorem lowCount_at (x : Int) : ∀ (l : List Int) (k : Nat) (y : Int), k ≤ lowCount x l → l[k]? = some y → (y < x ↔ k + 1 ≤ lowCount x l) := by
  intro l
  induction l with
  | nil => intro k y _ h; simp at h
  | cons z l ih =>
    intro k y hk hy
    rw [lowCount] at hk ⊢
    cases k with
    | zero =>
      simp at hy; subst hy
      by_cases h : z < x
      · rw [if_pos h]; constructor <;> intro _ <;> omega
      · rw [if_neg h]; constructor <;> intro _ <;> omega
    | succ k =>
      by_cases h : z < x
      · rw [if_pos h] at hk ⊢
        have := ih k y (by omega) (by simpa using hy)
        rw [this]; omega
      · rw [if_neg h] at hk; omega

set_option maxHeartbeats 1000000 in
theorem c_R_Put (v : Value) (l : List Int) (x : Int) (w : World) (h : RowAt w v l.length (l.map (.int .i64))) (hlen : l.length ≤ 1000) :
    Calls Tryd.prog 38 #[v, .int .i64 x] w fun e w' => ∃ v', e = .returned v' ∧ w'.ownsRow w.heap.size 3 1 v' (Sp.ins x l).length ((Sp.ins x l).map (.int .i64)) ∧ Fresh w w' := by
  obtain ⟨A, c, rfl, hc, hm⟩ := h.form
  have hrow : Hid (RowAt w (.slice A l.length c) l.length (l.map (.int .i64))) := h
  clear h
  have hcle := lowCount_le x l
  obtain ⟨vc, hcut, hrowc⟩ := RowAt.cut_low Tryd.underlying32 Tryd.infoInt hrow.out (by simp) (lowCount x l) hcle
  have hrowc' : Hid (RowAt w vc (l.length - lowCount x l) (List.drop (lowCount x l * 1) (List.map (Value.int IntKind.i64) l))) := hrowc
  clear hrowc
  go_enter Tryd.func38, Tryd.ntmps38
  go_wp2_with fail
  go_loopg [5, 6] (l.length) (fun g s5 s6 wr => ∃ k : Nat, k + g = l.length ∧ k ≤ lowCount x l ∧ s6 = .int .i64 k ∧ wr.ownsRow w.heap.size 3 1 s5 k ((l.take k).map (.int .i64)) ∧ Fresh w wr)
  case atStart => exact ⟨0, by simp, by simp, rfl, World.ownsRow_nil _ _ _ _, Touch.refl _ _⟩
  case round =>
    obtain ⟨k, hk, hkc, rfl, hown, hfr⟩ := hrel
    have hfz := hfr.size
    have hrow1 : Hid (RowAt wr (Value.slice A l.length c) l.length (l.map (.int .i64))) := hrow.out.fresh hfr
    by_cases hgo : k < lowCount x l
    · obtain ⟨b, o, y, rfl, hy, hcl⟩ := hrow1.out.int_at k (by omega)
      have hyx : y < x := (lowCount_at x l k y hkc hy.out).2 (by omega)
      clear hcut
      go_wp2_with (at_builtin; go_must (refine wl_append rfl _ _ 32 rfl w.heap.size 3 (.int .i64 0) 1 8 Tryd.underlying32 Tryd.infoInt rfl (by decide) (by decide) _ k ((l.take k).map (.int .i64)) rfl _ 1 [.int .i64 y] rfl (hown.alloc _) (RowAt.box _ [.int .i64 y] _ 1 (by simp [maxLen])) rfl (ints_one .i64 [y]) (by omega) (by simp; omega) ?_); intro v1 w1 hown1 hgr1 hat1)
      go_roundg (l.length - (k + 1))
      case rel =>
        refine ⟨k + 1, by omega, by omega, by go_num, ?_, Fresh.append (hfr.alloc _) (hown.alloc _) (Nat.le_refl _) hgr1⟩
        rw [List.take_add_one, hy.out]
        simpa using hown1
      case measure => omega
    · have hkc' : Hid (k = lowCount x l) := show k = lowCount x l by omega
      have hins : Hid (Sp.ins x l = l.take (lowCount x l) ++ [x] ++ l.drop (lowCount x l)) := ins_eq x l
      obtain ⟨k0, rfl⟩ : ∃ k0, k0 = k := ⟨k, rfl⟩
      rw [← hkc'.out] at hcut
      rw [← hkc'.out] at hrowc'
      have hfin : ∀ (v1 : Value) (w1 : World), w1.ownsRow w.heap.size 3 1 v1 (k0 + 1 + (l.length - k0)) (List.map (Value.int IntKind.i64) (List.take k0 l) ++ [Value.int .i64 x] ++ List.drop (k0 * 1) (List.map (Value.int IntKind.i64) l)) → Hid (w1.ownsRow w.heap.size 3 1 v1 (Sp.ins x l).length ((Sp.ins x l).map (.int .i64))) := by
        intro v1 w1 h
        unfold Hid
        rw [hins.out, ← hkc'.out]
        have e : (List.take k0 l ++ [x] ++ List.drop k0 l).length = k0 + 1 + (l.length - k0) := by simp; omega
        rw [e]
        simpa using h
      have hfin' : Hid (∀ (v1 : Value) (w1 : World), w1.ownsRow w.heap.size 3 1 v1 (k0 + 1 + (l.length - k0)) (List.map (Value.int IntKind.i64) (List.take k0 l) ++ [Value.int .i64 x] ++ List.drop (k0 * 1) (List.map (Value.int IntKind.i64) l)) → Hid (w1.ownsRow w.heap.size 3 1 v1 (Sp.ins x l).length ((Sp.ins x l).map (.int .i64)))) := hfin
      clear hfin hins
      by_cases hlt : k0 < l.length
      · obtain ⟨b, o, y, rfl, hy, hcl⟩ := hrow1.out.int_at k0 hlt
        have hyx : ¬ y < x := fun h => by have := (lowCount_at x l k0 y hkc hy.out).1 h; omega
        go_wp2_with (at_builtin; refine Halt.out ?_)
        refine ⟨?_⟩
        refine wl_append rfl _ _ 32 rfl w.heap.size 3 (.int .i64 0) 1 8 Tryd.underlying32 Tryd.infoInt rfl (by decide) (by decide) _ k0 ((l.take k0).map (.int .i64)) rfl _ 1 [.int .i64 x] rfl (hown.alloc _) (RowAt.box _ [.int .i64 x] _ 1 (by simp [maxLen])) rfl (ints_one .i64 [x]) (by omega) (by simp; omega) ?_
        intro v1 w1 hown1 hgr1 hat1
        have hf1 := Fresh.append (hfr.alloc _) (hown.alloc _) (Nat.le_refl _) hgr1
        have hz1 := hf1.size
        go_wp2_with (at_builtin; refine Halt.out ?_)
        refine ⟨?_⟩
        refine wl_append rfl _ _ 32 rfl w.heap.size 3 (.int .i64 0) 1 8 Tryd.underlying32 Tryd.infoInt rfl (by decide) (by decide) _ (k0 + 1) _ rfl vc (l.length - k0) _ rfl hown1 (hrowc'.out.fresh hf1) (by simp) (by intro u hu; exact ints_one .i64 _ u (List.mem_of_mem_drop hu)) (by omega) hz1 ?_
        intro v2 w2 hown2 hgr2 hat2
        go_wp2_with fail
        go_ret
        exact ⟨_, rfl, (hfin'.out _ _ hown2).out, Fresh.append hf1 hown1 (Nat.le_refl _) hgr2⟩
      · go_wp2_with (at_builtin; refine Halt.out ?_)
        refine ⟨?_⟩
        refine wl_append rfl _ _ 32 rfl w.heap.size 3 (.int .i64 0) 1 8 Tryd.underlying32 Tryd.infoInt rfl (by decide) (by decide) _ k0 ((l.take k0).map (.int .i64)) rfl _ 1 [.int .i64 x] rfl (hown.alloc _) (RowAt.box _ [.int .i64 x] _ 1 (by simp [maxLen])) rfl (ints_one .i64 [x]) (by omega) (by simp; omega) ?_
        intro v1 w1 hown1 hgr1 hat1
        have hf1 := Fresh.append (hfr.alloc _) (hown.alloc _) (Nat.le_refl _) hgr1
        have hz1 := hf1.size
        go_wp2_with (at_builtin; refine Halt.out ?_)
        refine ⟨?_⟩
        refine wl_append rfl _ _ 32 rfl w.heap.size 3 (.int .i64 0) 1 8 Tryd.underlying32 Tryd.infoInt rfl (by decide) (by decide) _ (k0 + 1) _ rfl vc (l.length - k0) _ rfl hown1 (hrowc'.out.fresh hf1) (by simp) (by intro u hu; exact ints_one .i64 _ u (List.mem_of_mem_drop hu)) (by omega) hz1 ?_
        intro v2 w2 hown2 hgr2 hat2
        go_wp2_with fail
        go_ret
        exact ⟨_, rfl, (hfin'.out _ _ hown2).out, Fresh.append hf1 hown1 (Nat.le_refl _) hgr2⟩
end Go.Proofs.YtnepdhkjammibaaDoor
