/- Contracts: the document's set of a seed; noughts; what is wrong with a drop; the drop of a seed. -/
import Derived.Test.YtnepdhkjammibaaDoorDraw
import Derived.Test.YtnepdhkjammibaaDoorBlocks
set_option linter.unusedVariables false
set_option linter.unusedSimpArgs false
namespace Go.Proofs.YtnepdhkjammibaaDoor
open Go.RowKit

set_option maxHeartbeats 1000000 in
theorem c_R_Set (k seed : Int) (w : World) (h1 : 1 ≤ k) (h2 : k ≤ 16) (h3 : 1 ≤ seed) (h4 : seed ≤ 10000) :
    Calls Tryd.prog 36 #[.int .i64 k, .int .i64 seed] w fun e w' => ∃ v, e = .returned v ∧ w'.ownsRow w.heap.size 3 1 v (Sp.setOf k seed).length ((Sp.setOf k seed).map (.int .i64)) ∧ Fresh w w' := by
  by_cases hs : seed ≤ k
  · have hset : Hid (Sp.setOf k seed = [seed - 1]) := by unfold Hid Sp.setOf Sp.setU; rw [if_pos hs]; rfl
    go_enter Tryd.func36, Tryd.ntmps36
    go_wp2
    go_ret
    refine ⟨_, rfl, ?_, (Touch.refl _ _).alloc _⟩
    rw [hset.out]
    exact World.ownsRow_lit (base := w.heap.size) (e := 3) (size := 1) w #[.int .i64 (seed - 1)] 1 (Nat.le_refl _) (by simp [maxLen]) rfl
  · have hU : Hid (Sp.draw k (Sp.deg k (Sp.nxt seed % 1000)) 150 (Sp.nxt seed) [] = Sp.setU k seed) := by unfold Hid Sp.setU; rw [if_neg hs]
    have hUl : Hid (((Sp.setU k seed).length : Int) = Sp.deg k (Sp.nxt seed % 1000)) := by rw [← hU.out]; exact Sp.draws_end k seed h1 h2 h3 h4
    have hset : Hid (Sp.setOf k seed = Sp.isort (Sp.setU k seed)) := rfl
    have hlen := setU_len h1 h2 h3 h4
    have hb := Sp.nxt_bd seed
    obtain ⟨b1, b2⟩ := hb
    have hdeg := Sp.deg_range (k := k) (n := Sp.nxt seed % 1000) h1 (by omega)
    obtain ⟨d1, d2⟩ := hdeg
    generalize hn1 : Sp.nxt seed = n1 at *
    have hn1' : Hid (Sp.nxt seed = n1) := hn1
    clear hn1
    go_enter Tryd.func36, Tryd.ntmps36
    go_wp2_with fail
    refine (c_R_Next seed _ (by omega) (by omega)).mono ?_
    rintro e w' ⟨rfl, rfl⟩
    rw [hn1'.out]
    go_wp2_with fail
    refine (c_R_Degree k (n1 % 1000) _ (by omega) (by omega) h1 h2).mono ?_
    rintro e w' ⟨rfl, rfl⟩
    generalize hd : Sp.deg k (n1 % 1000) = d at *
    have hd' : Hid (Sp.deg k (n1 % 1000) = d) := hd
    clear hd
    go_wp2_with fail
    go_loopg [5, 7] 150 (fun g s5 s7 wr => ∃ (n : Int) (l m : List Int), 0 ≤ n ∧ n ≤ 2147483646 ∧ l.length ≤ 16 ∧ m.length = l.length ∧ Hid (m = Sp.isort l) ∧ Hid (Sp.draw k d g n l = Sp.setU k seed) ∧ s5 = .int .i64 n ∧ wr.ownsRow w.heap.size 3 1 s7 m.length (m.map (.int .i64)) ∧ Fresh w wr)
    case atStart => exact ⟨n1, [], [], b1, b2, by simp, rfl, rfl, hU, rfl, World.ownsRow_nil _ _ _ _, Touch.refl _ _⟩
    case round =>
      obtain ⟨n, l, m, c1, c2, hl16, hml, hms, hdr, rfl, hown, hfr⟩ := hrel
      obtain ⟨A, c, rfl, hc, hm⟩ := (RowAt.of_owns hown).form
      have hfz := hfr.size
      have hml' := Lib.hid hml
      by_cases hlt : (l.length : Int) < d
      · obtain ⟨g', hg', hyes, hno⟩ := Sp.draw_go hdr.out hUl.out hlt
        obtain ⟨e1, e2⟩ := Sp.nxt_bd n
        have hY : Hid (Sp.nxt n % k ∈ l → Sp.draw k d g' (Sp.nxt n) l = Sp.setU k seed) := hyes
        have hN : Hid (Sp.nxt n % k ∉ l → Sp.draw k d g' (Sp.nxt n) (l ++ [Sp.nxt n % k]) = Sp.setU k seed) := hno
        clear hyes hno hdr
        have hltm : (m.length : Int) < d := by omega
        have hl16m : m.length ≤ 16 := by omega
        have hl17 : l.length + 1 ≤ 16 := by omega
        clear hml hlt
        generalize hn2 : Sp.nxt n = n2 at *
        have hn2' : Hid (Sp.nxt n = n2) := hn2
        clear hn2
        generalize hr : n2 % k = r at *
        have hr' : Hid (n2 % k = r) := hr
        clear hr
        by_cases hmem : r ∈ l
        · have hmt : memI m r = true := by rw [memI_iff, hms.out, Sp.mem_isort]; exact hmem
          go_wp2_with fail
          refine (c_R_Next n _ (by omega) (by omega)).mono ?_
          rintro e w' ⟨rfl, rfl⟩
          rw [hn2'.out]
          go_wp2_with fail
          rw [hr'.out]
          refine (c_R_In _ m r _ (RowAt.of_owns hown)).mono ?_
          rintro e w' ⟨rfl, rfl⟩
          go_wp2_with fail
          go_roundg g'
          case rel => exact ⟨n2, l, m, e1, e2, hl16, hml'.out, hms, hY.out hmem, rfl, hown, hfr⟩
          case measure => omega
        · have hmt : memI m r = false := by rw [memI_no, hms.out, Sp.mem_isort]; exact hmem
          go_wp2_with fail
          refine (c_R_Next n _ (by omega) (by omega)).mono ?_
          rintro e w' ⟨rfl, rfl⟩
          rw [hn2'.out]
          go_wp2_with fail
          rw [hr'.out]
          refine (c_R_In _ m r _ (RowAt.of_owns hown)).mono ?_
          rintro e w' ⟨rfl, rfl⟩
          go_wp2_with fail
          rw [hr'.out]
          refine (c_R_Put _ m r _ (RowAt.of_owns hown) (by omega)).mono ?_
          rintro e w1 ⟨v1, rfl, hown1, hf1⟩
          go_wp2_with fail
          go_roundg g'
          case rel =>
            refine ⟨n2, l ++ [r], Sp.ins r m, e1, e2, by simp; omega, ?_, ?_, hN.out hmem, rfl, ?_, hfr.then_fresh hf1⟩
            · have := (Sp.ins_perm r m).length_eq; simp at this ⊢; rw [this, hml'.out]
            · unfold Hid; rw [Sp.isort_snoc, hms.out]
            · exact owns_low hown1 hfz
          case measure => omega
      · have hle := Sp.draw_stop hdr.out hlt
        have hle' : Hid (l = Sp.setU k seed) := hle
        have hlt' : ¬ (m.length : Int) < d := by omega
        clear hle hdr hlt hml
        go_wp2_with fail
        go_ret
        refine ⟨_, rfl, ?_, hfr⟩
        rw [hset.out, ← hle'.out, ← hms.out]
        exact hown
end Go.Proofs.YtnepdhkjammibaaDoor
