/- Contract: the document's peeler takes a drop. -/
import Derived.Test.YtnepdhkjammibaaDoorRPeel
import Derived.Deep.RegionLaw
set_option linter.unusedVariables false
set_option linter.unusedSimpArgs false
namespace Go.Proofs.YtnepdhkjammibaaDoor
open Go.RowKit

theorem Tryd.infoDrop : (Tryd.prog.info? 37).map (fun i => (i.zero, i.size, i.bytes)) = some (some (.agg #[.int .i64 0, .string ⟨#[]⟩]), 2, 24) := by kernel_rfl

/-- Drops, as memory has them. -/
def dcells (l : List (Int × ByteArray)) : List Value := l.flatMap fun d => [.int .i64 d.1, .string d.2]
theorem dcells_append (a b : List (Int × ByteArray)) : dcells (a ++ b) = dcells a ++ dcells b := by simp [dcells]
theorem dcells_length (l : List (Int × ByteArray)) : (dcells l).length = l.length * 2 := by
  induction l with
  | nil => rfl
  | cons t l ih => simp only [dcells, List.flatMap_cons, List.length_append, List.length_cons] at *; simp [ih]; omega
theorem dcells_at (l : List (Int × ByteArray)) (j : Nat) (d : Int × ByteArray) (h : l[j]? = some d) : (dcells l)[j * 2]? = some (.int .i64 d.1) ∧ (dcells l)[j * 2 + 1]? = some (.string d.2) := by
  induction l generalizing j with
  | nil => simp at h
  | cons u l ih =>
    simp only [dcells, List.flatMap_cons]
    cases j with
    | zero => simp at h; subst h; simp
    | succ j =>
      have := ih j (by simpa using h)
      rw [show (j + 1) * 2 = j * 2 + 1 + 1 by omega]
      simpa [dcells] using this
theorem RowAt.drop_at {w : World} {A : Option Addr} {n c : Nat} {l : List (Int × ByteArray)} (h : RowAt w (.slice A n c) n (dcells l)) (j : Nat) (hj : j < l.length) :
    ∃ b o s d, A = some ⟨b, o, none⟩ ∧ Hid (l[j]? = some (s, d)) ∧ w.cell? ⟨b, o + j * 2, none⟩ = some (.int .i64 s) ∧ w.cell? ⟨b, o + j * 2 + 1, none⟩ = some (.string d) := by
  obtain ⟨A', c', e, h1, h2, h3⟩ := h
  injection e with e1 e2 e3
  subst e1
  have hat := dcells_at l j l[j] (List.getElem?_eq_getElem hj)
  obtain ⟨b, o, rfl, hc⟩ := h3 (by intro e; rw [e] at hat; simp at hat)
  exact ⟨b, o, l[j].1, l[j].2, rfl, List.getElem?_eq_getElem hj, hc _ _ hat.1, by rw [Nat.add_assoc]; exact hc _ _ hat.2⟩

theorem drop_one (s : Int) (d : ByteArray) : ∀ u ∈ [Value.int .i64 s, Value.string d], u.oneCell' = true := by
  intro u hu; simp at hu; rcases hu with rfl | rfl <;> rfl

def rl (k : Int) (kn : Int → Bool) (d : Int × ByteArray) : List Int := rleft kn (Sp.setOf k d.1)
def rkeep (k : Int) (kn : Int → Bool) (L : List (Int × ByteArray)) : List (Int × ByteArray) := L.filter fun d => decide (0 < (rl k kn d).length)
def rsum (bs : Int → ByteArray) (x : Int) (S : List Int) (b : ByteArray) : ByteArray := S.foldl (fun b i => if i = x then b else bx b (bs i)) b
theorem rsum_snoc (bs : Int → ByteArray) (x : Int) (S : List Int) (y : Int) (b : ByteArray) : rsum bs x (S ++ [y]) b = if y = x then rsum bs x S b else bx (rsum bs x S b) (bs y) := by
  unfold rsum; rw [List.foldl_append]; rfl
def upd {α : Type} (f : Int → α) (x : Int) (a : α) : Int → α := fun i => if i = x then a else f i

/-- What taking comes to, by the document. -/
inductive RLearn (k : Int) : (Int → Bool) → (Int → ByteArray) → List (Int × ByteArray) → List Int → (Int → Bool) → (Int → ByteArray) → List (Int × ByteArray) → List Int → Prop
  | done {kn bs L out} (h : ∀ d ∈ rkeep k kn L, (rl k kn d).length ≠ 1) : RLearn k kn bs L out kn bs (rkeep k kn L) out
  | step {kn bs L out j s d x kn' bs' L' out'} (hj : (rkeep k kn L)[j]? = some (s, d)) (hx : rl k kn (s, d) = [x]) (hf : ∀ e ∈ (rkeep k kn L).take j, (rl k kn e).length ≠ 1)
      (h : RLearn k (upd kn x true) (upd bs x (rsum bs x (Sp.setOf k s) d)) (rkeep k kn L) (Sp.ins x out) kn' bs' L' out') : RLearn k kn bs L out kn' bs' L' out'

/-- All is in its bounds. -/
structure RSane (n : Nat) (kn : Int → Bool) (bs : Int → ByteArray) (L : List (Int × ByteArray)) : Prop where
  kn : ∀ i, kn i = true → (bs i).size = n
  of : ∀ d ∈ L, 1 ≤ d.1 ∧ d.1 ≤ 10000 ∧ d.2.size = n

def runk (k : Nat) (kn : Int → Bool) : Nat := ((List.range k).filter fun i : Nat => !kn i).length
theorem runk_upd {k : Nat} {kn : Int → Bool} {x : Nat} (h1 : x < k) (hn : kn x = false) : runk k (upd kn x true) < runk k kn := by
  unfold runk
  have : (List.range k).filter (fun i : Nat => !(upd kn x true i)) = ((List.range k).filter fun i : Nat => !kn i).filter (fun i => decide (i ≠ x)) := by
    rw [List.filter_filter]
    apply List.filter_congr
    intro i hi
    unfold upd
    by_cases e : i = x
    · subst e; simp
    · have : ¬ (i : Int) = x := by omega
      simp [this, e]
  rw [this]
  refine List.length_filter_lt_length_iff_exists.2 ⟨x, ?_, by simp⟩
  rw [List.mem_filter]; exact ⟨List.mem_range.2 h1, by simp [hn]⟩
theorem rkeep_len (k : Int) (kn : Int → Bool) (L : List (Int × ByteArray)) : (rkeep k kn L).length ≤ L.length := List.length_filter_le _ _
theorem RSane.keep {n : Nat} {kn : Int → Bool} {bs : Int → ByteArray} {L : List (Int × ByteArray)} (h : RSane n kn bs L) (k : Int) : RSane n kn bs (rkeep k kn L) := ⟨h.kn, fun d hd => h.of d (List.mem_filter.1 hd).1⟩
theorem rsum_size {n : Nat} {bs : Int → ByteArray} {x : Int} : ∀ (S : List Int) (b : ByteArray), (∀ i ∈ S, i ≠ x → (bs i).size = n) → b.size = n → (rsum bs x S b).size = n := by
  intro S
  induction S with
  | nil => intro b _ h; exact h
  | cons y S ih =>
    intro b hS hb
    unfold rsum at ih ⊢
    rw [List.foldl_cons]
    refine ih _ (fun i hi => hS i (List.mem_cons_of_mem _ hi)) ?_
    split
    · exact hb
    · rename_i hne
      rw [bx_size _ _ (by rw [hb, hS y (List.mem_cons_self ..) hne]; exact Nat.le_refl _)]; exact hb
theorem rl_known {k : Int} {kn : Int → Bool} {d : Int × ByteArray} {x i : Int} (h : rl k kn d = [x]) (hi : i ∈ Sp.setOf k d.1) (hne : i ≠ x) : kn i = true := by
  cases hk : kn i with
  | true => rfl
  | false =>
    have : i ∈ rl k kn d := List.mem_filter.2 ⟨hi, by simp [hk]⟩
    rw [h] at this; simp at this; exact absurd this hne
theorem rl_mem {k : Int} {kn : Int → Bool} {d : Int × ByteArray} {x : Int} (h : rl k kn d = [x]) : x ∈ Sp.setOf k d.1 ∧ kn x = false := by
  have : x ∈ rl k kn d := by rw [h]; simp
  have := List.mem_filter.1 this
  exact ⟨this.1, by simpa using this.2⟩
theorem RSane.put {n : Nat} {kn : Int → Bool} {bs : Int → ByteArray} {L : List (Int × ByteArray)} (h : RSane n kn bs L) {k x s : Int} {d : ByteArray} (hm : (s, d) ∈ L) (hx : rl k kn (s, d) = [x]) :
    RSane n (upd kn x true) (upd bs x (rsum bs x (Sp.setOf k s) d)) L := by
  refine ⟨fun i hi => ?_, h.of⟩
  unfold upd at hi ⊢
  by_cases e : i = x
  · rw [if_pos e]
    exact rsum_size _ _ (fun i hi hne => h.kn i (rl_known hx hi hne)) (h.of _ hm).2.2
  · rw [if_neg e] at hi ⊢; exact h.kn i hi

set_option maxHeartbeats 8000000 in
set_option maxRecDepth 100000 in
theorem c_R_Take (m k n : Nat) (kn : Int → Bool) (bs : Int → ByteArray) (vL vT : Value) (L : List (Int × ByteArray)) (taken : List Int) (seed : Int) (data : ByteArray) (w : World)
    (h : RCells w m k kn bs vL vT) (hL : w.ownsRow 0 37 2 vL L.length (dcells L)) (hT : w.ownsRow 0 3 1 vT taken.length (taken.map (.int .i64)))
    (k1 : 1 ≤ k) (k2 : k ≤ 16) (s1 : 1 ≤ seed) (s2 : seed ≤ 10000) (hds : data.size = n) (hn : n ≤ 1000) (hLl : L.length ≤ 100) (hTl : taken.length ≤ 100) (hsane : RSane n kn bs L) :
    Calls Tryd.prog 13 #[.pointer (some ⟨m, 0, none⟩), .agg #[.int .i64 seed, .string data]] w fun e w' => ∃ kn' bs' L' out' vo vL' vT', e = .returned vo ∧
      RLearn k kn bs (L ++ [(seed, data)]) [] kn' bs' L' out' ∧ w'.ownsRow w.heap.size 3 1 vo out'.length (out'.map (.int .i64)) ∧ RCells w' m k kn' bs' vL' vT' ∧
      w'.ownsRow 0 37 2 vL' L'.length (dcells L') ∧ w'.ownsRow 0 3 1 vT' (taken.length + 1) ((taken ++ [seed]).map (.int .i64)) ∧
      RSane n kn' bs' L' ∧ L'.length ≤ L.length + 1 ∧ Touch (fun i => i = m ∨ vL.ownBlock = some i ∨ vT.ownBlock = some i) w w' ∧
      (∀ i, vL'.ownBlock = some i → w.heap.size ≤ i) ∧ (∀ i, vT'.ownBlock = some i → vT.ownBlock = some i ∨ w.heap.size ≤ i) := by
  have h' := Lib.hid h
  have hL' := Lib.hid hL
  have hT' := Lib.hid hT
  have hs' := Lib.hid hsane
  have hml := h.lt
  have hml' : m < w.heap.size := hml
  have ne1 : m ≠ w.heap.size := by omega
  obtain ⟨cs, hty⟩ := h.ty
  have hLm : vL.ownBlock ≠ some m := owns_ne_cells hL hty (by decide)
  have hTm : vT.ownBlock ≠ some m := owns_ne_cells hT hty (by decide)
  have hLT : vL.ownBlock = none ∨ vL.ownBlock ≠ vT.ownBlock := owns_ne_row hL hT (by decide)
  have hfW : Fresh w (w.alloc (.cells #[.int .i64 seed, .string data] 37)) := (Touch.refl _ _).alloc _
  have hWb := heap_alloc_new w (.cells #[.int .i64 seed, .string data] 37)
  clear hsane hty h hL hT
  go_enter Tryd.func13, Tryd.ntmps13
  go_upto_region 1 with fail
  go_cut [] (fun wd => ∃ vL1, RCells wd m k kn bs vL1 vT ∧ wd.ownsRow 0 37 2 vL1 (L.length + 1) (dcells (L ++ [(seed, data)])) ∧ wd.heap[w.heap.size]? = some (.cells #[.int .i64 seed, .string data] 37) ∧ Touch (fun i => i = m ∨ vL.ownBlock = some i) w wd)
  case first =>
    -- FAST{
    generalize hWg : w.alloc (.cells #[.int .i64 seed, .string data] 37) = W at *
    have hR := Lib.hid (h'.out.fresh hfW)
    obtain ⟨b0, b1, _, _⟩ := cells2 hWb
    have q0 := hR.out.kl
    have f0 := hR.out.fz 33
    have q1 := (hR.out.fresh ((Touch.refl _ W).alloc (.cells #[.int .i64 seed, .string data] 37))).kl
    have hLW := Lib.hid (owns_fresh hL'.out hfW)
    have hWz : w.heap.size < W.heap.size := lt_of_block hWb
    have hWb' := Lib.hid hWb
    have hone := Lib.hid (drop_one seed data)
    have hLb : vL.ownBlock ≠ some w.heap.size := fun e => by have := (hL'.out.lt _ e).2; omega
    clear hWb hWg
    go_region_law
      (refine step_append rfl (.tmp 19) (.tmp 21) 22 rfl 0 37 (.agg #[.int .i64 0, .string ⟨#[]⟩]) 2 24 Tryd.underlying22 Tryd.infoDrop rfl (by decide) (by decide) vL L.length (dcells L) rfl _ 1 [.int .i64 seed, .string data] rfl ((owns_fresh hLW.out ((Touch.refl _ W).drew)).alloc _) (RowAt.boxed _ [.int .i64 seed, .string data] _ 1 _ rfl (by simp [maxLen])) rfl hone.out (by omega) (Nat.zero_le _) ?_
       intro v9 w9 hown9 hgr9 hat9
       obtain ⟨A9, c9, rfl, h9c, h9m⟩ := (RowAt.of_owns hown9).form
       have hT9 : Touch (fun i => vL.ownBlock = some i) W w9 := Touch.grown (((Touch.refl _ W).drew).alloc _) hgr9 (fun i hi _ => hi)
       have hR9 := Lib.hid (hR.out.touch hT9 hLm)
       have r0 := hR9.out.kl
       have r1 := hR9.out.fz 33)
    all_goals
      go_wp2_with fail
      go_meet
      case rel =>
        refine ⟨_, hR9.out.setL _, ?_, ?_, ?_⟩
        · rw [dcells_append]
          exact ownsRow_setCell_other hown9 (a := ⟨m, 33, none⟩) (by obtain ⟨cs, hb⟩ := hR9.out.ty; exact owns_ne_cells hown9 hb (by decide)) _
        · exact Touch.some (F := fun i => i = m ∨ vL.ownBlock = some i) ((hT9.mono (fun i _ h => .inr h)).setCell ⟨m, 33, none⟩ _ (fun _ => .inl rfl)) hWb'.out (fun h => h.elim (fun e => ne1 e.symm) hLb)
        · exact ((Touch.fresh hfW).trans (hT9.mono (G := fun i => i = m ∨ vL.ownBlock = some i) (fun i _ h => .inr h)) (fun i _ h => h)).setCell ⟨m, 33, none⟩ _ (fun _ => .inl rfl)
    -- }FAST
  case rest =>
    obtain ⟨vL1, hR, hown, hbx, hTt⟩ := hcut
    clear hWb hLm h'
    go_upto_region 2 with fail
    go_cut [] (fun wd => ∃ vT1, RCells wd m k kn bs vL1 vT1 ∧ wd.ownsRow 0 37 2 vL1 (L.length + 1) (dcells (L ++ [(seed, data)])) ∧ wd.ownsRow 0 3 1 vT1 (taken.length + 1) ((taken ++ [seed]).map (.int .i64)) ∧
      (∀ i, vT1.ownBlock = some i → vT.ownBlock = some i ∨ w.heap.size ≤ i) ∧ Touch (fun i => i = m ∨ vL.ownBlock = some i ∨ vT.ownBlock = some i) w wd)
    case first =>
      -- FAST{
      have hbx' := Lib.hid hbx
      obtain ⟨b0, b1, _, _⟩ := cells2 hbx
      have hR' := Lib.hid hR
      have q0 := hR.kt
      have f0 := hR.fz 34
      have q1 := (hR.fresh ((Touch.refl _ wc).alloc (.cells #[.int .i64 seed] 3))).kt
      have hTW := Lib.hid (owns_touch hT'.out hTt (fun i hi h => h.elim (fun e => hTm (by rw [hi, e])) (fun h => by
        rcases hLT with h2 | h2
        · rw [h2] at h; cases h
        · exact h2 (h.trans hi.symm))))
      have hown' := Lib.hid hown
      have hTt' := Lib.hid hTt
      clear hbx hR hown hTt b1
      go_region_law
        (refine step_append rfl (.tmp 29) (.tmp 32) 32 rfl 0 3 (.int .i64 0) 1 8 Tryd.underlying32 Tryd.infoInt rfl (by decide) (by decide) vT taken.length (taken.map (.int .i64)) rfl _ 1 [.int .i64 seed] rfl ((owns_fresh hTW.out ((Touch.refl _ wc).drew)).alloc _) (RowAt.boxed _ [.int .i64 seed] _ 1 _ rfl (by simp [maxLen])) rfl (ints_one .i64 [seed]) (by omega) (Nat.zero_le _) ?_
         intro v9 w9 hown9 hgr9 hat9
         obtain ⟨A9, c9, rfl, h9c, h9m⟩ := (RowAt.of_owns hown9).form
         have hT9 : Touch (fun i => vT.ownBlock = some i) wc w9 := Touch.grown (((Touch.refl _ wc).drew).alloc _) hgr9 (fun i hi _ => hi)
         have hR9 := Lib.hid (hR'.out.touch hT9 hTm)
         have r0 := hR9.out.kt
         have r1 := hR9.out.fz 34)
      all_goals
        go_wp2_with fail
        go_meet
        case rel =>
          refine ⟨_, hR9.out.setT _, ?_, ?_, ?_, ?_⟩
          · have h1 := owns_touch hown'.out hT9 (fun i hi h => by
              rcases owns_ne_row hown'.out hTW.out (by decide) with h2 | h2
              · rw [h2] at hi; cases hi
              · exact h2 (hi.trans h.symm))
            exact ownsRow_setCell_other h1 (a := ⟨m, 34, none⟩) (by obtain ⟨cs, hb⟩ := hR9.out.ty; exact owns_ne_cells h1 hb (by decide)) _
          · rw [List.map_append]
            exact ownsRow_setCell_other hown9 (a := ⟨m, 34, none⟩) (by obtain ⟨cs, hb⟩ := hR9.out.ty; exact owns_ne_cells hown9 hb (by decide)) _
          · intro i hi
            rcases hat9 with h | h
            · rw [h] at hi; exact .inl hi
            · rw [h] at hi; injection hi with hi; subst hi
              have := hTt'.out.size
              exact .inr (by simp; omega)
          · exact ((hTt'.out.mono (G := fun i => i = m ∨ vL.ownBlock = some i ∨ vT.ownBlock = some i) (fun i _ h => h.elim .inl (fun h => .inr (.inl h)))).trans hT9 (fun i _ h => .inr (.inr h))).setCell ⟨m, 34, none⟩ _ (fun _ => .inl rfl)
      -- }FAST
    case rest =>
      clear hbx hR hown hTt
      obtain ⟨vT1, hR, hown, hownT, hTb, hTt⟩ := hcut
      have hR2 := Lib.hid hR
      have hL2 := Lib.hid hown
      have hT2 := Lib.hid hownT
      have hTt2 := Lib.hid hTt
      have hTb2 := Lib.hid hTb
      have hLl1 : (L ++ [(seed, data)]).length ≤ 101 := by simp; omega
      have hsl : Hid (RSane n kn bs (L ++ [(seed, data)])) := ⟨hs'.out.kn, fun d hd => by
        rcases List.mem_append.1 hd with hd | hd
        · exact hs'.out.of d hd
        · simp at hd; subst hd; exact ⟨s1, s2, hds⟩⟩
      have hL1' : Hid (wc.ownsRow 0 37 2 vL1 (L ++ [(seed, data)]).length (dcells (L ++ [(seed, data)]))) := by unfold Hid; rw [List.length_append]; exact hown
      have hLz : Hid ((L ++ [(seed, data)]).length = L.length + 1) := by unfold Hid; simp
      have hwz := hTt.size
      clear hR hown hownT hTt hTb hTm hLT hfW hs' hL' hT' hL2
      generalize hL1e : L ++ [(seed, data)] = L1 at *
      have hL1q := Lib.hid hL1e
      clear hL1e
      obtain ⟨w2, hw2⟩ : ∃ w2 : World, w2 = wc := ⟨_, rfl⟩
      rw [← hw2] at hR2 hT2 hTt2 hL1' hwz
      have hw2' := Lib.hid hw2
      clear hw2
      go_wp2_with fail
      go_loopg [6, 5] (runk k kn + 1) (fun g s6 s5 wr => ∃ (knj : Int → Bool) (bsj : Int → ByteArray) (Lj : List (Int × ByteArray)) (outj : List Int) (vLj : Value) (ag : Bool), s6 = .bool ag ∧ Hid (g = if ag then runk k knj + 1 else 0) ∧
        (if ag then Hid (∀ a b c d, RLearn k knj bsj Lj outj a b c d → RLearn k kn bs L1 [] a b c d) else RLearn k kn bs L1 [] knj bsj Lj outj ∧ ∀ i, vLj.ownBlock = some i → w2.heap.size ≤ i) ∧
        RCells wr m k knj bsj vLj vT1 ∧ wr.ownsRow 0 37 2 vLj Lj.length (dcells Lj) ∧ Hid (RSane n knj bsj Lj) ∧ Lj.length ≤ L1.length ∧ outj.length + runk k knj ≤ 100 ∧
        wr.ownsRow w.heap.size 3 1 s5 outj.length (outj.map (.int .i64)) ∧ Touch (fun i => i = m) w2 wr)
      case atStart =>
        rw [← hw2'.out]
        refine ⟨kn, bs, L1, [], vL1, true, rfl, by unfold Hid; simp, by rw [if_pos rfl]; exact fun _ _ _ _ h => h, hR2.out, hL1'.out, hsl.out, Nat.le_refl _, ?_, World.ownsRow_nil _ _ _ _, Touch.refl _ _⟩
        have := List.length_filter_le (fun i : Nat => !kn i) (List.range k)
        unfold runk; simp at this ⊢; omega
      case round =>
        obtain ⟨knj, bsj, Lj, outj, vLj, ag, rfl, hg, hag, hR, hL, hs, hLlj, hol, hown, hfr⟩ := hrel
        obtain ⟨A5, c5, rfl, hc5, hm5⟩ := (RowAt.of_owns hown).form
        have hR' := Lib.hid hR
        have hL' := Lib.hid hL
        have hown' := Lib.hid hown
        have hwr := hfr.size
        cases ag with
        | false =>
          rw [if_neg (by simp)] at hag
          obtain ⟨hlearn, hnew⟩ := hag
          have hlearn' := Lib.hid hlearn
          have hnew' := Lib.hid hnew
          clear hR hL hown hlearn hnew
          go_wp2_with fail
          go_ret
          refine ⟨knj, bsj, Lj, outj, _, vLj, vT1, rfl, by rw [hL1q.out]; exact hlearn'.out, hown'.out, hR'.out, hL'.out, owns_touch hT2.out hfr (fun i hi h => by subst h; obtain ⟨cs, hb⟩ := hR2.out.ty; exact owns_ne_cells hT2.out hb (by decide) hi), hs.out, by rw [← hLz.out]; exact hLlj, ?_, fun i hi => Nat.le_trans hwz (hnew'.out i hi), hTb2.out⟩
          exact hTt2.out.trans hfr (fun i _ h => .inl h)
        | true =>
          rw [if_pos rfl] at hag hg
          obtain ⟨A3, c3, rfl, hc3, hm3⟩ := (RowAt.of_owns hL).form
          have p33 := hR.kl
          have hLl3 : Lj.length ≤ 101 := by omega
          obtain ⟨wo, hwo⟩ : ∃ wo : World, wo = wr := ⟨_, rfl⟩
          rw [← hwo] at hR' hL' hown' hfr hwr
          have hwo' := Lib.hid hwo
          have hfr' := Lib.hid hfr
          clear hR hL hown hwo hfr
          go_wp2_with fail
          go_loopg [8, 7] (Lj.length) (fun g s8 s7 wi => ∃ (j : Nat) (lj : List (Int × ByteArray)), j + g = Lj.length ∧ s8 = .int .i64 j ∧ Hid (lj = rkeep k knj (Lj.take j)) ∧ lj.length ≤ j ∧
              wi.ownsRow wo.heap.size 37 2 s7 lj.length (dcells lj) ∧ Fresh wo wi)
          case atStart => exact ⟨0, [], by simp, rfl, rfl, by simp, World.ownsRow_nil _ _ _ _, by rw [hwo'.out]; exact Touch.refl _ _⟩
          case round =>
            obtain ⟨j, lj, hj, rfl, hlj, hljl, hownl, hfi⟩ := hrel
            obtain ⟨A7, c7, rfl, hc7, hm7⟩ := (RowAt.of_owns hownl).form
            have hRi := Lib.hid (hR'.out.fresh hfi)
            have q33 := hRi.out.kl
            have hownl' := Lib.hid hownl
            have hfi' := Lib.hid hfi
            have hfiz := hfi.size
            clear hownl hfi
            by_cases hlt : j < Lj.length
            ·
              -- FAST{
              obtain ⟨b, o, s, d, rfl, hy, hcl0, hcl1⟩ := (RowAt.of_owns (owns_fresh hL'.out hfi'.out)).drop_at j hlt
              obtain ⟨o1, o2, o3⟩ := hs.out.of (s, d) (List.mem_of_getElem? hy.out)
              simp only at o1 o2 o3
              have htake : Hid (rkeep k knj (Lj.take (j + 1)) = rkeep k knj (Lj.take j) ++ (if 0 < (rl k knj (s, d)).length then [(s, d)] else [])) := by
                unfold Hid rkeep; rw [List.take_add_one, hy.out, List.filter_append]
                by_cases h : 0 < (rl k knj (s, d)).length <;> simp [h]
              have hcall := Lib.hid (c_R_Left m k knj bsj _ vT1 s d wr hRi.out (by omega) (by omega) o1 o2)
              have hrl : Hid (rl k knj (s, d) = rleft knj (Sp.setOf k s)) := rfl
              have hrle : (rl k knj (s, d)).length ≤ 1000 := Nat.le_trans (List.length_filter_le _ _) (by have := (setOf_good (k := k) (seed := s) (by omega) (by omega) o1 o2).2.2.1; simp only; omega)
              rw [← hrl.out] at hcall
              generalize hX : rl k knj (s, d) = X at *
              have hX' := Lib.hid hX
              clear hX hrl
              have hdrop := Lib.hid (drop_one s d)
              clear p33 o3
              go_wp2_with fail
              refine hcall.out.mono ?_
              rintro e w3 ⟨vx, rfl, hownx, hf3⟩
              obtain ⟨A9, c9, rfl, hc9, hm9⟩ := (RowAt.of_owns hownx).form
              have r33 := (hRi.out.fresh hf3).kl
              have r0 := (hf3.cell (block_lt_of_cell hcl0) id).trans hcl0
              have r1 := (hf3.cell (block_lt_of_cell hcl1) id).trans hcl1
              clear hcl0 hcl1 hcall q33
              have hTi : Fresh wr w3 := hf3
              by_cases hpos : (0 : Int) < X.length
              · go_wp2_with (at_builtin; refine Halt.out ?_)
                refine ⟨?_⟩
                refine wl_append rfl _ _ 22 rfl wo.heap.size 37 (.agg #[.int .i64 0, .string ⟨#[]⟩]) 2 24 Tryd.underlying22 Tryd.infoDrop rfl (by decide) (by decide) _ lj.length (dcells lj) rfl _ 1 [.int .i64 s, .string d] rfl ((owns_fresh hownl'.out hf3).alloc _)
                  (RowAt.boxed _ [.int .i64 s, .string d] _ 1 _ rfl (by simp [maxLen])) rfl hdrop.out (by omega) (by have := hf3.size; simp; omega) ?_
                intro v1 w1 hown1 hgr1 hat1
                have hf1 : Fresh wo w1 := Fresh.append ((hfi'.out.then_fresh hf3).alloc _) ((owns_fresh hownl'.out hf3).alloc _) (Nat.le_refl _) hgr1
                clear r33 r0 r1
                go_wp2_with fail
                go_roundg (Lj.length - (j + 1))
                case rel =>
                  refine ⟨j + 1, lj ++ [(s, d)], by omega, by go_num, ?_, by simp; omega, ?_, hf1⟩
                  · unfold Hid
                    rw [htake.out, if_pos (by omega), hlj.out]
                  · rw [dcells_append, List.length_append]; exact hown1
                case measure => omega
              · go_wp2_with fail
                go_roundg (Lj.length - (j + 1))
                case rel =>
                  refine ⟨j + 1, lj, by omega, by go_num, ?_, by omega, owns_fresh hownl'.out hf3, hfi'.out.then_fresh hf3⟩
                  unfold Hid
                  rw [htake.out, if_neg (by omega), List.append_nil, hlj.out]
                case measure => omega
              -- }FAST
            · have hall : Hid (lj = rkeep k knj Lj) := by
                have := hlj.out; rwa [List.take_of_length_le (by omega)] at this
              have f33 := hRi.out.fz 33
              have hljl2 : lj.length ≤ 101 := by omega
              have hT1 : Touch (fun i => i = m) wr (wr.setCell ⟨m, 33, none⟩ (.slice A7 lj.length c7)) := (Touch.refl _ _).setCell ⟨m, 33, none⟩ _ (fun _ => rfl)
              have R1 := Lib.hid (hRi.out.setL (.slice A7 lj.length c7))
              have L1' := Lib.hid (ownsRow_setCell_other hownl'.out (a := ⟨m, 33, none⟩) (by obtain ⟨cs, hb⟩ := hRi.out.ty; exact owns_ne_cells hownl'.out hb (by decide)) (.slice A7 lj.length c7))
              have O0 := owns_fresh hown'.out hfi'.out
              have O1 := Lib.hid (ownsRow_setCell_other O0 (a := ⟨m, 33, none⟩) (by obtain ⟨cs, hb⟩ := hRi.out.ty; exact owns_ne_cells O0 hb (by decide)) (.slice A7 lj.length c7))
              have hTT := Lib.hid ((hfr'.out.then_fresh hfi'.out).trans hT1 (fun _ _ h => h))
              have hs1 : Hid (RSane n knj bsj lj) := by rw [hall.out]; exact hs.out.keep k
              clear O0 hT1
              go_wp2_with fail
              have hW1z : w.heap.size ≤ (wr.setCell ⟨m, 33, none⟩ (.slice A7 lj.length c7)).heap.size := Nat.le_trans hwz hTT.out.size
              have hT3 : Hid (∀ i, (Value.slice A7 lj.length c7).ownBlock = some i → w2.heap.size ≤ i) := fun i hi => Nat.le_trans hwr (L1'.out.lt i hi).1
              clear p33 q33 f33 hRi hownl' hfi' hR' hL' hown' hlj hfiz
              generalize wr.setCell ⟨m, 33, none⟩ (.slice A7 lj.length c7) = W1 at *
              go_loopg [10, 6, 5] (lj.length + 1) (fun g s10 s6 s5 wi => (∃ j : Nat, j + g = lj.length + 1 ∧ j ≤ lj.length ∧ s10 = .int .i64 j ∧ s6 = .bool false ∧ s5 = .slice A5 outj.length c5 ∧ Hid (∀ e ∈ lj.take j, (rl k knj e).length ≠ 1) ∧ Fresh W1 wi) ∨
                (∃ (j : Nat) (s : Int) (d : ByteArray) (x : Int), g = 0 ∧ j < lj.length ∧ s10 = .int .i64 (j + 1 : Nat) ∧ s6 = .bool true ∧ Hid (lj[j]? = some (s, d)) ∧ Hid (rl k knj (s, d) = [x]) ∧ Hid (∀ e ∈ lj.take j, (rl k knj e).length ≠ 1) ∧
                  RCells wi m k (upd knj x true) (upd bsj x (rsum bsj x (Sp.setOf k s) d)) (.slice A7 lj.length c7) vT1 ∧ wi.ownsRow w.heap.size 3 1 s5 (Sp.ins x outj).length ((Sp.ins x outj).map (.int .i64)) ∧ Touch (fun i => i = m) W1 wi))
              case atStart => exact .inl ⟨0, by simp, by omega, rfl, rfl, rfl, by simp [Hid], Touch.refl _ _⟩
              case round =>
                rcases hrel with ⟨j2, hj2, hj2l, rfl, rfl, rfl, hnone, hfi⟩ | ⟨j2, s, d, x, rfl, hj2l, rfl, rfl, hat, hx, hnone, hRx, hown, hfi⟩
                · by_cases hlt : j2 < lj.length
                  · obtain ⟨b, o, s, d, rfl, hy, hcl0, hcl1⟩ := (RowAt.of_owns (owns_fresh L1'.out hfi)).drop_at j2 hlt
                    obtain ⟨o1, o2, o3⟩ := hs1.out.of (s, d) (List.mem_of_getElem? hy.out)
                    simp only at o1 o2 o3
                    have hRi := Lib.hid (R1.out.fresh hfi)
                    have hcall := Lib.hid (c_R_Left m k knj bsj _ vT1 s d wr hRi.out (by omega) (by omega) o1 o2)
                    have hrl : Hid (rl k knj (s, d) = rleft knj (Sp.setOf k s)) := rfl
                    have hrle : (rl k knj (s, d)).length ≤ 1000 := Nat.le_trans (List.length_filter_le _ _) (by have := (setOf_good (k := k) (seed := s) (by omega) (by omega) o1 o2).2.2.1; simp only; omega)
                    rw [← hrl.out] at hcall
                    generalize hX : rl k knj (s, d) = X at *
                    have hX' := Lib.hid hX
                    have hlt' : (j2 : Int) < (lj.length : Nat) := by omega
                    have hfi3 := Lib.hid hfi
                    have o3' := Lib.hid o3
                    have htk : Hid (lj.take (j2 + 1) = lj.take j2 ++ [(s, d)]) := by unfold Hid; rw [List.take_add_one, hy.out]; rfl
                    clear hX hrl hfi o3
                    go_wp2_with fail
                    refine hcall.out.mono ?_
                    rintro e w3 ⟨vx, rfl, hownx, hf3⟩
                    obtain ⟨A9, c9, rfl, hc9, hm9⟩ := (RowAt.of_owns hownx).form
                    have r0 := (hf3.cell (block_lt_of_cell hcl0) id).trans hcl0
                    have r1 := (hf3.cell (block_lt_of_cell hcl1) id).trans hcl1
                    have hRi3 := Lib.hid (hRi.out.fresh hf3)
                    have hf3' := Lib.hid (hfi3.out.then_fresh hf3)
                    clear hcl0 hcl1 hcall hf3
                    by_cases hone : X.length = 1
                    · obtain ⟨x, rfl⟩ : ∃ x, X = [x] := by
                        match X, hone with
                        | [x], _ => exact ⟨x, rfl⟩
                      obtain ⟨bx1, ox1, x', hAx, hx', hclx⟩ := (RowAt.of_owns hownx).int_at 0 (by simp)
                      obtain rfl : x = x' := by have := hx'.out; simpa using this
                      subst hAx
                      rw [Nat.add_zero] at hclx
                      have p0 := hRi3.out.k0
                      have hxw := Lib.hid hownx
                      clear hone hx' hownx
                      go_upto_region 21 with fail
                      go_cut [13] (fun s13 wc => wc.ownsRow w3.heap.size 3 1 s13 (Sp.setOf k s).length ((Sp.setOf k s).map (.int .i64)) ∧ Fresh w3 wc)
                      case first =>
                        -- FAST{
                        go_region_held3 (fun w' => w'.cell? ⟨m, 0, none⟩ = some (.int .i64 k) ∧ w'.cell? ⟨b, o + j2 * 2, none⟩ = some (.int .i64 s))
                          (first | with_reducible exact ⟨p0, r0⟩ | with_reducible exact ⟨t0, t1⟩ | go_keep)
                          ((go_at_call 36; refine (c_R_Set k s _ (by omega) (by omega) o1 o2).mono ?_; rintro e w4 ⟨vs, rfl, hownS, hf4⟩; have t0 := (hf4.cell (p := ⟨m, 0, none⟩) (block_lt_of_cell p0) id).trans p0; have t1 := (hf4.cell (p := ⟨b, o + j2 * 2, none⟩) (block_lt_of_cell r0) id).trans r0))
                        all_goals
                          go_wp2_with fail
                          go_meet
                          case rel => exact ⟨hownS, ((Touch.refl _ w3).drew).then_fresh hf4⟩
                        -- }FAST
                      case rest =>
                        obtain ⟨hownS, hf4⟩ := hcut
                        obtain ⟨A13, c13, rfl, hc13, hm13⟩ := (RowAt.of_owns hownS).form
                        obtain ⟨g1, g2, g3, _⟩ := setOf_good (k := k) (seed := s) (by omega) (by omega) o1 o2
                        have hSr := Lib.hid (RowAt.of_owns hownS)
                        have hRi4 := Lib.hid (hRi3.out.fresh hf4)
                        have hx4 := Lib.hid (RowAt.of_owns (owns_fresh hxw.out hf4))
                        have clx4 := Lib.hid ((hf4.cell (block_lt_of_cell hclx) id).trans hclx)
                        have hf4' := Lib.hid (hf3'.out.then_fresh hf4)
                        have g2' := Lib.hid g2
                        have hkn : Hid (∀ i ∈ Sp.setOf k s, i ≠ x → (bsj i).size = n) := fun i hi hne => hs.out.kn i (rl_known (d := (s, d)) hX'.out hi hne)
                        obtain ⟨hxm, hxn⟩ := rl_mem hX'.out
                        simp only at hxm
                        have hxr := g2 x hxm
                        have hxn' := Lib.hid hxn
                        clear p0 r0 r1 hclx hownS hf4 g1 g2 hxn
                        generalize hS : Sp.setOf k s = S at *
                        have hS' := Lib.hid hS
                        clear hS
                        go_wp2_with fail
                        go_loopg [14, 12] (S.length) (fun g s14 s12 wi => ∃ i : Nat, i + g = S.length ∧ s14 = .int .i64 i ∧ s12 = .string (rsum bsj x (S.take i) d) ∧ Fresh wc wi)
                        case atStart => exact ⟨0, by simp, rfl, rfl, Touch.refl _ _⟩
                        case round =>
                          obtain ⟨i, hi, rfl, rfl, hfi5⟩ := hrel
                          have hR5 := Lib.hid (hRi4.out.fresh hfi5)
                          have hxc := (hfi5.cell (block_lt_of_cell clx4.out) id).trans clx4.out
                          have hfi6 := Lib.hid hfi5
                          by_cases hlti : i < S.length
                          ·
                            -- FAST{
                            obtain ⟨b5, o5, y, rfl, hy5, hcl5⟩ := (hSr.out.fresh hfi5).int_at i hlti
                            have hym := List.mem_of_getElem? hy5.out
                            obtain ⟨y0, yk⟩ := g2'.out y hym
                            obtain ⟨y, rfl⟩ := Int.eq_ofNat_of_zero_le y0
                            have y16 : (y : Int) < 16 := by omega
                            have y16n : y < 16 := by omega
                            have hkb := hR5.out.kb y y16n
                            have htk5 : Hid (rsum bsj x (S.take (i + 1)) d = if (y : Int) = x then rsum bsj x (S.take i) d else bx (rsum bsj x (S.take i) d) (bsj y)) := by
                              unfold Hid; rw [List.take_add_one, hy5.out]; exact rsum_snoc _ _ _ _ _
                            clear hfi5
                            by_cases hyx : (y : Int) = x
                            · have hq : ((y : Int) == x) = true := by simpa using hyx
                              have hyx' := Lib.hid hyx
                              clear hyx
                              go_wp2_with fail
                              go_region
                              go_wp2_with fail
                              go_roundg (S.length - (i + 1))
                              case rel =>
                                refine ⟨i + 1, by omega, by go_num, ?_, hfi6.out.drew⟩
                                rw [htk5.out, if_pos hyx'.out]
                              case measure => omega
                            · have hq : ((y : Int) == x) = false := by simpa using hyx
                              have hb1 := hkn.out y hym hyx
                              have hb2 : (rsum bsj x (S.take i) d).size = n := rsum_size _ _ (fun i hi hne => hkn.out i (List.mem_of_mem_take hi) hne) o3'.out
                              have htk6 := htk5.out
                              rw [if_neg hyx] at htk6
                              have hxor := Lib.hid (fun W => c_R_Xor (rsum bsj x (S.take i) d) (bsj y) W (by omega) (by omega))
                              have htk7 := Lib.hid htk6
                              clear hyx hb1 hb2 htk5 htk6
                              generalize rsum bsj x (S.take i) d = B at *
                              generalize bsj y = C at *
                              go_wp2_with fail
                              go_region
                              go_upto_region 26 with fail
                              go_region_held3 (fun w' => w'.cell? ⟨b5, o5 + i, none⟩ = some (.int .i64 y) ∧ w'.cell? ⟨m, 17 + y, none⟩ = some (.string C))
                                (first | with_reducible exact ⟨hcl5, hkb⟩ | with_reducible exact ⟨t0, t1⟩ | go_keep)
                                ((go_at_call 37; refine (hxor.out _).mono ?_; rintro e w6 ⟨rfl, hf6⟩; have t0 := (hf6.cell (p := ⟨b5, o5 + i, none⟩) (block_lt_of_cell hcl5) id).trans hcl5; have t1 := (hf6.cell (p := ⟨m, 17 + y, none⟩) (block_lt_of_cell hkb) id).trans hkb))
                              all_goals
                                go_wp2_with fail
                                go_roundg (S.length - (i + 1))
                                case rel =>
                                  refine ⟨i + 1, by omega, by go_num, ?_, (hfi6.out.drew.drew).then_fresh hf6⟩
                                  rw [htk7.out]
                                case measure => omega
                            -- }FAST
                          · obtain ⟨hx0, hxk⟩ := hxr
                            obtain ⟨x, rfl⟩ := Int.eq_ofNat_of_zero_le hx0
                            have x16 : (x : Int) < 16 := by omega
                            have x16n : x < 16 := by omega
                            have hkk := hR5.out.kk x x16n
                            have hfzk := hR5.out.fz (1 + x)
                            have hall5 : Hid (S.take i = S) := List.take_of_length_le (by omega)
                            clear hfi5
                            have hbm : bx1 ≠ m := fun e => by
                              obtain ⟨cs, hb⟩ := hRi3.out.ty
                              exact owns_ne_cells hxw.out hb (by decide) (by rw [← e]; rfl)
                            have hD : Hid (rsum bsj x (S.take i) d = rsum bsj x (Sp.setOf k s) d) := by unfold Hid; rw [hall5.out, hS'.out]
                            have R6 := Lib.hid (hR5.out.setK x x16n true)
                            have xc6 := cell_set_ne (a := ⟨m, 1 + x, none⟩) (u := .bool true) hxc (fun e => hbm (by injection e with e1; exact e1.symm))
                            have T6 : Hid (Touch (fun i => i = m) wr (wr.setCell ⟨m, 1 + x, none⟩ (.bool true))) := (Touch.refl _ _).setCell ⟨m, 1 + x, none⟩ _ (fun _ => rfl)
                            have kb6 := R6.out.kb x x16n
                            have fz6 := R6.out.fz (17 + x)
                            have hlt3 : outj.length ≤ 1000 := by omega
                            go_wp2_with fail
                            go_region
                            clear hkk hfzk hxc
                            generalize wr.setCell ⟨m, 1 + x, none⟩ (.bool true) = W5 at *
                            generalize rsum bsj x (S.take i) d = D at *
                            go_wp2_with fail
                            go_region
                            have R7 := Lib.hid (R6.out.setB x x16n D)
                            have xc7 := cell_set_ne (a := ⟨m, 17 + x, none⟩) (u := .string D) xc6 (fun e => hbm (by injection e with e1; exact e1.symm))
                            have T7 : Hid (Touch (fun i => i = m) W5 (W5.setCell ⟨m, 17 + x, none⟩ (.string D))) := (Touch.refl _ _).setCell ⟨m, 17 + x, none⟩ _ (fun _ => rfl)
                            clear kb6 fz6 xc6
                            generalize W5.setCell ⟨m, 17 + x, none⟩ (.string D) = W7 at *
                            have T8 : Hid (Touch (fun i => i = m) W1 W7) := ((Touch.fresh (hf4'.out.then_fresh hfi6.out)).trans T6.out (fun _ _ h => h)).trans T7.out (fun _ _ h => h)
                            have O7 := Lib.hid (owns_touch O1.out T8.out (fun i hi h => by subst h; obtain ⟨cs, hb⟩ := R1.out.ty; exact owns_ne_cells O1.out hb (by decide) hi))
                            go_wp2_with fail
                            refine (c_R_Put _ outj x _ (RowAt.of_owns (owns_fresh O7.out (((Touch.refl _ W7).drew).drew))) hlt3).mono ?_
                            rintro e w8 ⟨vo, rfl, hown8, hf8⟩
                            have hown8' := Lib.hid hown8
                            clear hown8
                            go_wp2_with fail
                            go_roundg 0
                            case rel =>
                              refine .inr ⟨j2, s, d, x, rfl, hlt, by go_num, rfl, hy, hX', hnone, ?_, owns_low hown8'.out ?_, ?_⟩
                              · rw [← hD.out]
                                exact R7.out.fresh ((((Touch.refl _ W7).drew).drew).then_fresh hf8)
                              · have := T8.out.size; simp; omega
                              · exact (T8.out.drew.drew).then_fresh hf8
                            case measure => omega
                    ·
                      -- FAST{
                      have hne : ((X.length : Int) == 1) = false := by simp; omega
                      have hone' := Lib.hid hone
                      clear hone
                      go_wp2_with fail
                      go_roundg (lj.length - j2)
                      case rel =>
                        refine .inl ⟨j2 + 1, by omega, by omega, by go_num, rfl, rfl, ?_, hf3'.out⟩
                        intro e he
                        rw [htk.out] at he
                        rcases List.mem_append.1 he with he | he
                        · exact hnone.out e he
                        · simp at he; subst he; rw [hX'.out]; exact hone'.out
                      case measure => omega
                      -- }FAST
                  ·
                    -- FAST{
                    have hnot : ((j2 : Int) < (lj.length : Nat)) = False := by simp; omega
                    have hall2 : Hid (∀ e ∈ rkeep k knj Lj, (rl k knj e).length ≠ 1) := by
                      have := hnone.out; rw [List.take_of_length_le (by omega), hall.out] at this; exact this
                    go_wp2_with fail
                    go_roundg 0
                    case rel =>
                      refine ⟨knj, bsj, lj, outj, .slice A7 lj.length c7, false, rfl, by unfold Hid; simp, ?_, R1.out.fresh hfi, owns_low (owns_fresh L1'.out hfi) (Nat.zero_le _), hs1.out, ?_, hol, owns_fresh O1.out hfi, (hTT.out.then_fresh hfi)⟩
                      · rw [if_neg (by simp)]
                        refine ⟨hag.out _ _ _ _ ?_, hT3.out⟩
                        rw [hall.out]
                        exact RLearn.done hall2.out
                      · have := rkeep_len k knj Lj; rw [← hall.out] at this; omega
                    case measure => have := hg.out; omega
                    -- }FAST
                ·
                  -- FAST{
                  obtain ⟨hxm, hxn⟩ := rl_mem hx.out
                  have hso := hs1.out.of (s, d) (List.mem_of_getElem? hat.out)
                  obtain ⟨hx0, hxk⟩ := (setOf_good (k := k) (seed := s) (by omega) (by omega) hso.1 hso.2.1).2.1 x hxm
                  have hput := Lib.hid (RSane.put hs1.out (List.mem_of_getElem? hat.out) hx.out)
                  have hlen : (Sp.ins x outj).length = outj.length + 1 := (Sp.ins_perm x outj).length_eq
                  have hdec : runk k (upd knj x true) < runk k knj := by
                    obtain ⟨y, rfl⟩ := Int.eq_ofNat_of_zero_le hx0
                    exact runk_upd (by omega) hxn
                  have hl' := Lib.hid (owns_touch L1'.out hfi (fun i hi h => by subst h; obtain ⟨cs, hb⟩ := R1.out.ty; exact owns_ne_cells L1'.out hb (by decide) hi))
                  have hRx' := Lib.hid hRx
                  have hown3 := Lib.hid hown
                  have hfi3 := Lib.hid hfi
                  have hlen' := Lib.hid hlen
                  have hdec' := Lib.hid hdec
                  clear hxm hxn hso hx0 hxk hRx hown hfi hlen hdec
                  by_cases hlt : ((j2 + 1 : Nat) : Int) < (lj.length : Nat)
                  all_goals
                    go_wp2_with fail
                    go_roundg (runk k (upd knj x true) + 1)
                    case rel =>
                      refine ⟨_, _, lj, Sp.ins x outj, .slice A7 lj.length c7, true, rfl, by unfold Hid; rw [if_pos rfl], ?_, hRx'.out, owns_low hl'.out (Nat.zero_le _), hput.out, ?_, ?_, hown3.out, hTT.out.trans hfi3.out (fun _ _ h => h)⟩
                      · rw [if_pos rfl]
                        intro a b c e hl
                        refine hag.out a b c e ?_
                        rw [hall.out] at hat hnone
                        exact RLearn.step hat.out hx.out hnone.out (by rw [← hall.out]; exact hl)
                      · have := rkeep_len k knj Lj; rw [← hall.out] at this; omega
                      · have h1 := hlen'.out; have h2 := hdec'.out; omega
                    case measure => have h1 := hg.out; have h2 := hdec'.out; omega
                  -- }FAST
end Go.Proofs.YtnepdhkjammibaaDoor
