/- Contract: (*Peeler).learn. -/
import Derived.Test.YtnepdhkjammibaaDoorLearn
import Derived.Deep.QuietTactic
set_option linter.unusedVariables false
set_option linter.unusedSimpArgs false
namespace Go.Proofs.YtnepdhkjammibaaDoor
open Go.RowKit

theorem Tryd.infoWaiting : (Tryd.prog.info? 80).map (fun i => (i.zero, i.size, i.bytes)) = some (some (.agg #[.slice none 0 0, .string ⟨#[]⟩]), 2, 40) := by kernel_rfl

/-- The waiting ones' own slices. -/
def Wheld (w : World) (base : Nat) (ws : List Wt) : Prop := ∀ t ∈ ws, w.ownsRow base 3 1 t.vo t.of.length (t.of.map (.int .i64))
theorem Wheld.touch {F : Nat → Prop} {w w' : World} {base : Nat} {ws : List Wt} (h : Wheld w base ws) (ht : Touch F w w') (hs : ∀ t ∈ ws, Safe F t.vo) : Wheld w' base ws := fun t hm => owns_touch (h t hm) ht (hs t hm)
theorem Wheld.fresh {w w' : World} {base : Nat} {ws : List Wt} (h : Wheld w base ws) (ht : Fresh w w') : Wheld w' base ws := fun t hm => owns_fresh (h t hm) ht
theorem Wheld.low {w : World} {base base' : Nat} {ws : List Wt} (h : Wheld w base ws) (hb : base' ≤ base) : Wheld w base' ws := fun t hm => owns_low (h t hm) hb
theorem Wheld.formed {w : World} {base : Nat} {ws : List Wt} (h : Wheld w base ws) : Wformed ws := fun t hm => by
  obtain ⟨A, c, e, _⟩ := (RowAt.of_owns (h t hm)).form
  exact ⟨A, c, e⟩
theorem wcells_one (ws : List Wt) {w : World} {base : Nat} (h : Wheld w base ws) : ∀ u ∈ wcells ws, u.oneCell' = true := by
  intro u hu
  obtain ⟨t, ht, hu⟩ := List.mem_flatMap.1 hu
  obtain ⟨A, c, e⟩ := h.formed t ht
  simp only [Wt.cells, e, List.mem_cons, List.mem_nil_iff, or_false] at hu
  rcases hu with rfl | rfl <;> rfl

/-- What the peeler's block holds. -/
def pcells (k size : Int) (bk bt : Nat) (v : Value) : Obj := .cells #[.int .i64 k, .int .i64 size, .map (some bk), .map (some bt), v] 73 (0, 0)

theorem idxP_cases {α : Type} (l : List α) (p : α → Bool) : (idxP l p = -1 ∧ ∀ x ∈ l, p x = false) ∨ ∃ j x, l[j]? = some x ∧ p x = true ∧ (∀ y ∈ l.take j, p y = false) ∧ idxP l p = (j : Nat) := by
  cases h : l.findIdx? p with
  | none => left; rw [List.findIdx?_eq_none_iff] at h; exact ⟨idxP_none h, h⟩
  | some j =>
    right
    have h' := h
    rw [List.findIdx?_eq_some_iff_getElem] at h'
    obtain ⟨h1, h2, h3⟩ := h'
    refine ⟨j, l[j], List.getElem?_eq_getElem h1, h2, fun y hy => ?_, by simp [idxP, h]⟩
    obtain ⟨i, hi, rfl⟩ := List.mem_take_iff_getElem.1 hy
    have := h3 i (by omega)
    simpa using this
theorem strip_at {ws : List Wt} {j : Nat} {t : Wt} (h : ws[j]? = some t) : (strip ws)[j]? = some (t.of, t.d) := by simp [strip, h]
theorem strip_take (ws : List Wt) (j : Nat) : (strip ws).take j = strip (ws.take j) := by simp [strip, List.map_take]

set_option maxHeartbeats 4000000 in
set_option maxRecDepth 100000 in
theorem c_learn (p bk bt : Nat) (k n : Nat) (size : Int) (v : Value) (known : List (Int × ByteArray)) (ws : List Wt) (w : World)
    (hp : w.heap[p]? = some (pcells k size bk bt v)) (hm : MapAt w .i64 bk (strMap known)) (hv : w.ownsRow 0 80 2 v ws.length (wcells ws)) (hw : Wheld w 0 ws)
    (hsane : Sane k n known (strip ws)) (hn : n ≤ 1000) (hws : ws.length ≤ 1000) (hk : k ≤ 1000) :
    Calls Tryd.prog 41 #[.pointer (some ⟨p, 0, none⟩)] w fun e w' => ∃ known' ws' out' v' vo, e = .returned vo ∧ Learn known (strip ws) [] known' (strip ws') out' ∧
      w'.ownsRow w.heap.size 3 1 vo out'.length (out'.map (.int .i64)) ∧ w'.heap[p]? = some (pcells k size bk bt v') ∧ MapAt w' .i64 bk (strMap known') ∧
      w'.ownsRow w.heap.size 80 2 v' ws'.length (wcells ws') ∧ Wheld w' w.heap.size ws' ∧ Sane k n known' (strip ws') ∧ ws'.length ≤ ws.length ∧ Touch (fun i => i = p ∨ i = bk) w w' := by
  have hbkp : bk ≠ p := hm.ne_cells hp
  unfold pcells at hp
  have hp' := Lib.hid hp
  have hm' := Lib.hid hm
  have hv' := Lib.hid hv
  have hw' := Lib.hid hw
  have hs' := Lib.hid hsane
  have hpl := lt_of_block hp
  have hbl := hm.lt
  clear hp hm hv hw hsane
  go_enter Tryd.func41, Tryd.ntmps41
  go_wp2_with fail
  go_loopg [3] (unknown k known + 1) (fun g s3 wr => ∃ (knj : List (Int × ByteArray)) (wsj : List Wt) (outj : List Int) (vj : Value), g = unknown k knj + 1 ∧
      Hid (∀ a b c, Learn knj (strip wsj) outj a b c → Learn known (strip ws) [] a b c) ∧ wr.heap[p]? = some (.cells #[.int .i64 k, .int .i64 size, .map (some bk), .map (some bt), vj] 73 (0, 0)) ∧
      MapAt wr .i64 bk (strMap knj) ∧ wr.ownsRow 0 80 2 vj wsj.length (wcells wsj) ∧ Wheld wr 0 wsj ∧ Hid (Sane k n knj (strip wsj)) ∧ wsj.length ≤ ws.length ∧
      outj.length + unknown k knj ≤ 1000 ∧ wr.ownsRow w.heap.size 3 1 s3 outj.length (outj.map (.int .i64)) ∧ Touch (fun i => i = p ∨ i = bk) w wr)
  case atStart =>
    refine ⟨known, ws, [], v, rfl, fun _ _ _ h => h, hp'.out, hm'.out, hv'.out, hw'.out, hs'.out, Nat.le_refl _, ?_, World.ownsRow_nil _ _ _ _, Touch.refl _ _⟩
    have := List.length_filter_le (fun i : Nat => (aget known (i : Int)).isNone) (List.range k)
    unfold unknown; simp at this ⊢; omega
  case round =>
    obtain ⟨knj, wsj, outj, vj, rfl, hL, hpj, hmj, hvj, hwj, hsj, hwl, hol, hown, hfr⟩ := hrel
    obtain ⟨Av, cv, rfl, hcv, hmv⟩ := (RowAt.of_owns hvj).form
    obtain ⟨wo, rfl⟩ : ∃ wo : World, wo = wr := ⟨_, rfl⟩
    obtain ⟨p0, p1, p2, p3, p4⟩ := cells5 hpj
    have hpj' := Lib.hid hpj
    have hmj' := Lib.hid hmj
    have hvj' := Lib.hid hvj
    have hwj' := Lib.hid hwj
    have hfz := hfr.size
    have hpl2 := lt_of_block hpj
    have hbl2 := hmj.lt
    have hu3lt : Hid (∀ i, u3.ownBlock = some i → i < wo.heap.size) := fun i hi => (hown.lt i hi).2
    clear hpj hmj hvj hwj
    go_wp2_with fail
    clear p0 p1 p2 p3 p4
    go_loopg [4, 13] (wsj.length) (fun g s4 s13 w2 => ∃ (j : Nat) (lj : List Wt), j + g = wsj.length ∧ s13 = .int .i64 j ∧ Hid (strip lj = reduce knj (strip (wsj.take j))) ∧ lj.length ≤ j ∧
        w2.ownsRow wo.heap.size 80 2 s4 lj.length (wcells lj) ∧ Wheld w2 wo.heap.size lj ∧ Fresh wo w2)
    case atStart => exact ⟨0, [], by simp, rfl, rfl, by simp, World.ownsRow_nil _ _ _ _, fun t ht => by simp at ht, Touch.refl _ _⟩
    case round =>
      obtain ⟨j, lj, hj, rfl, hstr, hlj, hownl, hheld, hf2⟩ := hrel
      have hz2 := hf2.size
      by_cases hlt : j < wsj.length
      · obtain ⟨b, o, t, rfl, hy, hcl0, hcl1⟩ := (RowAt.of_owns (owns_fresh hvj'.out hf2)).wt_at j hlt
        have hmem := List.mem_of_getElem? hy.out
        have hto := owns_fresh (hwj'.out t hmem) hf2
        obtain ⟨At, ct, hvo⟩ := hwj'.out.formed t hmem
        have hsn := hsj.out.of (t.of, t.d) (List.mem_map.2 ⟨t, hmem, rfl⟩)
        obtain ⟨sn1, sn2, sn3⟩ := hsn
        obtain ⟨vo, of, d⟩ := t
        simp only at hvo hcl0 hcl1 sn1 sn2 hto
        subst hvo
        have hto' := Lib.hid hto
        have sn3' := Lib.hid sn3
        have hmem' := Lib.hid hmem
        clear hto sn3 hmem
        have htake : Hid (strip (wsj.take (j + 1)) = strip (wsj.take j) ++ [(of, d)]) := by
          unfold Hid strip; rw [List.take_add_one, hy.out, List.map_append]; rfl
        have hlt4 : ∀ i, u4.ownBlock = some i → i < wr.heap.size := fun i hi => (hownl.lt i hi).2
        have hpw := some_alloc (hf2.some hpj'.out) (.cells #[.slice At of.length ct, .string d] 80)
        have hmw := (hmj'.out.fresh hf2).fresh ((Touch.refl _ _).alloc (.cells #[.slice At of.length ct, .string d] 80))
        have hcall := Lib.hid (c_without p bk bt k size _ knj n (.slice At of.length ct) of d _ hpw hmw (fun i b hb => (hsj.out.kn i b hb).1) sn2 hn ((RowAt.of_owns hto'.out).alloc _) sn1)
        clear hpw hmw
        go_wp2_with fail
        clear hcl0 hcl1
        refine hcall.out.mono ?_
        rintro e w3 ⟨vo1, rfl, hown1, hf3⟩
        obtain ⟨A1, c1, rfl, hc1, hm1⟩ := (RowAt.of_owns hown1).form
        have g0 : w3.heap[wr.heap.size]? = _ := hf3.some (heap_alloc_new wr (.cells #[.slice At of.length ct, .string d] 80))
        obtain ⟨q0, q1, r0, r1⟩ := cells2 g0
        have hz3 := hf3.size
        have hz3' : wr.heap.size + 1 ≤ w3.heap.size := by simpa using hz3
        have hown1' := Lib.hid hown1
        have hT3 : Fresh wr w3 := ((Touch.refl _ _).alloc _).then_fresh hf3
        clear hcall g0
        generalize hL1 : leftOf knj of = L1 at *
        generalize hD1 : overKnown knj of d = D1 at *
        have hL1' := Lib.hid hL1
        have hD1' := Lib.hid hD1
        clear hL1 hD1 hown1
        by_cases hpos : 0 < L1.length
        · have hlen1 : L1.length ≤ 1000 := by rw [← hL1'.out]; exact Nat.le_trans (List.length_filter_le _ _) sn1
          have hne0 : ∀ u, u4.ownBlock = some u → u ≠ wr.heap.size := fun u hu => Nat.ne_of_lt (hlt4 u hu)
          have hne : u4.ownBlock ≠ some wr.heap.size := fun e => hne0 _ e rfl
          go_wp2_with (at_builtin; refine Halt.out ?_)
          refine ⟨?_⟩
          refine wl_append rfl _ _ 71 rfl wo.heap.size 80 (.agg #[.slice none 0 0, .string ⟨#[]⟩]) 2 40 Tryd.underlying71 Tryd.infoWaiting rfl (by decide) (by decide) _ _ _ rfl _ 1 [.slice A1 L1.length c1, .string D1] rfl
            ((ownsRow_setCell_other (ownsRow_setCell_other (owns_fresh hownl hT3) (a := ⟨wr.heap.size, 0, none⟩) hne _) (a := ⟨wr.heap.size, 1, none⟩) hne _).alloc _)
            (RowAt.boxed _ [.slice A1 L1.length c1, .string D1] _ 1 _ (by simp) (by simp [maxLen])) rfl (by intro u hu; simp at hu; rcases hu with rfl | rfl <;> rfl) (by omega) (by simp; omega) ?_
          intro v5 w5 hown5 hgr5 hat5
          have hT5 : Touch (fun i => u4.ownBlock = some i) wr w5 :=
            Touch.grown ((((Touch.fresh hT3).setCell ⟨wr.heap.size, 0, none⟩ _ (fun h => absurd h (by simp))).setCell ⟨wr.heap.size, 1, none⟩ _ (fun h => absurd h (by simp))).alloc _) hgr5 (fun i hi _ => hi)
          have hT5' : Touch (fun i => i = wr.heap.size ∨ u4.ownBlock = some i) w3 w5 :=
            Touch.grown ((((Touch.refl _ _).setCell ⟨wr.heap.size, 0, none⟩ _ (fun h => .inl rfl)).setCell ⟨wr.heap.size, 1, none⟩ _ (fun h => .inl rfl)).alloc _) hgr5 (fun i hi _ => .inr hi)
          clear q0 q1 r0 r1
          go_wp2_with fail
          go_roundg (wsj.length - (j + 1))
          case rel =>
            refine ⟨j + 1, lj ++ [⟨.slice A1 L1.length c1, L1, D1⟩], by omega, by go_num, ?_, by simp; omega, ?_, ?_, ?_⟩
            · unfold Hid
              rw [htake.out, reduce_snoc, ← hstr.out]
              simp only [hL1'.out, if_pos hpos, red, hD1'.out]
              simp [strip]
            · rw [wcells_append]
              simpa [wcells, Wt.cells] using hown5
            · intro t ht
              rcases List.mem_append.1 ht with ht | ht
              · exact owns_touch (hheld t ht) hT5 (fun i hi hF => by
                  rcases owns_ne_row (hheld t ht) hownl (by decide) with h | h
                  · rw [h] at hi; cases hi
                  · exact h (hi.trans hF.symm))
              · simp at ht; subst ht
                refine owns_low (owns_touch hown1'.out hT5' (fun i hi hF => ?_)) (by simp; omega)
                have hlow := (hown1'.out.lt i hi).1
                simp at hlow
                rcases hF with rfl | hF
                · omega
                · have := hlt4 i hF; omega
            · exact hf2.trans hT5 (fun i hi hF => by have := (hownl.lt i hF).1; omega)
          case measure => omega
        · have hz : L1.length = 0 := by omega
          go_wp2_with fail
          go_roundg (wsj.length - (j + 1))
          case rel =>
            have hT4 : Fresh wr ((w3.setCell ⟨wr.heap.size, 0, none⟩ (.slice A1 L1.length c1)).setCell ⟨wr.heap.size, 1, none⟩ (.string D1)) := (hT3.setCell _ _ (fun h => absurd h (by simp))).setCell _ _ (fun h => absurd h (by simp))
            refine ⟨j + 1, lj, by omega, by go_num, ?_, by omega, ?_, ?_, ?_⟩
            · unfold Hid
              rw [htake.out, reduce_snoc, ← hstr.out]
              simp only [hL1'.out, if_neg hpos, List.append_nil]
            · first | exact owns_fresh hownl hT4 | (rw [hz] at hT4; exact owns_fresh hownl hT4)
            · first | exact hheld.fresh hT4 | (rw [hz] at hT4; exact hheld.fresh hT4)
            · first | exact hf2.then_fresh hT4 | (rw [hz] at hT4; exact hf2.then_fresh hT4)
          case measure => omega
      · have hall : Hid (strip lj = reduce knj (strip wsj)) := by
          have := hstr.out; rwa [List.take_of_length_le (by omega)] at this
        obtain ⟨A4, c4, rfl, hc4, hm4⟩ := (RowAt.of_owns hownl).form
        have hpr := hf2.some hpj'.out
        obtain ⟨p0, p1, p2, p3, p4⟩ := cells5 hpr
        have pf4 := frozen_of_row _ _ 4 _ _ hpr
        have hmr := hmj'.out.fresh hf2
        have hnep : (Value.slice A4 lj.length c4).ownBlock ≠ some p := owns_ne_cells hownl hpr (by decide)
        have hneh : ∀ t ∈ lj, t.vo.ownBlock ≠ some p := fun t ht => owns_ne_cells (hheld t ht) hpr (by decide)
        have hown2 := owns_fresh hown hf2
        have hneo : u3.ownBlock ≠ some p := owns_ne_cells hown2 hpr (by decide)
        have W1p := Lib.hid (heap_setCell_same wr p 4 _ _ (.slice A4 lj.length c4) hpr)
        have W1m : Hid (MapAt (wr.setCell ⟨p, 4, none⟩ (.slice A4 lj.length c4)) .i64 bk (strMap knj)) :=
          hmr.touch ((Touch.refl (fun i => i = p) wr).setCell ⟨p, 4, none⟩ _ (fun _ => rfl)) hbkp
        have W1v := Lib.hid (ownsRow_setCell_other hownl (a := ⟨p, 4, none⟩) hnep (.slice A4 lj.length c4))
        have W1h : Hid (Wheld (wr.setCell ⟨p, 4, none⟩ (.slice A4 lj.length c4)) wo.heap.size lj) := fun t ht => ownsRow_setCell_other (hheld t ht) (a := ⟨p, 4, none⟩) (hneh t ht) _
        have W1o := Lib.hid (ownsRow_setCell_other hown2 (a := ⟨p, 4, none⟩) hneo (.slice A4 lj.length c4))
        have W1t : Touch (fun i => i = p ∨ i = bk) w (wr.setCell ⟨p, 4, none⟩ (.slice A4 lj.length c4)) := (hfr.then_fresh hf2).setCell ⟨p, 4, none⟩ _ (fun _ => .inl rfl)
        have hsl : Hid (Sane k n knj (strip lj)) := by rw [hall.out]; exact hsj.out.reduce
        have hlen1 : ∀ t ∈ lj, t.of.length ≤ 1000 := fun t ht => (hsl.out.of (t.of, t.d) (List.mem_map.2 ⟨t, ht, rfl⟩)).1
        clear hmr hnep hneh hneo hown2 hpr hown hheld hownl hstr hfr hf2
        go_wp2_with fail
        clear p0 p1 p2 p3 p4 pf4
        generalize wr.setCell ⟨p, 4, none⟩ (.slice A4 lj.length c4) = W1 at *
        have hW1z : Hid True := trivial
        have hidxc := Lib.hid (c_IndexFunc_wt _ lj W1 (RowAt.of_owns W1v.out) W1h.out.formed hlen1)
        have hidx := Lib.hid (idxP_cases lj fun t => t.of.length == 1)
        clear hlen1
        rcases hidx.out with ⟨hi, hnone⟩ | ⟨j2, t, hj2, ht1, hfirst, hi⟩
        · have hc' := hidxc.out
          rw [hi] at hc'
          have hc2 := Lib.hid hc'
          have hnone' := Lib.hid hnone
          clear hc' hidxc hi hidx hnone
          refine hc2.out.mono ?_
          rintro e W2 ⟨rfl, hfW⟩
          go_wp2_with fail
          refine (c_Sort w.heap.size u3 outj W2 (owns_fresh W1o.out hfW) (by omega)).mono ?_
          rintro e W3 ⟨rfl, hownS, hgrS⟩
          go_wp2_with fail
          go_ret
          have hTS : Touch (fun i => u3.ownBlock = some i) W2 W3 := Touch.grown (Touch.refl _ _) hgrS (fun i hi _ => hi)
          have hW2p := hfW.some W1p.out
          refine ⟨knj, lj, Sp.isort outj, .slice A4 lj.length c4, _, rfl, ?_, ?_, ?_, ?_, ?_, ?_, hsl.out, by omega, ?_⟩
          · refine hL.out _ _ _ ?_
            rw [hall.out]
            refine Learn.done fun t ht => ?_
            rw [← hall.out] at ht
            obtain ⟨u, hu, rfl⟩ := List.mem_map.1 ht
            have := hnone'.out u hu
            simpa using this
          · rw [Sp.length_isort]; exact hownS
          · exact hTS.some hW2p (by intro h; exact owns_ne_cells (owns_fresh W1o.out hfW) hW2p (by decide) h)
          · exact (W1m.out.fresh hfW).touch hTS (fun h => owns_ne_map (owns_fresh W1o.out hfW) (W1m.out.fresh hfW) h)
          · refine owns_low (owns_touch (owns_fresh W1v.out hfW) hTS (fun i hi hF => ?_)) hfz
            rcases owns_ne_row W1v.out W1o.out (by decide) with h | h
            · rw [h] at hi; cases hi
            · exact h (hi.trans hF.symm)
          · refine (Wheld.touch (W1h.out.fresh hfW) hTS (fun t ht i hi hF => ?_)).low hfz
            have h1 := (W1h.out t ht).lt i hi
            have h2 := hu3lt.out i hF
            omega
          · exact (W1t.then_fresh hfW).trans hTS (fun i hi hF => by have := (W1o.out.lt i hF).1; omega)
        · have hc' := hidxc.out
          rw [hi] at hc'
          have hc2 := Lib.hid hc'
          have hjl : j2 < lj.length := (List.getElem?_eq_some_iff.1 hj2).1
          have hmem : t ∈ lj := List.mem_of_getElem? hj2
          obtain ⟨vo, of, d⟩ := t
          have hof : of.length = 1 := by simpa using ht1
          match of, hof with
          | [x], _ =>
          clear ht1
          have hj2' := Lib.hid hj2
          have hfirst' := Lib.hid hfirst
          have hmem' := Lib.hid hmem
          clear hc' hidxc hi hidx hj2 hfirst hmem
          refine hc2.out.mono ?_
          rintro e W2 ⟨rfl, hfW⟩
          have W2v := owns_fresh W1v.out hfW
          obtain ⟨b, o, t', hAb, hy, hcl0, hcl1⟩ := (RowAt.of_owns W2v).wt_at j2 hjl
          obtain rfl : (⟨vo, [x], d⟩ : Wt) = t' := by have := hy.out; rw [hj2'.out] at this; exact Option.some.inj this
          subst hAb
          have W2t := owns_fresh (W1h.out _ hmem'.out) hfW
          obtain ⟨At, ct, hvo, hct, _⟩ := (RowAt.of_owns W2t).form
          simp only at hvo hcl0 hcl1
          subst hvo
          obtain ⟨bt2, ot2, x', hAt, hx', hclx⟩ := (RowAt.of_owns W2t).int_at 0 (by simp)
          obtain rfl : x = x' := by have := hx'.out; simpa using this
          subst hAt
          rw [Nat.add_zero] at hclx
          have W2p := hfW.some W1p.out
          have W2m := W1m.out.fresh hfW
          obtain ⟨p0, p1, p2, p3, p4⟩ := cells5 W2p
          obtain ⟨W3, hup, W3m, hT3, hz3⟩ := MapAt.update Tryd.underlying69 Tryd.underlying3 (W2m.drew) x (.string d)
          have hunk : Hid (aget knj x = none) := by
            have : ([x], d) ∈ reduce knj (strip wsj) := by rw [← hall.out]; exact List.mem_map.2 ⟨_, hmem'.out, rfl⟩
            exact left_unknown this (by simp)
          have hxr : 0 ≤ x ∧ x < k := (hsl.out.of ([x], d) (List.mem_map.2 ⟨_, hmem'.out, rfl⟩)).2.2 x (by simp)
          obtain ⟨hx0, hxk⟩ := hxr
          have hdec := unknown_aput (d := d) hx0 hxk hunk.out
          have hT3' : Touch (fun i => i = bk) W2 W3 := (Touch.drew (Touch.refl _ W2)).trans hT3 (fun _ _ h => h)
          have W3p := Lib.hid (hT3'.some W2p (fun h => hbkp h.symm))
          have W3v := owns_touch W2v hT3' (fun i hi hF => owns_ne_map W2v W2m (by rw [hi, hF]))
          have W3h : Wheld W3 wo.heap.size lj := (W1h.out.fresh hfW).touch hT3' (fun t ht i hi hF => owns_ne_map (W1h.out.fresh hfW t ht) W2m (by rw [hi, hF]))
          have W3o := owns_touch (owns_fresh W1o.out hfW) hT3' (fun i hi hF => owns_ne_map (owns_fresh W1o.out hfW) W2m (by rw [hi, hF]))
          have W3t := (W1t.then_fresh hfW).trans hT3' (fun i _ h => .inr h)
          obtain ⟨b3, o3, t3, hAb3, hy3, hcl03, hcl13⟩ := (RowAt.of_owns W3v).wt_at j2 hjl
          obtain rfl : (⟨_, [x], d⟩ : Wt) = t3 := by have := hy3.out; rw [hj2'.out] at this; exact Option.some.inj this
          obtain ⟨rfl, rfl⟩ : b = b3 ∧ o = o3 := by injection hAb3 with h; injection h with h1 h2; exact ⟨h1, h2⟩
          have W3t' := W3h _ hmem'.out
          obtain ⟨bt3, ot3, x3, hAt3, hx3, hclx3⟩ := (RowAt.of_owns W3t').int_at 0 (by simp)
          obtain rfl : x = x3 := by have := hx3.out; simpa using this
          obtain ⟨rfl, rfl⟩ : bt2 = bt3 ∧ ot2 = ot3 := by injection hAt3 with h; injection h with h1 h2; exact ⟨h1, h2⟩
          rw [Nat.add_zero] at hclx3
          have W3v' := Lib.hid W3v
          have W3h' := Lib.hid W3h
          have W3m' := Lib.hid W3m
          clear W2v W2t W2p W2m W3v W3h W3m hAb3 hAt3 W3t' hy hy3 hx' hx3 hz3 hT3
          go_wp2_with fail
          go_region
          clear p0 p1 p2 p3 p4 hcl0 hcl1 hclx hup
          have hfz3 := W3t.size
          go_wp2_with (at_builtin; refine Halt.out ?_)
          refine ⟨?_⟩
          refine wl_append rfl _ _ 32 rfl w.heap.size 3 (.int .i64 0) 1 8 Tryd.underlying32 Tryd.infoInt rfl (by decide) (by decide) _ outj.length (outj.map (.int .i64)) rfl _ 1 [.int .i64 x] rfl (W3o.alloc _) (RowAt.boxed _ [.int .i64 x] _ 1 _ rfl (by simp [maxLen])) rfl (ints_one .i64 [x]) (by omega) (by simp; omega) ?_
          intro v4 w4 hown4 hgr4 hat4
          have hT4 : Touch (fun i => u3.ownBlock = some i) W3 w4 := Touch.grown ((Touch.refl _ _).alloc _) hgr4 (fun i hi _ => hi)
          clear hcl03 hcl13 hclx3
          go_wp2_with fail
          go_roundg (unknown k (aput knj x d) + 1)
          case rel =>
            refine ⟨aput knj x d, lj, outj ++ [x], _, rfl, ?_, hT4.some W3p.out (fun h => owns_ne_cells W3o W3p.out (by decide) h), ?_, ?_, ?_, ?_, by omega, by simp; omega, ?_, ?_⟩
            · intro a b c hl
              refine hL.out a b c ?_
              have hat : (reduce knj (strip wsj))[j2]? = some ([x], d) := by rw [← hall.out]; exact strip_at hj2'.out
              refine Learn.step hat (fun t ht => ?_) (by rw [← hall.out]; exact hl)
              rw [← hall.out, strip_take] at ht
              obtain ⟨u, hu, rfl⟩ := List.mem_map.1 ht
              have := hfirst'.out u hu
              simpa using this
            · rw [← aput_strMap]
              exact W3m'.out.touch hT4 (fun h => owns_ne_map W3o W3m'.out h)
            · refine owns_low (owns_touch W3v'.out hT4 (fun i hi hF => ?_)) (Nat.zero_le _)
              rcases owns_ne_row W3v'.out W3o (by decide) with h | h
              · rw [h] at hi; cases hi
              · exact h (hi.trans hF.symm)
            · refine (W3h'.out.touch hT4 (fun t ht i hi hF => ?_)).low (Nat.zero_le _)
              have h1 := (W3h'.out t ht).lt i hi
              have h2 := hu3lt.out i hF
              omega
            · exact hsl.out.put (List.mem_map.2 ⟨_, hmem'.out, rfl⟩)
            · simpa using hown4
            · exact W3t.trans hT4 (fun i hi hF => by have := (W3o.lt i hF).1; omega)
          case measure => omega
end Go.Proofs.YtnepdhkjammibaaDoor
