/- The two peelers side by side. -/
import Derived.Test.YtnepdhkjammibaaDoorMatch
import Derived.Test.YtnepdhkjammibaaDoorTake
import Derived.Test.YtnepdhkjammibaaDoorSame
set_option linter.unusedVariables false
set_option linter.unusedSimpArgs false
namespace Go.Proofs.YtnepdhkjammibaaDoor
open Go.RowKit

theorem PeelerAt.bound {F : Nat → Prop} {w : World} {p k n : Nat} {known : List (Int × ByteArray)} {taken : List Int} {ws : List (List Int × ByteArray)} (h : PeelerAt w p k n known taken ws F) : PeelerAt w p k n known taken ws (fun i => F i ∧ i < w.heap.size) := by
  obtain ⟨⟨bk, bt, v, wt, h1, h2, h3, h4, h5, h6, h7, h8, h9, h10, h11, h12⟩, hs, hf, hm⟩ := h
  exact ⟨⟨bk, bt, v, wt, h1, h2, h3, h4, h5, h6, h7, ⟨h8, lt_of_block h1⟩, ⟨h9, h2.lt⟩, ⟨h10, h3.lt⟩, fun i hi => ⟨h11 i hi, (h5.lt i hi).2⟩, fun t ht i hi => ⟨h12 t ht i hi, ((h6 t ht).lt i hi).2⟩⟩, hs, hf, hm⟩

/-- The program's peeler at p, the document's at m, both made after w0; they have come to the same. -/
structure Play (b0 : Nat) (w : World) (p m k n : Nat) (known : List (Int × ByteArray)) (taken : List Int) (ws : List (List Int × ByteArray)) (F : Nat → Prop) (kn : Int → Bool) (bs : Int → ByteArray) (L : List (Int × ByteArray)) (vL vT : Value) : Prop where
  P : PeelerAt w p k n known taken ws F
  F0 : ∀ i, F i → b0 ≤ i ∧ i < w.heap.size
  R : RCells w m k kn bs vL vT
  oL : w.ownsRow 0 37 2 vL L.length (dcells L)
  oT : w.ownsRow 0 3 1 vT taken.length (taken.map (.int .i64))
  m0 : b0 ≤ m ∧ ¬ F m
  l0 : ∀ i, vL.ownBlock = some i → b0 ≤ i ∧ ¬ F i
  t0 : ∀ i, vT.ownBlock = some i → b0 ≤ i ∧ ¬ F i
  sane : RSane n kn bs L
  same : Matches known kn bs
  wait : reduce known ws = reduce known (org k L)
  len : ws.length = L.length

theorem Play.fresh {b0 : Nat} {w w' : World} {p m k n : Nat} {known : List (Int × ByteArray)} {taken : List Int} {ws : List (List Int × ByteArray)} {F : Nat → Prop} {kn : Int → Bool} {bs : Int → ByteArray} {L : List (Int × ByteArray)} {vL vT : Value}
    (h : Play b0 w p m k n known taken ws F kn bs L vL vT) (hf : Fresh w w') : Play b0 w' p m k n known taken ws F kn bs L vL vT :=
  ⟨h.P.fresh hf, fun i hi => ⟨(h.F0 i hi).1, Nat.lt_of_lt_of_le (h.F0 i hi).2 hf.size⟩, h.R.fresh hf, owns_fresh h.oL hf, owns_fresh h.oT hf, h.m0, h.l0, h.t0, h.sane, h.same, h.wait, h.len⟩

/-- What the document's taking leaves, ahead of the program's. -/
structure Mid (b0 : Nat) (w0 w : World) (p m k n : Nat) (known : List (Int × ByteArray)) (taken : List Int) (ws : List (List Int × ByteArray)) (F : Nat → Prop) (kn' : Int → Bool) (bs' : Int → ByteArray) (L' : List (Int × ByteArray)) (out' : List Int) (seed : Int) (data : ByteArray) (vo vL' vT' : Value) : Prop where
  P : PeelerAt w p k n known taken ws F
  F0 : ∀ i, F i → b0 ≤ i ∧ i < w.heap.size
  R : RCells w m k kn' bs' vL' vT'
  oL : w.ownsRow 0 37 2 vL' L'.length (dcells L')
  oT : w.ownsRow 0 3 1 vT' (taken.length + 1) ((taken ++ [seed]).map (.int .i64))
  oO : w.ownsRow 0 3 1 vo out'.length (out'.map (.int .i64))
  m0 : b0 ≤ m ∧ ¬ F m
  l0 : ∀ i, vL'.ownBlock = some i → b0 ≤ i ∧ ¬ F i
  t0 : ∀ i, vT'.ownBlock = some i → b0 ≤ i ∧ ¬ F i
  o0 : ∀ i, vo.ownBlock = some i → b0 ≤ i ∧ ¬ F i
  sane : RSane n kn' bs' L'
  both : ∀ known' ws' out, Learn known (ws ++ [(Sp.setOf k seed, data)]) [] known' ws' out → out' = out ∧ Matches known' kn' bs' ∧ reduce known' ws' = reduce known' (org k L') ∧ ws'.length = L'.length

theorem Play.mid {b0 : Nat} {w0 w : World} {p m k n : Nat} {known : List (Int × ByteArray)} {taken : List Int} {ws : List (List Int × ByteArray)} {F : Nat → Prop} {kn : Int → Bool} {bs : Int → ByteArray} {L : List (Int × ByteArray)} {vL vT : Value}
    (h : Play b0 w0 p m k n known taken ws F kn bs L vL vT) {seed : Int} {data : ByteArray} {kn' : Int → Bool} {bs' : Int → ByteArray} {L' : List (Int × ByteArray)} {out' : List Int} {vo vL' vT' : Value} (hb : b0 ≤ w0.heap.size)
    (h1 : RLearn k kn bs (L ++ [(seed, data)]) [] kn' bs' L' out') (h2 : w.ownsRow w0.heap.size 3 1 vo out'.length (out'.map (.int .i64))) (h3 : RCells w m k kn' bs' vL' vT')
    (h4 : w.ownsRow 0 37 2 vL' L'.length (dcells L')) (h5 : w.ownsRow 0 3 1 vT' (taken.length + 1) ((taken ++ [seed]).map (.int .i64))) (h6 : RSane n kn' bs' L')
    (h7 : Touch (fun i => i = m ∨ vL.ownBlock = some i ∨ vT.ownBlock = some i) w0 w) (h8 : ∀ i, vL'.ownBlock = some i → w0.heap.size ≤ i) (h9 : ∀ i, vT'.ownBlock = some i → vT.ownBlock = some i ∨ w0.heap.size ≤ i) :
    Mid b0 w0 w p m k n known taken ws F kn' bs' L' out' seed data vo vL' vT' := by
  have hnew : ∀ i, w0.heap.size ≤ i → b0 ≤ i ∧ ¬ F i := fun i hi => ⟨Nat.le_trans hb hi, fun hF => by have := (h.F0 i hF).2; omega⟩
  refine ⟨h.P.touch h7 (fun i hi hG => ?_), fun i hi => ⟨(h.F0 i hi).1, Nat.lt_of_lt_of_le (h.F0 i hi).2 h7.size⟩, h3, h4, h5, owns_low h2 (Nat.zero_le _), h.m0, fun i hi => hnew i (h8 i hi), fun i hi => ?_, fun i hi => hnew i (h2.lt i hi).1, h6, ?_⟩
  · rcases hG with rfl | hG | hG
    · exact h.m0.2 hi
    · exact (h.l0 i hG).2 hi
    · exact (h.t0 i hG).2 hi
  · rcases h9 i hi with h | h'
    · exact Play.t0 ‹_› i h
    · exact hnew i h'
  · intro known' ws' out hl
    have hI : reduce known (ws ++ [(Sp.setOf k seed, data)]) = reduce known (org k (L ++ [(seed, data)])) := by
      rw [org_append, reduce_append, reduce_append, h.wait]; rfl
    exact learn_same h1 hl h.same hI rfl

theorem Mid.fresh {b0 : Nat} {w0 w w' : World} {p m k n : Nat} {known : List (Int × ByteArray)} {taken : List Int} {ws : List (List Int × ByteArray)} {F : Nat → Prop} {kn' : Int → Bool} {bs' : Int → ByteArray} {L' : List (Int × ByteArray)} {out' : List Int} {seed : Int} {data : ByteArray} {vo vL' vT' : Value}
    (h : Mid b0 w0 w p m k n known taken ws F kn' bs' L' out' seed data vo vL' vT') (hf : Fresh w w') : Mid b0 w0 w' p m k n known taken ws F kn' bs' L' out' seed data vo vL' vT' :=
  ⟨h.P.fresh hf, fun i hi => ⟨(h.F0 i hi).1, Nat.lt_of_lt_of_le (h.F0 i hi).2 hf.size⟩, h.R.fresh hf, owns_fresh h.oL hf, owns_fresh h.oT hf, owns_fresh h.oO hf, h.m0, h.l0, h.t0, h.o0, h.sane, h.both⟩

/-- .. and behind it. -/
theorem Mid.play {b0 : Nat} {w0 w w' : World} {p m k n : Nat} {known : List (Int × ByteArray)} {taken : List Int} {ws : List (List Int × ByteArray)} {F : Nat → Prop} {kn' : Int → Bool} {bs' : Int → ByteArray} {L' : List (Int × ByteArray)} {out' : List Int} {seed : Int} {data : ByteArray} {vo vL' vT' : Value}
    (h : Mid b0 w0 w p m k n known taken ws F kn' bs' L' out' seed data vo vL' vT') (hb : b0 ≤ w.heap.size) {known' : List (Int × ByteArray)} {ws' : List (List Int × ByteArray)} {out : List Int} {F' : Nat → Prop}
    (hl : Learn known (ws ++ [(Sp.setOf k seed, data)]) [] known' ws' out) (hP : PeelerAt w' p k n known' (taken ++ [seed]) ws' F') (hT : Touch F w w') (hF : ∀ i, F' i → F i ∨ w.heap.size ≤ i) :
    Play b0 w' p m k n known' (taken ++ [seed]) ws' (fun i => F' i ∧ i < w'.heap.size) kn' bs' L' vL' vT' ∧ out' = out ∧ w'.ownsRow 0 3 1 vo out'.length (out'.map (.int .i64)) := by
  obtain ⟨e1, e2, e3, e4⟩ := h.both _ _ _ hl
  have hml := h.R.lt
  have keep : ∀ i, i < w.heap.size → ¬ F i → ¬ (F' i ∧ i < w'.heap.size) := fun i hi hn hF' => by
    rcases hF i hF'.1 with h | h
    · exact hn h
    · omega
  refine ⟨⟨hP.bound, fun i hi => ⟨?_, hi.2⟩, h.R.touch hT h.m0.2, owns_touch h.oL hT (fun i hi => (h.l0 i hi).2), ?_, ⟨h.m0.1, keep m hml h.m0.2⟩, fun i hi => ⟨(h.l0 i hi).1, keep i (h.oL.lt i hi).2 (h.l0 i hi).2⟩, fun i hi => ⟨(h.t0 i hi).1, keep i (h.oT.lt i hi).2 (h.t0 i hi).2⟩, h.sane, e2, e3, e4⟩, e1, owns_touch h.oO hT (fun i hi => (h.o0 i hi).2)⟩
  · rcases hF i hi.1 with h' | h'
    · exact (h.F0 i h').1
    · omega
  · rw [List.length_append]; exact owns_touch h.oT hT (fun i hi => (h.t0 i hi).2)
end Go.Proofs.YtnepdhkjammibaaDoor
