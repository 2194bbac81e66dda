/- The program's learning and the document's come to the same (plain; no program in sight). -/
import Derived.Test.YtnepdhkjammibaaDoorRTake
import Derived.Test.YtnepdhkjammibaaDoorPeel
set_option linter.unusedVariables false
set_option linter.unusedSimpArgs false
namespace Go.Proofs.YtnepdhkjammibaaDoor
open Go.RowKit

theorem xl_right_comm (d a b : List UInt8) : xl (xl d a) b = xl (xl d b) a := by
  induction d generalizing a b with
  | nil => rfl
  | cons x d ih =>
    cases a with
    | nil => cases b <;> rfl
    | cons y a =>
      cases b with
      | nil => rfl
      | cons z b =>
        have := ih a b
        unfold xl at this ⊢
        simp only [List.zipWith_cons_cons, this]
        congr 1
        rw [UInt8.xor_assoc, UInt8.xor_comm y z, ← UInt8.xor_assoc]
theorem bx_right_comm (d a b : ByteArray) : bx (bx d a) b = bx (bx d b) a := by
  have := xl_right_comm d.data.toList a.data.toList b.data.toList
  unfold bx
  unfold xl at this
  simp only [this]

def ov (known : List (Int × ByteArray)) (d : ByteArray) (i : Int) : ByteArray := match aget known i with | some b => bx d b | none => d
theorem overKnown_eq (known : List (Int × ByteArray)) (of : List Int) (d : ByteArray) : overKnown known of d = of.foldl (ov known) d := rfl
theorem ov_bx (known : List (Int × ByteArray)) (d b : ByteArray) (i : Int) : ov known (bx d b) i = bx (ov known d i) b := by
  unfold ov; cases aget known i with
  | none => rfl
  | some a => exact bx_right_comm _ _ _
theorem overKnown_bx (known : List (Int × ByteArray)) (of : List Int) (d b : ByteArray) : overKnown known of (bx d b) = bx (overKnown known of d) b := by
  rw [overKnown_eq, overKnown_eq]
  induction of generalizing d with
  | nil => rfl
  | cons i of ih => rw [List.foldl_cons, List.foldl_cons, ov_bx, ih]

/-- All that the first knows the second knows, and alike. -/
def Grows (known known2 : List (Int × ByteArray)) : Prop := ∀ i b, aget known i = some b → aget known2 i = some b
theorem Grows.refl (known : List (Int × ByteArray)) : Grows known known := fun _ _ h => h
theorem Grows.put {known : List (Int × ByteArray)} {x : Int} (d : ByteArray) (h : aget known x = none) : Grows known (aput known x d) := fun i b hi => by
  rw [aget_aput, if_neg (fun e => by subst e; rw [h] at hi; cases hi)]; exact hi
theorem leftOf_two {known known2 : List (Int × ByteArray)} (h : Grows known known2) (of : List Int) : leftOf known2 (leftOf known of) = leftOf known2 of := by
  unfold leftOf
  rw [List.filter_filter]
  apply List.filter_congr
  intro i _
  cases h2 : aget known2 i with
  | some b => simp
  | none =>
    cases h1 : aget known i with
    | none => simp
    | some b => rw [h i b h1] at h2; cases h2
theorem overKnown_two {known known2 : List (Int × ByteArray)} (h : Grows known known2) (of : List Int) (d : ByteArray) : overKnown known2 (leftOf known of) (overKnown known of d) = overKnown known2 of d := by
  induction of generalizing d with
  | nil => rfl
  | cons i of ih =>
    cases h1 : aget known i with
    | some b =>
      have e1 : leftOf known (i :: of) = leftOf known of := by simp [leftOf, h1]
      have e2 : ∀ d, overKnown known (i :: of) d = overKnown known of (bx d b) := fun d => by rw [overKnown_eq, List.foldl_cons]; unfold ov; rw [h1]; rfl
      have e3 : ∀ d, overKnown known2 (i :: of) d = overKnown known2 of (bx d b) := fun d => by rw [overKnown_eq, List.foldl_cons]; unfold ov; rw [h i b h1]; rfl
      rw [e1, e2, e3]; exact ih _
    | none =>
      have e1 : leftOf known (i :: of) = i :: leftOf known of := by simp [leftOf, h1]
      have e2 : ∀ d, overKnown known (i :: of) d = overKnown known of d := fun d => by rw [overKnown_eq, List.foldl_cons]; unfold ov; rw [h1]; rfl
      rw [e1, e2]
      cases h2 : aget known2 i with
      | none =>
        have e3 : ∀ of d, overKnown known2 (i :: of) d = overKnown known2 of d := fun of d => by rw [overKnown_eq, List.foldl_cons]; unfold ov; rw [h2]; rfl
        rw [e3, e3]; exact ih _
      | some b =>
        have e3 : ∀ of d, overKnown known2 (i :: of) d = overKnown known2 of (bx d b) := fun of d => by rw [overKnown_eq, List.foldl_cons]; unfold ov; rw [h2]; rfl
        rw [e3, e3, ← ih (bx d b), overKnown_bx known]
theorem red_two {known known2 : List (Int × ByteArray)} (h : Grows known known2) (t : List Int × ByteArray) : red known2 (red known t) = red known2 t := by
  unfold red; rw [leftOf_two h, overKnown_two h]

/-- The drops, as they came. -/
def org (k : Int) (L : List (Int × ByteArray)) : List (List Int × ByteArray) := L.map fun d => (Sp.setOf k d.1, d.2)
theorem org_append (k : Int) (a b : List (Int × ByteArray)) : org k (a ++ b) = org k a ++ org k b := by simp [org]
theorem reduce_append (known : List (Int × ByteArray)) (a b : List (List Int × ByteArray)) : reduce known (a ++ b) = reduce known a ++ reduce known b := by simp [reduce]

/-- The two know the same. -/
structure Matches (known : List (Int × ByteArray)) (kn : Int → Bool) (bs : Int → ByteArray) : Prop where
  kn : ∀ i, kn i = (aget known i).isSome
  bs : ∀ i b, aget known i = some b → bs i = b
theorem Matches.left {known : List (Int × ByteArray)} {kn : Int → Bool} {bs : Int → ByteArray} (h : Matches known kn bs) (of : List Int) : rleft kn of = leftOf known of := by
  unfold rleft leftOf
  apply List.filter_congr
  intro i _; rw [h.kn]; cases aget known i <;> rfl
theorem Matches.keep {known : List (Int × ByteArray)} {kn : Int → Bool} {bs : Int → ByteArray} (h : Matches known kn bs) (k : Int) (L : List (Int × ByteArray)) :
    reduce known (org k L) = (rkeep k kn L).map fun d => (rl k kn d, overKnown known (Sp.setOf k d.1) d.2) := by
  induction L with
  | nil => rfl
  | cons d L ih =>
    have e : org k (d :: L) = [(Sp.setOf k d.1, d.2)] ++ org k L := rfl
    rw [e, reduce_append, ih]
    have hl : rl k kn d = leftOf known (Sp.setOf k d.1) := h.left _
    by_cases hp : 0 < (leftOf known (Sp.setOf k d.1)).length
    · simp [reduce, red, rkeep, hl, hp]
    · simp [reduce, red, rkeep, hl, hp]
theorem reduce_two {known known2 : List (Int × ByteArray)} (h : Grows known known2) {kn : Int → Bool} {bs : Int → ByteArray} (hm : Matches known kn bs) (k : Int) (L : List (Int × ByteArray)) :
    reduce known2 (reduce known (org k L)) = reduce known2 (org k (rkeep k kn L)) := by
  rw [hm.keep]
  unfold reduce org
  rw [List.map_map, List.map_map]
  congr 1
  apply List.map_congr_left
  intro d _
  have hl : rl k kn d = leftOf known (Sp.setOf k d.1) := hm.left _
  simp only [Function.comp]
  rw [hl]
  exact red_two h (Sp.setOf k d.1, d.2)
theorem Matches.sum {known : List (Int × ByteArray)} {kn : Int → Bool} {bs : Int → ByteArray} (hm : Matches known kn bs) {x : Int} (hx : aget known x = none) (S : List Int) (hS : ∀ i ∈ S, i ≠ x → kn i = true) (d : ByteArray) :
    rsum bs x S d = overKnown known S d := by
  unfold rsum; rw [overKnown_eq]
  induction S generalizing d with
  | nil => rfl
  | cons i S ih =>
    rw [List.foldl_cons, List.foldl_cons]
    have : (if i = x then d else bx d (bs i)) = ov known d i := by
      unfold ov
      by_cases e : i = x
      · subst e; rw [if_pos rfl, hx]
      · rw [if_neg e]
        have hk := hS i (List.mem_cons_self ..) e
        rw [hm.kn] at hk
        obtain ⟨b, hb⟩ := Option.isSome_iff_exists.1 hk
        rw [hb, hm.bs i b hb]
    rw [this]
    exact ih (fun i hi => hS i (List.mem_cons_of_mem _ hi)) _
theorem Matches.put {known : List (Int × ByteArray)} {kn : Int → Bool} {bs : Int → ByteArray} (hm : Matches known kn bs) (x : Int) (d : ByteArray) : Matches (aput known x d) (upd kn x true) (upd bs x d) := by
  refine ⟨fun i => ?_, fun i b hb => ?_⟩
  · unfold upd; rw [aget_aput]; split
    · rfl
    · exact hm.kn i
  · unfold upd; rw [aget_aput] at hb; split at hb
    · rename_i e; injection hb with hb; rw [if_pos e, hb]
    · rename_i e; rw [if_neg e]; exact hm.bs i b hb

/-- **The two come to the same.** -/
theorem learn_same {k : Int} {kn : Int → Bool} {bs : Int → ByteArray} {L : List (Int × ByteArray)} {outR : List Int} {kn' : Int → Bool} {bs' : Int → ByteArray} {L' : List (Int × ByteArray)} {outR' : List Int}
    (hr : RLearn k kn bs L outR kn' bs' L' outR') : ∀ {known ws out known' ws' out'}, Learn known ws out known' ws' out' → Matches known kn bs → reduce known ws = reduce known (org k L) → outR = Sp.isort out →
      outR' = out' ∧ Matches known' kn' bs' ∧ reduce known' ws' = reduce known' (org k L') ∧ ws'.length = L'.length := by
  induction hr with
  | done h =>
    rename_i kn bs L out
    intro known ws outp known' ws' out' hl hm he ho
    cases hl with
    | done h2 =>
      refine ⟨ho, hm, ?_, ?_⟩
      · rw [he, ← reduce_two (Grows.refl _) hm]
      · rw [he, hm.keep, List.length_map]
    | step hj hf hl =>
      exfalso
      rw [he, hm.keep] at hj
      rw [List.getElem?_map] at hj
      obtain ⟨d, hd, e⟩ := Option.map_eq_some_iff.1 hj
      injection e with e1 e2
      exact h d (List.mem_of_getElem? hd) (by rw [e1]; rfl)
  | step hj hx hf h ih =>
    rename_i kn bs L out j s d x kn2 bs2 L2 out2
    intro known ws outp known' ws' out' hl hm he ho
    have hA : reduce known ws = (rkeep k kn L).map fun d => (rl k kn d, overKnown known (Sp.setOf k d.1) d.2) := by rw [he, hm.keep]
    have hat : (reduce known ws)[j]? = some ([x], overKnown known (Sp.setOf k s) d) := by rw [hA, List.getElem?_map, hj]; simp [hx]
    have hfirst : ∀ t ∈ (reduce known ws).take j, t.1.length ≠ 1 := by
      intro t ht
      rw [hA, ← List.map_take] at ht
      obtain ⟨u, hu, rfl⟩ := List.mem_map.1 ht
      exact hf u hu
    cases hl with
    | done h2 => exact absurd rfl (h2 _ (List.mem_of_getElem? hat))
    | step hj2 hf2 hl2 =>
      rename_i j2 x2 d2
      have hjj : j = j2 := by
        rcases Nat.lt_trichotomy j j2 with h3 | h3 | h3
        · exact absurd rfl (hf2 _ (List.mem_of_getElem? (show ((reduce known ws).take j2)[j]? = _ by rw [List.getElem?_take, if_pos h3]; exact hat)))
        · exact h3
        · exact absurd rfl (hfirst _ (List.mem_of_getElem? (show ((reduce known ws).take j)[j2]? = _ by rw [List.getElem?_take, if_pos h3]; exact hj2)))
      subst hjj
      rw [hat] at hj2
      injection hj2 with hj2
      injection hj2 with e1 e2
      injection e1 with e1 _
      subst e1
      have hun : aget known x = none := left_unknown (List.mem_of_getElem? hat) (by simp)
      have hsum : rsum bs x (Sp.setOf k s) d = overKnown known (Sp.setOf k s) d := hm.sum hun _ (fun i hi hne => rl_known (d := (s, d)) hx hi hne) d
      rw [hsum, e2] at ih
      refine ih hl2 (hm.put x d2) ?_ (by rw [ho, Sp.isort_snoc])
      rw [he]
      exact reduce_two (Grows.put d2 hun) hm k L
end Go.Proofs.YtnepdhkjammibaaDoor
