/- Memory words of this seat's proofs: which blocks a step may touch, and what a slice's cells read as. -/
import Derived.WalkKit
import Derived.Carry
import Derived.Deep.Draws
import Derived.Maps.AppendAt
set_option linter.unusedVariables false
set_option linter.unusedSimpArgs false
namespace Go.Proofs.YtnepdhkjammibaaDoor
open Go.RowKit

/-- The walk halts here: 'go_wp2_with (at_builtin; refine Halt.out ?_)', then 'refine ⟨?_⟩'. -/
structure Halt (p : Prop) : Prop where mk :: (out : p)

/-! ### Which blocks have been touched -/
/-- From w to w' no old block outside F has turned; blocks may have been added. -/
structure Touch (F : Nat → Prop) (w w' : World) : Prop where
  os : w'.os = w.os
  tape : w'.tape = w.tape
  output : w'.output = w.output
  size : w.heap.size ≤ w'.heap.size
  block : ∀ k, k < w.heap.size → ¬ F k → w'.heap[k]? = w.heap[k]?

/-- Nothing old has turned. -/
abbrev Fresh (w w' : World) : Prop := Touch (fun _ => False) w w'

theorem Touch.refl (F : Nat → Prop) (w : World) : Touch F w w := ⟨rfl, rfl, rfl, Nat.le_refl _, fun _ _ _ => rfl⟩
theorem Touch.trans {F G : Nat → Prop} {a b c : World} (h : Touch F a b) (k : Touch G b c) (hG : ∀ i, i < a.heap.size → G i → F i) : Touch F a c :=
  ⟨k.os.trans h.os, k.tape.trans h.tape, k.output.trans h.output, Nat.le_trans h.size k.size, fun i hi hf =>
    (k.block i (Nat.lt_of_lt_of_le hi h.size) (fun hg => hf (hG i hi hg))).trans (h.block i hi hf)⟩
theorem Touch.mono {F G : Nat → Prop} {a b : World} (h : Touch F a b) (hG : ∀ i, i < a.heap.size → F i → G i) : Touch G a b :=
  ⟨h.os, h.tape, h.output, h.size, fun i hi hg => h.block i hi (fun hf => hg (hG i hi hf))⟩
theorem Touch.fresh {F : Nat → Prop} {a b : World} (h : Fresh a b) : Touch F a b := h.mono fun _ _ h => False.elim h
theorem Touch.then_fresh {F : Nat → Prop} {a b c : World} (h : Touch F a b) (k : Fresh b c) : Touch F a c := h.trans k fun _ _ h => False.elim h
theorem Touch.alloc {F : Nat → Prop} {a w : World} (h : Touch F a w) (o : Obj) : Touch F a (w.alloc o) :=
  h.then_fresh (show Fresh w (w.alloc o) from ⟨rfl, rfl, rfl, by simp, fun k hk _ => Below.heap_alloc w o k hk⟩)
theorem Touch.drew {F : Nat → Prop} {a w : World} (h : Touch F a w) : Touch F a w.drew := ⟨h.os, h.tape, h.output, h.size, h.block⟩
theorem Touch.drewN {F : Nat → Prop} {a w : World} (h : Touch F a w) (n : Nat) : Touch F a (w.drewN n) := ⟨h.os, h.tape, h.output, h.size, h.block⟩
theorem Touch.setCell {F : Nat → Prop} {a w : World} (h : Touch F a w) (p : Addr) (u : Value) (hp : p.block < a.heap.size → F p.block) : Touch F a (w.setCell p u) :=
  h.trans (G := fun k => k = p.block) ⟨rfl, rfl, rfl, by simp [World.setCell], fun k _ hk => Below.heap_setCell _ _ _ _ hk⟩ fun i hi e => by subst e; exact hp hi
theorem Touch.grown {F : Nat → Prop} {a w w' : World} {row : Option Nat} (h : Touch F a w) (hg : w.grownBy w' row) (hr : ∀ k, row = some k → k < a.heap.size → F k) : Touch F a w' :=
  h.trans (G := fun k => row = some k) ⟨hg.os, hg.tape, hg.output, hg.size, fun k hk hn => hg.block k hk fun e => hn e.symm⟩ fun i hi e => hr i e hi
theorem Touch.of_below {w w' : World} (h : Below w.heap.size w w') : Fresh w w' := ⟨h.os, h.tape, h.output, h.size, fun k hk _ => h.block k hk⟩
theorem Touch.below {w w' : World} (h : Fresh w w') : Below w.heap.size w w' := ⟨h.os, h.tape, h.output, h.size, fun k hk => h.block k hk id⟩
theorem Touch.cell {F : Nat → Prop} {w w' : World} (h : Touch F w w') {p : Addr} (hp : p.block < w.heap.size) (hf : ¬ F p.block) : w'.cell? p = w.cell? p := World.cell?_of_block (w := w) (h.block p.block hp hf)
theorem Touch.frozen {F : Nat → Prop} {w w' : World} (h : Touch F w w') {p : Addr} (hp : p.block < w.heap.size) (hf : ¬ F p.block) : w'.frozen? p = w.frozen? p := World.frozen?_of_block (w := w) (h.block p.block hp hf)
theorem Touch.some {F : Nat → Prop} {w w' : World} (h : Touch F w w') {b : Nat} {o : Obj} (hb : w.heap[b]? = .some o) (hf : ¬ F b) : w'.heap[b]? = .some o := (h.block b (lt_of_block hb) hf).trans hb
theorem Fresh.some {w w' : World} (h : Fresh w w') {b : Nat} {o : Obj} (hb : w.heap[b]? = .some o) : w'.heap[b]? = .some o := Touch.some h hb id
theorem Touch.grownBy {w w' : World} (h : Fresh w w') (row : Option Nat) : w.grownBy w' row := ⟨h.os, h.tape, h.output, h.size, fun k hk _ => h.block k hk id⟩

/-! ### A slice that is read -/
/-- The value is a slice of n elements whose cells are cs, one behind the other. -/
def RowAt (w : World) (v : Value) (n : Nat) (cs : List Value) : Prop :=
  ∃ A c, v = .slice A n c ∧ n ≤ c ∧ c ≤ maxLen ∧ (cs ≠ [] → ∃ b o, A = some ⟨b, o, none⟩ ∧ ∀ j u, cs[j]? = some u → w.cell? ⟨b, o + j, none⟩ = some u)

/-- A value's block is not touched. -/
def Safe (F : Nat → Prop) (v : Value) : Prop := ∀ b, v.ownBlock = some b → ¬ F b

theorem Safe.none (v : Value) : Safe (fun _ => False) v := fun _ _ => id

theorem RowAt.touch {F : Nat → Prop} {w w' : World} {v : Value} {n : Nat} {cs : List Value} (h : RowAt w v n cs) (ht : Touch F w w') (hs : Safe F v) : RowAt w' v n cs := by
  obtain ⟨A, c, rfl, h1, h2, h3⟩ := h
  refine ⟨A, c, rfl, h1, h2, fun hne => ?_⟩
  obtain ⟨b, o, rfl, hc⟩ := h3 hne
  refine ⟨b, o, rfl, fun j u hu => ?_⟩
  have := hc j u hu
  exact (ht.cell (block_lt_of_cell this) (hs b (by simp [Value.ownBlock]))).trans this

theorem RowAt.fresh {w w' : World} {v : Value} {n : Nat} {cs : List Value} (h : RowAt w v n cs) (ht : Fresh w w') : RowAt w' v n cs := h.touch ht (Safe.none v)

theorem RowAt.alloc {w : World} {v : Value} {n : Nat} {cs : List Value} (h : RowAt w v n cs) (o : Obj) : RowAt (w.alloc o) v n cs := h.fresh ((Touch.refl _ _).alloc o)

theorem RowAt.nil (w : World) : RowAt w (.slice none 0 0) 0 [] := ⟨none, 0, rfl, Nat.le_refl _, by simp [maxLen], fun h => absurd rfl h⟩

theorem RowAt.of_owns {w : World} {base : Nat} {e : TypeId} {size : Nat} {v : Value} {n : Nat} {xs : List Value} (h : w.ownsRow base e size v n xs) : RowAt w v n xs := by
  rcases h.2 with ⟨rfl, rfl⟩ | ⟨g, cap, cur, rfl, hb, hg, hnc, hcm, hcs, htake⟩
  · have : xs = [] := List.eq_nil_of_length_eq_zero (by simpa using h.1)
    subst this
    exact RowAt.nil w
  · refine ⟨_, cap, rfl, hnc, hcm, fun _ => ⟨g, 0, rfl, fun j u hu => ?_⟩⟩
    have := h.cells (g := g) rfl j u hu
    rwa [Addr.add_lit] at this

/-- What one element of a row of whole numbers reads as. -/
theorem RowAt.ints {w : World} {k : IntKind} {v : Value} {xs : List Int} (h : RowAt w v xs.length (xs.map (Value.int k))) :
    ∃ A c, v = .slice A xs.length c ∧ xs.length ≤ c ∧ xs.length ≤ 9223372036854775807 ∧ Hid (∀ j, j < xs.length → ∃ b o y, A = some ⟨b, o, none⟩ ∧ Hid (xs[j]? = some y) ∧ w.cell? ⟨b, o + j, none⟩ = some (.int k y)) := by
  obtain ⟨A, c, rfl, h1, h2, h3⟩ := h
  refine ⟨A, c, rfl, h1, by simp only [maxLen] at h2; omega, fun j hj => ?_⟩
  obtain ⟨b, o, rfl, hc⟩ := h3 (by intro e; have := congrArg List.length e; simp at this; subst this; simp at hj)
  exact ⟨b, o, xs[j], rfl, List.getElem?_eq_getElem hj, hc j _ (by simp [List.getElem?_eq_getElem hj])⟩

theorem RowAt.form {w : World} {v : Value} {n : Nat} {cs : List Value} (h : RowAt w v n cs) : ∃ A c, v = .slice A n c ∧ n ≤ c ∧ n ≤ 9223372036854775807 := by
  obtain ⟨A, c, rfl, h1, h2, _⟩ := h
  exact ⟨A, c, rfl, h1, by simp only [maxLen] at h2; omega⟩
theorem RowAt.int_at {w : World} {k : IntKind} {A : Option Addr} {n c : Nat} {xs : List Int} (h : RowAt w (.slice A n c) n (xs.map (Value.int k))) (j : Nat) (hj : j < xs.length) :
    ∃ b o y, A = some ⟨b, o, none⟩ ∧ Hid (xs[j]? = some y) ∧ w.cell? ⟨b, o + j, none⟩ = some (.int k y) := by
  obtain ⟨A', c', e, h1, h2, h3⟩ := h
  injection e with e1 e2 e3
  subst e1
  obtain ⟨b, o, rfl, hc⟩ := h3 (by intro e; have := congrArg List.length e; simp at this; subst this; simp at hj)
  exact ⟨b, o, xs[j], rfl, List.getElem?_eq_getElem hj, hc j _ (by simp [List.getElem?_eq_getElem hj])⟩

theorem ret_int {k : IntKind} {a b : Int} (h : a = b) : Ending.returned (.int k a) = .returned (.int k b) := by rw [h]
theorem ret_bool {a b : Bool} (h : a = b) : Ending.returned (.bool a) = .returned (.bool b) := by rw [h]
theorem ret_str {a b : ByteArray} (h : a = b) : Ending.returned (.string a) = .returned (.string b) := by rw [h]

/-! ### append, of whatever slice is read, onto one that is owned -/
theorem run_append_rowAt {P : Program} {W : World} {base : Nat} {t ty e : TypeId} {z : Value} {size bytes : Nat} (ht : P.underlying t = some (.slice e))
    (hinfo : (P.info? e).map (fun i => (i.zero, i.size, i.bytes)) = some (some z, size, bytes)) (hz : z.cells.size = size) (hsz : 0 < size) (hb0 : 0 < bytes)
    {v : Value} {n : Nat} {xs : List Value} {vx : Value} {m : Nat} {news : List Value} (hown : W.ownsRow base e size v n xs) (hrow : RowAt W vx m news)
    (hl : news.length = m * size) (h1 : ∀ u ∈ news, u.oneCell' = true) (hlen : (n + m) * bytes ≤ 140737488355328) (hbase : base ≤ W.heap.size) :
    ∃ v1 w1, (Builtin.append_ #[t, t] ty #[v, vx]).run P W = .ok v1 w1 ∧ w1.ownsRow base e size v1 (n + m) (xs ++ news) ∧ W.grownBy w1 v.ownBlock ∧ (v1.ownBlock = v.ownBlock ∨ v1.ownBlock = some W.heap.size) := by
  obtain ⟨i0, hi, hz0, hz1, hz2⟩ := info_parts hinfo
  have hnm : n + m ≤ 140737488355328 := Nat.le_trans (Nat.le_mul_of_pos_right _ hb0) hlen
  obtain ⟨A, c, rfl, hmc, hcm, hcells⟩ := hrow
  by_cases hm : m = 0
  · subst hm
    obtain rfl : news = [] := List.eq_nil_of_length_eq_zero (by simpa using hl)
    refine ⟨v, W, ?_, by simpa using hown, World.grownBy.refl W _, .inl rfl⟩
    cases A with
    | none =>
      rcases hown.2 with ⟨rfl, rfl⟩ | ⟨g, cap, cur, rfl, _, _, hnc, _⟩
      · simp [Builtin.append_, run_underlying ht, sizeOf, typeInfo, hi, Builtin.lenOf, Builtin.firstCells]
      · simp [Builtin.append_, run_underlying ht, sizeOf, typeInfo, hi, Builtin.lenOf, Builtin.firstCells, hnc, storeCells]
    | some ad =>
      rcases hown.2 with ⟨rfl, rfl⟩ | ⟨g, cap, cur, rfl, _, _, hnc, _⟩
      · simp [Builtin.append_, run_underlying ht, sizeOf, typeInfo, hi, Builtin.lenOf, Builtin.firstCells, loadCells, loadCellsFrom]
      · simp [Builtin.append_, run_underlying ht, sizeOf, typeInfo, hi, Builtin.lenOf, Builtin.firstCells, hnc, storeCells, loadCells, loadCellsFrom]
  · have hne : news ≠ [] := by
      intro e; subst e
      have : 0 < m * size := Nat.mul_pos (by omega) hsz
      simp at hl; omega
    obtain ⟨b, o, rfl, hc⟩ := hcells hne
    obtain ⟨v1, w1, hr, h2, h3, _, h5⟩ := run_append_own_at (P := P) W base t ty e i0 z size bytes ht hi hz0 hz1 hz2 hz hsz v n xs hown ⟨b, o, none⟩ m c news hl
      (fun j u hu => by rw [Addr.add_lit]; exact hc j u hu) h1 (by simp only [maxLen]; omega) hlen hbase
    exact ⟨v1, w1, hr, h2, h3, h5⟩

theorem wl_append {P : Program} {W : World} {ops : Array Oper} {rest : List Oper} {o : Oper} {a : Act} {Q : Exit → Act → World → Prop} (hgd : o.guard = none) (s x : Operand) (t : TypeId)
    (ho : o.op = .call { callee := .builtin .append, args := #[s, x], argTypes := #[t, t] })
    (base : Nat) (e : TypeId) (z : Value) (size bytes : Nat) (ht : P.underlying t = some (.slice e))
    (hinfo : (P.info? e).map (fun i => (i.zero, i.size, i.bytes)) = some (some z, size, bytes)) (hz : z.cells.size = size) (hsz : 0 < size) (hb0 : 0 < bytes)
    (v : Value) (n : Nat) (xs : List Value) (hs : a.eval s = v) (vx : Value) (m : Nat) (news : List Value) (hx : a.eval x = vx) (hown : W.ownsRow base e size v n xs) (hrow : RowAt W vx m news)
    (hl : news.length = m * size) (h1 : ∀ u ∈ news, u.oneCell' = true) (hlen : (n + m) * bytes ≤ 140737488355328) (hbase : base ≤ W.heap.size)
    (h : ∀ v1 w1, w1.ownsRow base e size v1 (n + m) (xs ++ news) → W.grownBy w1 v.ownBlock → (v1.ownBlock = v.ownBlock ∨ v1.ownBlock = some W.heap.size) → wpList P ops Q rest (a.put o.dst v1) w1) :
    wpList P ops Q (o :: rest) a W := by
  obtain ⟨v1, w1, hr, h2, h3, h4⟩ := run_append_rowAt (ty := o.type) ht hinfo hz hsz hb0 hown hrow hl h1 hlen hbase
  refine wpList_plain hgd fun K hK => ?_
  unfold Oper.wp execOp
  simp only [ho, resolve, invoke, builtin, Sem.run_bind, Sem.run_pure, Result.andThen_ok, List.map_toArray, List.map_cons, List.map_nil, hs, hx, hr]
  exact hK _ _ (h v1 w1 h2 h3 h4)

/-- The box of the elements that are written out behind append's comma. -/
theorem RowAt.box (W : World) (cs : List Value) (e : TypeId) (n : Nat) (hn : n ≤ maxLen) : RowAt (W.alloc (.cells cs.toArray e)) (.slice (some ⟨W.heap.size, 0, none⟩) n n) n cs :=
  ⟨_, n, rfl, Nat.le_refl _, hn, fun _ => ⟨_, 0, rfl, fun j u hu => by rw [Nat.zero_add, World.cell?_alloc_at _ _ _ _ rfl]; simpa using hu⟩⟩

/-! ### a cut of a slice that is read: 'obtain ⟨v', hcut, hrow'⟩ := ..' ahead of the walk, which takes hcut for a rule -/
theorem RowAt.sliced {W : World} {A : Option Addr} {n c : Nat} {cs : List Value} {s : Nat} (h : RowAt W (.slice A n c) n cs) (hs : cs.length = n * s) {l r : Nat} (h1 : l ≤ r) (h2 : r ≤ n) :
    RowAt W (Go.sliced A l r c s) (r - l) ((cs.drop (l * s)).take ((r - l) * s)) := by
  obtain ⟨A', c', e, hnc, hcm, hcell⟩ := h
  injection e with e1 e2 e3
  subst e1; subst e3
  refine ⟨_, _, rfl, by omega, by omega, fun hne => ?_⟩
  have hcs : cs ≠ [] := by intro e; subst e; simp at hne
  obtain ⟨b, o, rfl, hc⟩ := hcell hcs
  have hlr : l < r := by
    rcases Nat.lt_or_ge l r with h | h
    · exact h
    · have : r - l = 0 := by omega
      rw [this] at hne; simp at hne
  refine ⟨b, o + l * s, ?_, fun j u hu => ?_⟩
  · rw [if_neg (by omega)]
    simp [Addr.add]
  · rw [List.getElem?_take] at hu
    split at hu
    · rw [List.getElem?_drop] at hu
      rw [Nat.add_assoc]; exact hc _ u hu
    · cases hu
theorem RowAt.cut_low {P : Program} {t e : TypeId} {z : Value} {size bytes : Nat} (ht : P.underlying t = some (.slice e)) (hinfo : (P.info? e).map (fun i => (i.zero, i.size, i.bytes)) = some (some z, size, bytes))
    {w : World} {v : Value} {n : Nat} {cs : List Value} (h : RowAt w v n cs) (hs : cs.length = n * size) (l : Nat) (hl : l ≤ n) :
    ∃ v', (∀ W : World, (Instr.slice t v (some (.int .i64 (l : Int))) none none).run P W = .ok v' W) ∧ RowAt w v' (n - l) (cs.drop (l * size)) := by
  obtain ⟨i0, hi, hz0, hz1, hz2⟩ := info_parts hinfo
  have hr := h
  obtain ⟨A, c, rfl, hnc, hcm, hcell⟩ := h
  have hel : P.elem t = e := by simp [Program.elem, ht]
  have hu : P.underlying t = some (.slice (P.elem t)) := by rw [hel]; exact ht
  refine ⟨Go.sliced A l n c size, fun W => ?_, ?_⟩
  · rw [run_slice_l W t A n c hu .i64 (l : Int) (Int.natCast_nonneg _) (by omega), hel]
    simp [sizeOf, typeInfo, hi, hz1, Result.andThen]
  · have := hr.sliced hs hl (Nat.le_refl n)
    rwa [List.take_of_length_le (by rw [List.length_drop, hs, ← Nat.sub_mul]; exact Nat.le_refl _)] at this
theorem RowAt.cut_high {P : Program} {t e : TypeId} {z : Value} {size bytes : Nat} (ht : P.underlying t = some (.slice e)) (hinfo : (P.info? e).map (fun i => (i.zero, i.size, i.bytes)) = some (some z, size, bytes))
    {w : World} {v : Value} {n : Nat} {cs : List Value} (h : RowAt w v n cs) (hs : cs.length = n * size) (r : Nat) (hl : r ≤ n) :
    ∃ v', (∀ W : World, (Instr.slice t v none (some (.int .i64 (r : Int))) none).run P W = .ok v' W) ∧ RowAt w v' r (cs.take (r * size)) := by
  obtain ⟨i0, hi, hz0, hz1, hz2⟩ := info_parts hinfo
  have hr := h
  obtain ⟨A, c, rfl, hnc, hcm, hcell⟩ := h
  have hel : P.elem t = e := by simp [Program.elem, ht]
  have hu : P.underlying t = some (.slice (P.elem t)) := by rw [hel]; exact ht
  refine ⟨Go.sliced A 0 r c size, fun W => ?_, ?_⟩
  · rw [run_slice_h W t A n c hu .i64 (r : Int) (Int.natCast_nonneg _) (by omega), hel]
    simp [sizeOf, typeInfo, hi, hz1, Result.andThen]
  · have := hr.sliced hs (Nat.zero_le r) hl
    simpa using this
theorem RowAt.cut_both {P : Program} {t e : TypeId} {z : Value} {size bytes : Nat} (ht : P.underlying t = some (.slice e)) (hinfo : (P.info? e).map (fun i => (i.zero, i.size, i.bytes)) = some (some z, size, bytes))
    {w : World} {v : Value} {n : Nat} {cs : List Value} (h : RowAt w v n cs) (hs : cs.length = n * size) (l r : Nat) (hlr : l ≤ r) (hl : r ≤ n) :
    ∃ v', (∀ W : World, (Instr.slice t v (some (.int .i64 (l : Int))) (some (.int .i64 (r : Int))) none).run P W = .ok v' W) ∧ RowAt w v' (r - l) ((cs.drop (l * size)).take ((r - l) * size)) := by
  obtain ⟨i0, hi, hz0, hz1, hz2⟩ := info_parts hinfo
  have hr := h
  obtain ⟨A, c, rfl, hnc, hcm, hcell⟩ := h
  have hel : P.elem t = e := by simp [Program.elem, ht]
  have hu : P.underlying t = some (.slice (P.elem t)) := by rw [hel]; exact ht
  refine ⟨Go.sliced A l r c size, fun W => ?_, hr.sliced hs hlr hl⟩
  rw [run_slice_lh W t A n c hu .i64 .i64 (l : Int) (r : Int) (Int.natCast_nonneg _) (by omega) (by omega), hel]
  simp [sizeOf, typeInfo, hi, hz1, Result.andThen]

theorem owns_low {w : World} {base base' : Nat} {e : TypeId} {size : Nat} {v : Value} {n : Nat} {xs : List Value} (h : w.ownsRow base e size v n xs) (hb : base' ≤ base) : w.ownsRow base' e size v n xs := by
  refine ⟨h.1, ?_⟩
  rcases h.2 with h2 | ⟨g, cap, cur, hv, hg, r⟩
  · exact .inl h2
  · exact .inr ⟨g, cap, cur, hv, by omega, r⟩
theorem owns_touch {F : Nat → Prop} {w w' : World} {base : Nat} {e : TypeId} {size : Nat} {v : Value} {n : Nat} {xs : List Value} (h : w.ownsRow base e size v n xs) (ht : Touch F w w') (hs : Safe F v) : w'.ownsRow base e size v n xs := by
  refine ⟨h.1, ?_⟩
  rcases h.2 with h2 | ⟨g, cap, cur, rfl, hg, hh, r⟩
  · exact .inl h2
  · exact .inr ⟨g, cap, cur, rfl, hg, ht.some hh (hs g rfl), r⟩
theorem owns_fresh {w w' : World} {base : Nat} {e : TypeId} {size : Nat} {v : Value} {n : Nat} {xs : List Value} (h : w.ownsRow base e size v n xs) (ht : Fresh w w') : w'.ownsRow base e size v n xs := owns_touch h ht (Safe.none v)

theorem Fresh.append {w0 W w1 : World} {base : Nat} {e : TypeId} {size : Nat} {v : Value} {n : Nat} {xs : List Value} (h : Fresh w0 W) (hown : W.ownsRow base e size v n xs) (hb : w0.heap.size ≤ base)
    (hg : W.grownBy w1 v.ownBlock) : Fresh w0 w1 :=
  Touch.grown h hg fun k hk hlt => by have := (hown.lt k hk).1; omega
end Go.Proofs.YtnepdhkjammibaaDoor
