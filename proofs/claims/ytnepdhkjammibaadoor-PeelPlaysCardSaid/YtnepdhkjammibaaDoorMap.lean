/- A map with whole numbers for keys: what its block holds, and what a look-up, a store and a count make of it. -/
import Derived.Test.YtnepdhkjammibaaDoorMem
import Derived.Maps.Keyed
import Derived.Maps.OwnSet
set_option linter.unusedVariables false
set_option linter.unusedSimpArgs false
namespace Go.Proofs.YtnepdhkjammibaaDoor
open Go.RowKit

/-! ### the cells of a block that is known whole -/
theorem cells2 {w : World} {b : Nat} {x0 x1 : Value} {T : TypeId} (h : w.heap[b]? = some (.cells #[x0, x1] T (0, 0))) :
    w.cell? ⟨b, 0, none⟩ = some x0 ∧ w.cell? ⟨b, 1, none⟩ = some x1 ∧ w.frozen? ⟨b, 0, none⟩ = false ∧ w.frozen? ⟨b, 1, none⟩ = false :=
  ⟨cell_of_row _ _ _ _ _ _ h, cell_of_row _ _ _ _ _ _ h, frozen_of_row _ _ _ _ _ h, frozen_of_row _ _ _ _ _ h⟩
theorem cells5 {w : World} {b : Nat} {x0 x1 x2 x3 x4 : Value} {T : TypeId} (h : w.heap[b]? = some (.cells #[x0, x1, x2, x3, x4] T (0, 0))) :
    w.cell? ⟨b, 0, none⟩ = some x0 ∧ w.cell? ⟨b, 1, none⟩ = some x1 ∧ w.cell? ⟨b, 2, none⟩ = some x2 ∧ w.cell? ⟨b, 3, none⟩ = some x3 ∧ w.cell? ⟨b, 4, none⟩ = some x4 :=
  ⟨cell_of_row _ _ _ _ _ _ h, cell_of_row _ _ _ _ _ _ h, cell_of_row _ _ _ _ _ _ h, cell_of_row _ _ _ _ _ _ h, cell_of_row _ _ _ _ _ _ h⟩
/-- What is written is not in a block that is known: it is a row that is owned from a higher block on, or new. -/
theorem kept_row {W w1 : World} {base : Nat} {e : TypeId} {size : Nat} {v : Value} {n : Nat} {xs : List Value} (hown : W.ownsRow base e size v n xs) (hg : W.grownBy w1 v.ownBlock) {b : Nat} {o : Obj} (hb : W.heap[b]? = some o) (hlt : b < base) : w1.heap[b]? = some o :=
  (hg.block b (lt_of_block hb) (by intro e; have := (hown.lt _ e.symm).1; omega)).trans hb

theorem RowAt.boxed (W : World) (cs : List Value) (e : TypeId) (n g : Nat) (hg : g = W.heap.size) (hn : n ≤ maxLen) : RowAt (W.alloc (.cells cs.toArray e)) (.slice (some ⟨g, 0, none⟩) n n) n cs := by
  subst hg; exact RowAt.box W cs e n hn
/-- append, as one step of a region that draws. -/
theorem step_append {P : Program} {W : World} {ops : Array Oper} {o : Oper} {a : Act} {K : Act → World → Prop} {Q : Exit → Act → World → Prop} {E : Prop} (hgd : o.guard = none) (s x : Operand) (t : TypeId)
    (ho : o.op = .call { callee := .builtin .append, args := #[s, x], argTypes := #[t, t] })
    (base : Nat) (e : TypeId) (z : Value) (size bytes : Nat) (ht : P.underlying t = some (.slice e))
    (hinfo : (P.info? e).map (fun i => (i.zero, i.size, i.bytes)) = some (some z, size, bytes)) (hz : z.cells.size = size) (hsz : 0 < size) (hb0 : 0 < bytes)
    (v : Value) (n : Nat) (xs : List Value) (hs : a.eval s = v) (vx : Value) (m : Nat) (news : List Value) (hx : a.eval x = vx) (hown : W.ownsRow base e size v n xs) (hrow : RowAt W vx m news)
    (hl : news.length = m * size) (h1 : ∀ u ∈ news, u.oneCell' = true) (hlen : (n + m) * bytes ≤ 140737488355328) (hbase : base ≤ W.heap.size)
    (h : ∀ v1 w1, w1.ownsRow base e size v1 (n + m) (xs ++ news) → W.grownBy w1 v.ownBlock → (v1.ownBlock = v.ownBlock ∨ v1.ownBlock = some W.heap.size) → K (a.put o.dst v1) w1) :
    if Region.wanted o (yielded ops a.tmps) = true then Oper.wp P o a W K Q else E := by
  have hw : Region.wanted o (yielded ops a.tmps) = true := by simp [Region.wanted, hgd]
  rw [if_pos hw]
  obtain ⟨v1, w1, hr, h2, h3, h4⟩ := run_append_rowAt (ty := o.type) ht hinfo hz hsz hb0 hown hrow hl h1 hlen hbase
  unfold Oper.wp execOp
  simp only [ho, resolve, invoke, builtin, Sem.run_bind, Sem.run_pure, Result.andThen_ok, List.map_toArray, List.map_cons, List.map_nil, hs, hx, hr]
  exact h v1 w1 h2 h3 h4

theorem some_alloc {w : World} {b : Nat} {o : Obj} (h : w.heap[b]? = some o) (o' : Obj) : (w.alloc o').heap[b]? = some o := (Below.heap_alloc w o' b (lt_of_block h)).trans h
theorem owns_ne_cells {w : World} {base : Nat} {e : TypeId} {size : Nat} {v : Value} {n : Nat} {xs : List Value} (h : w.ownsRow base e size v n xs) {p : Nat} {cs : Array Value} {T : TypeId} {fr : Nat × Nat} (hp : w.heap[p]? = some (.cells cs T fr)) (hT : e ≠ T) : v.ownBlock ≠ some p := by
  intro hb
  rcases h.2 with ⟨rfl, _⟩ | ⟨g, cap, cur, rfl, _, hh, _⟩
  · simp [Value.ownBlock] at hb
  · simp [Value.ownBlock] at hb
    subst hb
    rw [hh] at hp
    injection hp with hp
    injection hp with _ ht
    exact hT ht
theorem owns_ne_row {w : World} {b b' : Nat} {e e' : TypeId} {s s' n n' : Nat} {v v' : Value} {xs xs' : List Value} (h : w.ownsRow b e s v n xs) (h' : w.ownsRow b' e' s' v' n' xs') (hne : e ≠ e') : v.ownBlock = none ∨ v.ownBlock ≠ v'.ownBlock := by
  rcases h'.2 with ⟨rfl, _⟩ | ⟨g, cap, cur, rfl, _, hh, _⟩
  · cases hv : v.ownBlock with
    | none => exact .inl rfl
    | some i => exact .inr (by simp [Value.ownBlock])
  · exact .inr (owns_ne_cells h hh hne)

/-- A list of keys and values, as a map. -/
def aget {α : Type} (m : List (Int × α)) (k : Int) : Option α := match m with
  | [] => none
  | p :: r => if p.1 = k then some p.2 else aget r k
def aput {α : Type} (m : List (Int × α)) (k : Int) (v : α) : List (Int × α) := match m with
  | [] => [(k, v)]
  | p :: r => if p.1 = k then (k, v) :: r else p :: aput r k v
theorem aget_aput {α : Type} (m : List (Int × α)) (k j : Int) (v : α) : aget (aput m k v) j = if j = k then some v else aget m j := by
  induction m with
  | nil => simp only [aput, aget]; by_cases h : k = j <;> simp [h, eq_comm]
  | cons p r ih =>
    simp only [aput]
    by_cases hp : p.1 = k
    · rw [if_pos hp]; simp only [aget]
      by_cases hj : k = j
      · subst hj; simp
      · rw [if_neg hj, if_neg (fun e => hj e.symm), if_neg (fun e => hj (hp.symm.trans e))]
    · rw [if_neg hp]; simp only [aget, ih]
      by_cases hj : p.1 = j
      · rw [if_pos hj, if_neg (fun e => hp (hj.trans e)), if_pos hj]
      · rw [if_neg hj, if_neg hj]
theorem aput_keys {α : Type} (m : List (Int × α)) (k : Int) (v : α) : (aput m k v).map (·.1) = if (aget m k).isSome then m.map (·.1) else m.map (·.1) ++ [k] := by
  induction m with
  | nil => rfl
  | cons p r ih =>
    simp only [aput, aget]
    by_cases hp : p.1 = k
    · simp [hp]
    · simp only [if_neg hp, List.map_cons, ih]; split <;> rfl
theorem aget_none {α : Type} {m : List (Int × α)} {k : Int} : aget m k = none ↔ k ∉ m.map (·.1) := by
  induction m with
  | nil => simp [aget]
  | cons p r ih =>
    simp only [aget]
    by_cases hp : p.1 = k
    · simp [hp]
    · rw [if_neg hp, ih, List.map_cons, List.mem_cons, not_or]; exact ⟨fun h => ⟨fun e => hp e.symm, h⟩, fun h => h.2⟩
theorem aput_len {α : Type} (m : List (Int × α)) (k : Int) (v : α) : (aput m k v).length = if (aget m k).isSome then m.length else m.length + 1 := by
  have := congrArg List.length (aput_keys m k v)
  rw [List.length_map] at this
  rw [this]; split <;> simp
theorem aput_nodup {α : Type} {m : List (Int × α)} (h : (m.map (·.1)).Nodup) (k : Int) (v : α) : ((aput m k v).map (·.1)).Nodup := by
  rw [aput_keys]
  split
  · exact h
  · rename_i hn
    have : aget m k = none := by cases hh : aget m k <;> simp_all
    rw [List.nodup_append]
    exact ⟨h, by simp, fun a ha b hb e => by simp at hb; subst hb; subst e; exact aget_none.1 this ha⟩

/-- Block b is a map with keys of a kind, holding m. -/
def MapAt (w : World) (kk : IntKind) (b : Nat) (m : List (Int × Value)) : Prop :=
  ∃ es clock, w.heap[b]? = some (.map es clock) ∧ es.toList.map (fun e => (e.key, e.val)) = m.map (fun p => (Value.int kk p.1, p.2)) ∧ (m.map (·.1)).Nodup

theorem MapAt.lt {w : World} {kk : IntKind} {b : Nat} {m : List (Int × Value)} (h : MapAt w kk b m) : b < w.heap.size := by
  obtain ⟨es, cl, hb, _⟩ := h; exact lt_of_block hb
theorem MapAt.touch {F : Nat → Prop} {w w' : World} {kk : IntKind} {b : Nat} {m : List (Int × Value)} (h : MapAt w kk b m) (ht : Touch F w w') (hb : ¬ F b) : MapAt w' kk b m := by
  obtain ⟨es, cl, hh, r⟩ := h
  exact ⟨es, cl, ht.some hh hb, r⟩
theorem MapAt.drew {w : World} {kk : IntKind} {b : Nat} {m : List (Int × Value)} (h : MapAt w kk b m) : MapAt w.drew kk b m := h
theorem MapAt.fresh {w w' : World} {kk : IntKind} {b : Nat} {m : List (Int × Value)} (h : MapAt w kk b m) (ht : Fresh w w') : MapAt w' kk b m := h.touch ht id
theorem owns_ne_map {w : World} {base : Nat} {e : TypeId} {size : Nat} {v : Value} {n : Nat} {xs : List Value} (h : w.ownsRow base e size v n xs) {kk : IntKind} {b : Nat} {m : List (Int × Value)} (hm : MapAt w kk b m) : v.ownBlock ≠ some b := by
  obtain ⟨es, cl, hh, _⟩ := hm
  intro hb
  rcases h.2 with ⟨rfl, _⟩ | ⟨g, cap, cur, rfl, _, hg, _⟩
  · simp [Value.ownBlock] at hb
  · simp [Value.ownBlock] at hb
    subst hb
    rw [hh] at hg
    cases hg
theorem MapAt.ne_cells {w : World} {kk : IntKind} {b p : Nat} {m : List (Int × Value)} {cs : Array Value} {T : TypeId} {fr : Nat × Nat} (hm : MapAt w kk b m) (hp : w.heap[p]? = some (.cells cs T fr)) : b ≠ p := by
  obtain ⟨es, cl, hh, _⟩ := hm
  intro e; subst e; rw [hh] at hp; cases hp
theorem MapAt.made (w : World) (kk : IntKind) : MapAt (w.alloc (.map #[] 0)) kk w.heap.size [] := ⟨#[], 0, (MapKept.heap_alloc w _).1, by simp, by simp⟩

theorem findNow_at (d : TypeDesc) (kk : IntKind) (hd : d = .int kk) (k : Int) : ∀ (es : List MapEntry) (m : List (Int × Value)) (i : Nat), es.map (fun e => (e.key, e.val)) = m.map (fun p => (Value.int kk p.1, p.2)) →
    (aget m k = none ∧ Instr.findNow d (.int kk k) es i = some none) ∨ ∃ j v, aget m k = some v ∧ Instr.findNow d (.int kk k) es i = some (some (i + j, v)) ∧ (es[j]?).map (fun e => (e.key, e.val)) = some (.int kk k, v) ∧ (∀ u, (es.modify j fun e => { e with key := .int kk k, val := u }).map (fun e => (e.key, e.val)) = (aput m k u).map (fun p => (Value.int kk p.1, p.2))) := by
  intro es
  induction es with
  | nil =>
    intro m i h
    cases m with
    | nil => left; exact ⟨rfl, rfl⟩
    | cons _ _ => simp at h
  | cons e es ih =>
    intro m i h
    cases m with
    | nil => simp at h
    | cons p m =>
      simp only [List.map_cons, List.cons.injEq, Prod.mk.injEq] at h
      obtain ⟨⟨hk, hv⟩, hr⟩ := h
      subst hd
      by_cases hp : p.1 = k
      · right
        refine ⟨0, p.2, by simp [aget, hp], ?_, ?_, ?_⟩
        · simp [Instr.findNow, Instr.sameNow, hk, hp, hv]
        · simp [hk, hp, hv]
        · intro u
          simp [aput, hp, hr]
      · rcases ih m (i + 1) hr with ⟨h1, h2⟩ | ⟨j, v, h1, h2, h3, h4⟩
        · left
          have : ¬ k = p.1 := fun e => hp e.symm
          refine ⟨by simp [aget, hp, h1], ?_⟩
          rw [Instr.findNow]
          simp only [Instr.sameNow, hk, if_true]
          rw [show (k == p.1) = false by simp [this]]
          exact h2
        · right
          have : ¬ k = p.1 := fun e => hp e.symm
          refine ⟨j + 1, v, by simp [aget, hp, h1], ?_, by simpa using h3, ?_⟩
          · rw [Instr.findNow]
            simp only [Instr.sameNow, hk, if_true]
            rw [show (k == p.1) = false by simp [this]]
            simp only [h2]
            congr 3; omega
          · intro u
            have := h4 u
            simp [aput, hp, hk, hv, this]

theorem checkKey_int {P : Program} {K : TypeId} {kk : IntKind} (hK : P.underlying K = some (.int kk)) (empty : Bool) (n : Nat) (k : Int) (w : World) : (Instr.checkKey empty (n + 1) K (.int kk k)).run P w = .ok () w := by
  simp [Instr.checkKey, run_underlying hK, Result.andThen]

theorem MapAt.lookup {P : Program} {T K E : TypeId} {kk : IntKind} (hT : P.underlying T = some (.map K E)) (hK : P.underlying K = some (.int kk)) {w : World} {b : Nat} {m : List (Int × Value)} (h : MapAt w kk b m)
    {z : Value} (hz : (zeroValue E).run P w = .ok z w) (k : Int) (c : Bool) :
    (Instr.lookup T (.map (some b)) (.int kk k) c).run P w = .ok (if c then .tuple #[(aget m k).getD z, .bool (aget m k).isSome] else (aget m k).getD z) w := by
  obtain ⟨es, cl, hb, hm, hnd⟩ := h
  rcases findNow_at (.int kk) kk rfl k es.toList m 0 hm with ⟨h1, h2⟩ | ⟨j, v, h1, h2, h3, h4⟩
  · simp [Instr.lookup, run_underlying hT, run_underlying hK, MapKept.run_getObj_map hb, checkKey_int hK, Instr.findKey, h1, h2, hz, Result.andThen]
  · simp [Instr.lookup, run_underlying hT, run_underlying hK, MapKept.run_getObj_map hb, checkKey_int hK, Instr.findKey, h1, h2, hz, Result.andThen]

theorem MapAt.update {P : Program} {T K E : TypeId} {kk : IntKind} (hT : P.underlying T = some (.map K E)) (hK : P.underlying K = some (.int kk)) {w : World} {b : Nat} {m : List (Int × Value)} (h : MapAt w kk b m)
    (k : Int) (u : Value) : ∃ W, (Instr.mapUpdate T (.map (some b)) (.int kk k) u).run P w = .ok () W ∧ MapAt W kk b (aput m k u) ∧ Touch (fun i => i = b) w W ∧ W.heap.size = w.heap.size := by
  obtain ⟨es, cl, hb, hm, hnd⟩ := h
  have hlt := lt_of_block hb
  have step : ∀ (es' : Array MapEntry) (cl' : Nat), es'.toList.map (fun e => (e.key, e.val)) = (aput m k u).map (fun p => (Value.int kk p.1, p.2)) →
      MapAt { w with heap := w.heap.setIfInBounds b (.map es' cl') } kk b (aput m k u) ∧ Touch (fun i => i = b) w { w with heap := w.heap.setIfInBounds b (.map es' cl') } ∧ ({ w with heap := w.heap.setIfInBounds b (.map es' cl') } : World).heap.size = w.heap.size := by
    intro es' cl' he
    refine ⟨⟨es', cl', by simp [hlt], he, aput_nodup hnd k u⟩, ⟨rfl, rfl, rfl, by simp, fun i hi hne => ?_⟩, by simp⟩
    rw [Array.getElem?_setIfInBounds_ne (fun e => hne e.symm)]
  rcases findNow_at (.int kk) kk rfl k es.toList m 0 hm with ⟨h1, h2⟩ | ⟨j, v, h1, h2, h3, h4⟩
  · refine ⟨{ w with heap := w.heap.setIfInBounds b (.map (es.push ⟨.int kk k, u, cl⟩) (cl + 1)) }, ?_, step _ _ ?_⟩
    · simp [Instr.mapUpdate, run_underlying hT, run_underlying hK, MapKept.run_getObj_map hb, MapKept.run_setObj_map _ hb, checkKey_int hK, Instr.findKey, h2, Result.andThen]
    · have : aput m k u = m ++ [(k, u)] := by
        clear hm hnd h2 step
        induction m with
        | nil => rfl
        | cons p r ih =>
          simp only [aget] at h1
          split at h1
          · cases h1
          · rename_i hp; simp [aput, hp, ih h1]
      rw [this]
      simp [hm]
  · rw [Nat.zero_add] at h2
    refine ⟨{ w with heap := w.heap.setIfInBounds b (.map (es.modify j fun e => { e with key := .int kk k, val := u }) cl) }, ?_, step _ _ ?_⟩
    · have h3' : (es[j]?).map (·.key) = some (.int kk k) := by
        rw [Array.getElem?_toList] at h3
        cases hh : es[j]? with
        | none => rw [hh] at h3; simp at h3
        | some e => rw [hh] at h3; simp at h3; simp [h3.1]
      simp [Instr.mapUpdate, run_underlying hT, run_underlying hK, MapKept.run_getObj_map hb, MapKept.run_setObj_map _ hb, checkKey_int hK, Instr.findKey, h2, Result.andThen]
      cases hh : es[j]? with
      | none => rw [hh] at h3'; simp at h3'
      | some e =>
        rw [hh] at h3'; simp at h3'
        simp [h3', Instr.keyThatStays, Instr.sameBits, MapKept.run_setObj_map _ hb]
    · have := h4 u
      rw [Array.toList_modify]
      exact this

theorem MapAt.len {P : Program} {T K E ty : TypeId} {kk : IntKind} (hT : P.underlying T = some (.map K E)) {w : World} {b : Nat} {m : List (Int × Value)} (h : MapAt w kk b m) :
    (Builtin.len_ #[T] ty #[.map (some b)]).run P w = .ok (.int .i64 m.length) w := by
  obtain ⟨es, cl, hb, hm, hnd⟩ := h
  have : es.size = m.length := by have := congrArg List.length hm; simpa using this
  simp [Builtin.len_, run_underlying hT, MapKept.run_getObj_map hb, this, Result.andThen, goInt]

theorem wl_len {P : Program} {w : World} {ops : Array Oper} {rest : List Oper} {o : Oper} {a : Act} {Q : Exit → Act → World → Prop} (hg : o.guard = none) (T : TypeId) (x : Operand) (hop : o.op = .call { callee := .builtin .len, args := #[x], argTypes := #[T] })
    {K E : TypeId} {kk : IntKind} (hT : P.underlying T = some (.map K E)) {b : Nat} {m : List (Int × Value)} (h : MapAt w kk b m) (hx : a.eval x = .map (some b))
    (hK' : wpList P ops Q rest (a.put o.dst (.int .i64 m.length)) w) : wpList P ops Q (o :: rest) a w := by
  refine wpList_plain hg fun K' hK'' => ?_
  unfold Oper.wp execOp
  simp only [hop, resolve, invoke, builtin, Sem.run_bind, Sem.run_pure, Result.andThen_ok, List.map_toArray, List.map_cons, List.map_nil, hx, h.len (ty := o.type) hT]
  exact hK'' _ _ hK'

theorem wl_lookup {P : Program} {w : World} {ops : Array Oper} {rest : List Oper} {o : Oper} {a : Act} {Q : Exit → Act → World → Prop} (hg : o.guard = none) (T : TypeId) (x i : Operand) (c : Bool) (hop : o.op = Op.lookup T x i c)
    {K E : TypeId} {kk : IntKind} (hT : P.underlying T = some (.map K E)) (hK : P.underlying K = some (.int kk)) {b : Nat} {m : List (Int × Value)} (h : MapAt w kk b m) {z : Value} (hz : (zeroValue E).run P w = .ok z w) (k : Int)
    (hx : a.eval x = .map (some b)) (hi : a.eval i = .int kk k)
    (hK' : wpList P ops Q rest (a.put o.dst (if c then .tuple #[(aget m k).getD z, .bool (aget m k).isSome] else (aget m k).getD z)) w) : wpList P ops Q (o :: rest) a w := by
  refine wpList_plain hg fun K' hK'' => ?_
  unfold Oper.wp
  simp only [execOp, hop, hx, hi, Sem.run_bind, h.lookup hT hK hz k c, Result.andThen, Sem.run_pure]
  exact hK'' _ _ hK'

theorem wl_lookup_is {P : Program} {w : World} {ops : Array Oper} {rest : List Oper} {o : Oper} {a : Act} {Q : Exit → Act → World → Prop} (hg : o.guard = none) (T : TypeId) (x i : Operand) (c : Bool) (hop : o.op = Op.lookup T x i c)
    {K E : TypeId} {kk : IntKind} (hT : P.underlying T = some (.map K E)) (hK : P.underlying K = some (.int kk)) {b : Nat} {m : List (Int × Value)} (h : MapAt w kk b m) {z : Value} (hz : (zeroValue E).run P w = .ok z w) (k : Int)
    (hx : a.eval x = .map (some b)) (hi : a.eval i = .int kk k) (r : Option Value) (hr : aget m k = r)
    (hK' : wpList P ops Q rest (a.put o.dst (if c then .tuple #[r.getD z, .bool r.isSome] else r.getD z)) w) : wpList P ops Q (o :: rest) a w := by
  subst hr
  exact wl_lookup hg T x i c hop hT hK h hz k hx hi hK'

theorem wl_mapUpdate {P : Program} {w : World} {ops : Array Oper} {rest : List Oper} {o : Oper} {a : Act} {Q : Exit → Act → World → Prop} (hg : o.guard = none) (T : TypeId) (x i v : Operand) (hop : o.op = Op.mapUpdate T x i v)
    {K E : TypeId} {kk : IntKind} (hT : P.underlying T = some (.map K E)) (hK : P.underlying K = some (.int kk)) {b : Nat} {m : List (Int × Value)} (h : MapAt w kk b m) (k : Int) (u : Value)
    (hx : a.eval x = .map (some b)) (hi : a.eval i = .int kk k) (hv : a.eval v = u)
    (hK' : ∀ W, MapAt W kk b (aput m k u) → Touch (fun i => i = b) w W → W.heap.size = w.heap.size → wpList P ops Q rest (a.put o.dst undef) W) : wpList P ops Q (o :: rest) a w := by
  refine wpList_plain hg fun K' hK'' => ?_
  obtain ⟨W, h1, h2, h3, h4⟩ := h.update hT hK k u
  unfold Oper.wp
  simp only [execOp, hop, hx, hi, hv, Sem.run_bind, h1, Result.andThen, Sem.run_pure]
  exact hK'' _ _ (hK' W h2 h3 h4)
end Go.Proofs.YtnepdhkjammibaaDoor
