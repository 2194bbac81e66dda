/- Plain numbers: the next number, degrees, and the set of a seed; that drawing comes to an end (asked of the kernel, seed by seed). -/
set_option linter.unusedVariables false
set_option linter.unusedSimpArgs false
namespace Go.Proofs.YtnepdhkjammibaaDoor
namespace Sp

def nxt (n : Int) : Int := n * 16807 % 2147483647

/-- The least d from the one given on, looked for f times. -/
def degFrom (k n : Int) : Nat → Int → Int
  | 0, d => d
  | f + 1, d => if 1000 * (d + k * (d - 1)) ≤ n * k * d then degFrom k n f (d + 1) else d
def deg (k n : Int) : Int := if n * k < 1000 then 1 else degFrom k n 16 2

/-- Draw till there are d different ones. -/
def draw (k d : Int) : Nat → Int → List Int → List Int
  | 0, _, l => l
  | f + 1, n, l => if (l.length : Int) < d then (if nxt n % k ∈ l then draw k d f (nxt n) l else draw k d f (nxt n) (l ++ [nxt n % k])) else l

/-- Into a list that rises. -/
def ins (x : Int) : List Int → List Int
  | [] => [x]
  | y :: l => if y < x then y :: ins x l else x :: y :: l
def isort (l : List Int) : List Int := l.foldl (fun acc x => ins x acc) []

def setU (k seed : Int) : List Int := if seed ≤ k then [seed - 1] else draw k (deg k (nxt seed % 1000)) 150 (nxt seed) []
def setOf (k seed : Int) : List Int := isort (setU k seed)

theorem nxt_range {n : Int} (h : 1 ≤ n) : 0 ≤ nxt n ∧ nxt n ≤ 2147483646 := by unfold nxt; omega

theorem mul_bd {a b A B : Int} (h0 : 0 ≤ a) (h1 : a ≤ A) (h2 : 0 ≤ b) (h3 : b ≤ B) : 0 ≤ a * b ∧ a * b ≤ A * B :=
  ⟨Int.mul_nonneg h0 h2, Int.mul_le_mul h1 h3 h2 (by omega)⟩

/-- At k it stops. -/
theorem deg_stop {k n : Int} (hk : 1 ≤ k) (hn : n ≤ 999) : ¬ 1000 * (k + k * (k - 1)) ≤ n * k * k := by
  have e1 : k * (k - 1) = k * k - k := by rw [Int.mul_sub, Int.mul_one]
  have e2 : n * k * k = n * (k * k) := Int.mul_assoc _ _ _
  have h1 : 0 < k * k := Int.mul_pos (by omega) (by omega)
  have h2 : n * (k * k) ≤ 999 * (k * k) := Int.mul_le_mul_of_nonneg_right hn (by omega)
  rw [e1, e2]; omega
theorem degFrom_step {k n d : Int} {f : Nat} (h : 1000 * (d + k * (d - 1)) ≤ n * k * d) : degFrom k n (f + 1) d = degFrom k n f (d + 1) := by rw [degFrom, if_pos h]
theorem degFrom_here {k n d : Int} {f : Nat} (h : ¬ 1000 * (d + k * (d - 1)) ≤ n * k * d) : degFrom k n f d = d := by
  cases f with
  | zero => rfl
  | succ f => rw [degFrom, if_neg h]
theorem degFrom_range {k n : Int} (hk : 1 ≤ k) (hn : n ≤ 999) : ∀ (f : Nat) (d : Int), d ≤ k → d ≤ degFrom k n f d ∧ degFrom k n f d ≤ k := by
  intro f
  induction f with
  | zero => intro d h; exact ⟨Int.le_refl _, h⟩
  | succ f ih =>
    intro d h
    by_cases hc : 1000 * (d + k * (d - 1)) ≤ n * k * d
    · rw [degFrom_step hc]
      have hne : d ≠ k := by intro e; subst e; exact deg_stop hk hn hc
      have := ih (d + 1) (by omega)
      omega
    · rw [degFrom_here hc]; omega
theorem two_le {k n : Int} (hk : 1 ≤ k) (hn : n ≤ 999) (h : ¬ n * k < 1000) : 2 ≤ k := by
  rcases Int.lt_or_le k 2 with h2 | h2
  · have : k = 1 := by omega
    subst this; omega
  · exact h2
theorem deg_range {k n : Int} (hk : 1 ≤ k) (hn : n ≤ 999) : 1 ≤ deg k n ∧ deg k n ≤ k := by
  unfold deg
  by_cases h : n * k < 1000
  · rw [if_pos h]; omega
  · rw [if_neg h]
    have := degFrom_range hk hn 16 2 (two_le hk hn h)
    omega

/-! ### drawing, step by step -/
theorem nxt_bd (n : Int) : 0 ≤ nxt n ∧ nxt n ≤ 2147483646 := by unfold nxt; omega
theorem draw_go {k d : Int} {g : Nat} {n : Int} {l U : List Int} (h : draw k d g n l = U) (hU : (U.length : Int) = d) (hl : (l.length : Int) < d) :
    ∃ g', g = g' + 1 ∧ (nxt n % k ∈ l → draw k d g' (nxt n) l = U) ∧ (nxt n % k ∉ l → draw k d g' (nxt n) (l ++ [nxt n % k]) = U) := by
  cases g with
  | zero => rw [draw] at h; subst h; omega
  | succ g =>
    refine ⟨g, rfl, ?_, ?_⟩
    · intro hm; rw [draw, if_pos hl, if_pos hm] at h; exact h
    · intro hm; rw [draw, if_pos hl, if_neg hm] at h; exact h
theorem draw_stop {k d : Int} {g : Nat} {n : Int} {l U : List Int} (h : draw k d g n l = U) (hl : ¬ (l.length : Int) < d) : l = U := by
  cases g with
  | zero => exact h
  | succ g => rw [draw, if_neg hl] at h; exact h

theorem ins_perm (x : Int) (l : List Int) : (ins x l).Perm (x :: l) := by
  induction l with
  | nil => exact .refl _
  | cons y l ih =>
    rw [ins]
    split
    · exact (List.Perm.cons y ih).trans (List.Perm.swap x y l)
    · exact .refl _
theorem isort_snoc (l : List Int) (x : Int) : isort (l ++ [x]) = ins x (isort l) := by simp [isort]
theorem snoc_ind {P : List Int → Prop} (h0 : P []) (h1 : ∀ l x, P l → P (l ++ [x])) (l : List Int) : P l := by
  have : ∀ m : List Int, P m.reverse := by
    intro m
    induction m with
    | nil => exact h0
    | cons a m ih => rw [List.reverse_cons]; exact h1 _ _ ih
  have := this l.reverse
  rwa [List.reverse_reverse] at this
theorem isort_perm (l : List Int) : (isort l).Perm l := by
  refine snoc_ind (P := fun l => (isort l).Perm l) (.refl _) (fun l x ih => ?_) l
  rw [isort_snoc]
  exact (ins_perm x _).trans ((List.Perm.cons x ih).trans (List.perm_append_singleton x l).symm)
theorem ins_sorted (x : Int) {l : List Int} (h : l.Pairwise (· ≤ ·)) : (ins x l).Pairwise (· ≤ ·) := by
  induction l with
  | nil => simp [ins]
  | cons y l ih =>
    rw [ins]
    rw [List.pairwise_cons] at h
    split
    · rename_i hlt
      rw [List.pairwise_cons]
      refine ⟨fun z hz => ?_, ih h.2⟩
      rcases List.mem_cons.1 ((ins_perm x l).mem_iff.1 hz) with rfl | hz
      · omega
      · exact h.1 z hz
    · rename_i hle
      rw [List.pairwise_cons]
      refine ⟨fun z hz => ?_, List.pairwise_cons.2 h⟩
      rcases List.mem_cons.1 hz with rfl | hz
      · omega
      · have := h.1 z hz; omega
theorem isort_sorted (l : List Int) : (isort l).Pairwise (· ≤ ·) := by
  refine snoc_ind (P := fun l => (isort l).Pairwise (· ≤ ·)) (by simp [isort]) (fun l x ih => ?_) l
  rw [isort_snoc]; exact ins_sorted x ih
theorem isort_unique {l m : List Int} (hp : m.Perm l) (hs : m.Pairwise (· ≤ ·)) : m = isort l :=
  List.Perm.eq_of_pairwise (le := (· ≤ ·)) (fun a b _ _ h1 h2 => by omega) hs (isort_sorted l) (hp.trans (isort_perm l).symm)
theorem mergeSort_isort (l : List Int) : (l.mergeSort fun x y => decide (x ≤ y)) = isort l := by
  refine isort_unique (List.mergeSort_perm l _) ?_
  have := List.pairwise_mergeSort (le := fun x y : Int => decide (x ≤ y)) (by intro a b c h1 h2; simp at *; omega) (by intro a b; simp; omega) l
  exact this.imp (by intro a b h; simpa using h)
theorem mem_isort {l : List Int} {x : Int} : x ∈ isort l ↔ x ∈ l := (isort_perm l).mem_iff
theorem length_isort (l : List Int) : (isort l).length = l.length := (isort_perm l).length_eq

/-! ### the kernel's part: numbers from 0 on, a mask for the list -/
def degN (k n : Nat) : Nat → Nat → Nat
  | 0, d => d
  | f + 1, d => if 1000 * (d + k * (d - 1)) ≤ n * k * d then degN k n f (d + 1) else d
def chk (k d : Nat) (f : Nat) : Nat → Nat → Nat → Bool :=
  Nat.rec (fun _ _ c => Nat.beq c d) (fun _ ih n m c => bif Nat.ble d c then Nat.beq c d else
    (fun n' => (fun r => bif Nat.beq ((m >>> r) % 2) 1 then ih n' m c else ih n' (m ||| (1 <<< r)) (c + 1)) (n' % k)) (n * 16807 % 2147483647)) f
def chkSeed (k s : Nat) : Bool := (fun n => chk k (if n % 1000 * k < 1000 then 1 else degN k (n % 1000) 16 2) 150 n 0 0) (s * 16807 % 2147483647)
def allK (s : Nat) (k : Nat) : Bool := Nat.rec true (fun k ih => chkSeed (k + 1) s && ih) k
def allS (s0 : Nat) (n : Nat) : Bool := Nat.rec true (fun i ih => allK (s0 + i) 16 && ih) n

theorem allK_at {s : Nat} : ∀ {m : Nat}, allK s m = true → ∀ k, 1 ≤ k → k ≤ m → chkSeed k s = true := by
  intro m
  induction m with
  | zero => intro _ k h1 h2; omega
  | succ m ih =>
    intro h k h1 h2
    have h' : (chkSeed (m + 1) s && allK s m) = true := h
    rw [Bool.and_eq_true] at h'
    by_cases e : k = m + 1
    · subst e; exact h'.1
    · exact ih h'.2 k h1 (by omega)
theorem allS_at {s0 : Nat} : ∀ {m : Nat}, allS s0 m = true → ∀ s, s0 ≤ s → s < s0 + m → allK s 16 = true := by
  intro m
  induction m with
  | zero => intro _ k h1 h2; omega
  | succ m ih =>
    intro h s h1 h2
    have h' : (allK (s0 + m) 16 && allS s0 m) = true := h
    rw [Bool.and_eq_true] at h'
    by_cases e : s = s0 + m
    · subst e; exact h'.1
    · exact ih h'.2 s h1 (by omega)

theorem chk_zero (k d n m c : Nat) : chk k d 0 n m c = Nat.beq c d := rfl
theorem chk_succ (k d f n m c : Nat) : chk k d (f + 1) n m c = bif Nat.ble d c then Nat.beq c d else
    (bif Nat.beq ((m >>> (n * 16807 % 2147483647 % k)) % 2) 1 then chk k d f (n * 16807 % 2147483647) m c else chk k d f (n * 16807 % 2147483647) (m ||| (1 <<< (n * 16807 % 2147483647 % k))) (c + 1)) := rfl

theorem testBit_iff (m r : Nat) : Nat.beq ((m >>> r) % 2) 1 = m.testBit r := by
  rw [Nat.testBit, Nat.and_comm, Nat.and_one_is_mod]
  have := Nat.mod_two_eq_zero_or_one (m >>> r)
  rcases this with h | h <;> rw [h] <;> rfl

theorem nxt_cast (n : Nat) : nxt (n : Int) = ((n * 16807 % 2147483647 : Nat) : Int) := by unfold nxt; omega

theorem draw_len (k d : Nat) (hk : 1 ≤ k) : ∀ (f n m c : Nat) (l : List Int), chk k d f n m c = true → l.length = c → (∀ r, r < k → (m.testBit r = true ↔ (r : Int) ∈ l)) → (draw k d f n l).length = d := by
  intro f
  induction f with
  | zero =>
    intro n m c l h hl _
    rw [chk_zero] at h
    have := Nat.eq_of_beq_eq_true h
    simp only [draw]; omega
  | succ f ih =>
    intro n m c l h hl hm
    rw [chk_succ] at h
    simp only [draw]
    by_cases hc : c < d
    · have hb : Nat.ble d c = false := by
        rcases hx : Nat.ble d c with _ | _
        · rfl
        · have := Nat.le_of_ble_eq_true hx; omega
      rw [hb, cond_false, testBit_iff] at h
      rw [if_pos (by omega), nxt_cast]
      have hr : n * 16807 % 2147483647 % k < k := Nat.mod_lt _ (by omega)
      have hcast : ((n * 16807 % 2147483647 : Nat) : Int) % (k : Int) = ((n * 16807 % 2147483647 % k : Nat) : Int) := by simp
      rw [hcast]
      generalize n * 16807 % 2147483647 = n' at h hr
      by_cases hin : ((n' % k : Nat) : Int) ∈ l
      · rw [if_pos hin]
        rw [(hm _ hr).2 hin, cond_true] at h
        exact ih _ _ _ _ h hl hm
      · rw [if_neg hin]
        have hf : m.testBit (n' % k) = false := by
          rcases hx : m.testBit (n' % k) with _ | _
          · rfl
          · exact absurd ((hm _ hr).1 hx) hin
        rw [hf, cond_false] at h
        refine ih _ _ _ _ h (by simp [hl]) fun r hrk => ?_
        rw [Nat.testBit_or, Nat.one_shiftLeft, Nat.testBit_two_pow, Bool.or_eq_true, hm r hrk, List.mem_append, List.mem_singleton, decide_eq_true_eq]
        constructor
        · rintro (h | h)
          · exact .inl h
          · exact .inr (by rw [h])
        · rintro (h | h)
          · exact .inl h
          · exact .inr (by omega)
    · have hb : Nat.ble d c = true := Nat.ble_eq_true_of_le (by omega)
      rw [hb, cond_true] at h
      have := Nat.eq_of_beq_eq_true h
      rw [if_neg (by omega)]
      omega

theorem degN_cast (k n : Nat) : ∀ (f d : Nat), 1 ≤ d → degFrom k n f d = (degN k n f d : Nat) := by
  intro f
  induction f with
  | zero => intro d _; rfl
  | succ f ih =>
    intro d hd
    have e : ((1000 : Int) * ((d : Int) + (k : Int) * ((d : Int) - 1)) ≤ (n : Int) * k * d) ↔ (1000 * (d + k * (d - 1)) ≤ n * k * d) := by
      have h1 : ((d - 1 : Nat) : Int) = (d : Int) - 1 := by omega
      rw [← h1]
      show ((1000 : Nat) : Int) * ((d : Int) + (k : Int) * ((d - 1 : Nat) : Int)) ≤ (n : Int) * k * d ↔ _
      rw [← Int.natCast_mul k, ← Int.natCast_add, ← Int.natCast_mul 1000, ← Int.natCast_mul n, ← Int.natCast_mul (n * k)]
      exact Int.ofNat_le
    simp only [degFrom, degN]
    by_cases h : 1000 * (d + k * (d - 1)) ≤ n * k * d
    · rw [if_pos h, if_pos (e.2 h)]
      have := ih (d + 1) (by omega)
      simpa using this
    · rw [if_neg h, if_neg (fun hh => h (e.1 hh))]

theorem deg_cast (k n : Nat) : deg k n = ((if n * k < 1000 then 1 else degN k n 16 2 : Nat) : Int) := by
  unfold deg
  have e : ((n : Int) * k < 1000) ↔ n * k < 1000 := by
    rw [← Int.natCast_mul n]
    exact Int.ofNat_lt (m := 1000)
  by_cases h : n * k < 1000
  · rw [if_pos h, if_pos (e.2 h)]; rfl
  · rw [if_neg h, if_neg (fun hh => h (e.1 hh))]
    exact degN_cast k n 16 2 (by omega)

theorem draw_of_chk (k s : Nat) (hk : 1 ≤ k) (h : chkSeed k s = true) : ((draw k (deg k (nxt s % 1000)) 150 (nxt s) []).length : Int) = deg k (nxt s % 1000) := by
  have h' : chk k (if s * 16807 % 2147483647 % 1000 * k < 1000 then 1 else degN k (s * 16807 % 2147483647 % 1000) 16 2) 150 (s * 16807 % 2147483647) 0 0 = true := h
  rw [nxt_cast]
  have e : ((s * 16807 % 2147483647 : Nat) : Int) % 1000 = ((s * 16807 % 2147483647 % 1000 : Nat) : Int) := by omega
  rw [e, deg_cast]
  exact congrArg Nat.cast (draw_len k _ hk 150 _ 0 0 [] h' rfl (by simp))
end Sp
end Go.Proofs.YtnepdhkjammibaaDoor
