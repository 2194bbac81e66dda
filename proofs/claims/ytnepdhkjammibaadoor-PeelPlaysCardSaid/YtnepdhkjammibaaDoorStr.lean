/- Contracts on strings of bytes: one over the other, noughts. -/
import Derived.Test.YtnepdhkjammibaaDoorLeaf
import Derived.Lib.ConvBytes
import Derived.Laws.BytesArg
import Derived.RegionTactic
import Derived.ChangeAlike
set_option linter.unusedVariables false
set_option linter.unusedSimpArgs false
namespace Go.Proofs.YtnepdhkjammibaaDoor
open Go.RowKit

/-- Byte by byte exclusive or. -/
def bx (a b : ByteArray) : ByteArray := ⟨(List.zipWith (fun x y => x ^^^ y) a.data.toList b.data.toList).toArray⟩

/-- A block of bytes, of which the first n may be written. -/
def BytesIn (w : World) (g : Nat) (l : List UInt8) : Prop :=
  ∃ (cur : Array Value) (e : TypeId) (f0 f1 : Nat), w.heap[g]? = some (.cells cur e (f0, f1)) ∧ l.length ≤ f0 ∧ l.length ≤ cur.size ∧ ∀ j, j < l.length → cur[j]? = some (.int .u8 (l.getD j 0).toNat)

theorem BytesIn.cell {w : World} {g : Nat} {l : List UInt8} (h : BytesIn w g l) (j : Nat) (hj : j < l.length) : w.cell? ⟨g, j, none⟩ = some (.int .u8 (l.getD j 0).toNat) ∧ w.frozen? ⟨g, j, none⟩ = false := by
  obtain ⟨cur, e, f0, f1, hb, h1, h2, h3⟩ := h
  refine ⟨by simp [World.cell?, hb, h3 j hj], ?_⟩
  simp [World.frozen?, hb]; omega
theorem BytesIn.store {w : World} {g : Nat} {l : List UInt8} (h : BytesIn w g l) (j : Nat) (x : UInt8) : BytesIn (w.setCell ⟨g, j, none⟩ (.int .u8 x.toNat)) g (l.set j x) := by
  obtain ⟨cur, e, f0, f1, hb, h1, h2, h3⟩ := h
  refine ⟨cur.setIfInBounds j (.int .u8 x.toNat), e, f0, f1, by simp [World.setCell, Array.getElem?_modify, hb], by simpa using h1, by simpa using h2, fun i hi => ?_⟩
  simp at hi
  rw [Array.getElem?_setIfInBounds]
  by_cases e : j = i
  · subst e
    rw [if_pos rfl, if_pos (by omega)]
    simp [List.getD_eq_getElem?_getD, List.getElem?_set, hi]
  · rw [if_neg e, h3 i hi]
    simp [List.getD_eq_getElem?_getD, List.getElem?_set, e]
theorem BytesIn.drew {w : World} {g : Nat} {l : List UInt8} (h : BytesIn w g l) : BytesIn w.drew g l := h
theorem BytesIn.bytes (w : World) (e : TypeId) (s : ByteArray) : BytesIn (Lib.bytesWorld w e s) w.heap.size s.data.toList := by
  refine ⟨_, e, _, _, Lib.bytesWorld_at_new w e s, ?_, ?_, fun j hj => ?_⟩
  · simp [Lib.bytesCells]
  · simp [Lib.bytesCells]
  · have h := Lib.bytesWorld_cell w e s j (by simpa using hj)
    rw [World.cell?, Lib.bytesWorld_at_new] at h
    simpa using h
theorem Touch.bytes {F : Nat → Prop} {a w : World} (h : Touch F a w) (e : TypeId) (s : ByteArray) : Touch F a (Lib.bytesWorld w e s) :=
  h.then_fresh (show Fresh w (Lib.bytesWorld w e s) from ⟨rfl, rfl, rfl, by rw [Lib.bytesWorld_size]; omega, fun i hi _ => Lib.bytesWorld_at_old w e s i hi⟩)

theorem conv_bytes {P : Program} {src dst e : TypeId} (hs : P.underlying src = some (.slice e)) (he : P.underlying e = some (.int .u8)) (hd : P.underlying dst = some .string)
    {W : World} {g : Nat} {l : List UInt8} (h : BytesIn W g l) {n : Nat} (hn : l.length = n) (c : Nat) : (convert src dst (.slice (some ⟨g, 0, none⟩) n c)).run P W = .ok (.string ⟨l.toArray⟩) W := by
  have := run_convert_bytes_arg (P := P) W src e hs he g 0 n c (l.map fun b => (b.toNat : Int)) (by simpa using hn) (fun i hi => by
    rw [Nat.zero_add, (h.cell i (by omega)).1]
    simp [List.getD_eq_getElem?_getD, List.getElem?_eq_getElem (show i < l.length by omega)]) dst hd
  rw [this]
  have e : strOfNums (l.map fun b => (b.toNat : Int)) = ⟨l.toArray⟩ := by
    have h : ∀ l : List UInt8, (l.map fun b => (b.toNat : Int)).map (fun n => UInt8.ofNat n.toNat) = l := by
      intro l
      induction l with
      | nil => rfl
      | cons x l ih => rw [List.map_cons, List.map_cons, ih, Int.toNat_natCast, UInt8.ofNat_toNat]
    unfold strOfNums; rw [h]
  rw [e]

def xl (a b : List UInt8) : List UInt8 := List.zipWith (fun x y => x ^^^ y) a b
theorem xl_all (a b : List UInt8) : xl a (b.take a.length) = xl a b := by
  induction a generalizing b with
  | nil => rfl
  | cons x a ih =>
    cases b with
    | nil => rfl
    | cons y b => simp only [List.length_cons, List.take_succ_cons]; unfold xl at *; rw [List.zipWith_cons_cons, List.zipWith_cons_cons, ih]
theorem xl_step (a b : List UInt8) (k : Nat) (x y : UInt8) (ha : a[k]? = some x) (hb : b[k]? = some y) : (xl (a.take k) (b.take k) ++ a.drop k).set k (x ^^^ y) = xl (a.take (k + 1)) (b.take (k + 1)) ++ a.drop (k + 1) := by
  obtain ⟨h1, rfl⟩ := List.getElem?_eq_some_iff.1 ha
  obtain ⟨h2, rfl⟩ := List.getElem?_eq_some_iff.1 hb
  have hl : (xl (a.take k) (b.take k)).length = k := by simp [xl]; omega
  rw [List.set_append_right _ _ (by omega), hl, Nat.sub_self, List.drop_eq_getElem_cons h1, List.set_cons_zero, List.take_succ_eq_append_getElem h1, List.take_succ_eq_append_getElem h2]
  unfold xl
  rw [List.zipWith_append (by simp; omega), List.append_assoc]
  rfl

set_option maxHeartbeats 1000000 in
theorem c_mix_Over (a b : ByteArray) (w : World) (hab : a.size ≤ b.size) (ha : a.size ≤ 1000000) :
    Calls Tryd.prog 73 #[.string a, .string b] w fun e w' => e = .returned (.string (bx a b)) ∧ Fresh w w' := by
  have kb := fun W : World => Lib.run_convert_string_bytes (P := Tryd.prog) W 9 109 5 a Tryd.underlying9 Tryd.underlying109 Tryd.underlying5
  go_enter Tryd.func73, Tryd.ntmps73
  go_wp2_with fail
  go_loopg [11] (a.size) (fun g s11 wr => ∃ k : Nat, k + g = a.size ∧ s11 = .int .i64 k ∧ BytesIn wr w.heap.size (xl (a.data.toList.take k) (b.data.toList.take k) ++ a.data.toList.drop k) ∧ Fresh w wr)
  case atStart => exact ⟨0, by simp, rfl, BytesIn.bytes _ _ _, (Touch.refl _ _).bytes _ _⟩
  case round =>
    obtain ⟨k, hk, rfl, hB, hfr⟩ := hrel
    have hfz := hfr.size
    by_cases hlt : k < a.size
    · have hkb : k < b.size := by omega
      have hlen : (xl (a.data.toList.take k) (b.data.toList.take k) ++ a.data.toList.drop k).length = a.size := by simp [xl]; omega
      obtain ⟨hcl, hfz1⟩ := hB.cell k (by rw [hlen]; exact hlt)
      have hx : (xl (a.data.toList.take k) (b.data.toList.take k) ++ a.data.toList.drop k).getD k 0 = a[k] := by
        rw [List.getD_eq_getElem?_getD, List.getElem?_append_right (by simp [xl]; omega), List.getElem?_drop]
        have : k + (k - (xl (a.data.toList.take k) (b.data.toList.take k)).length) = k := by simp [xl]; omega
        rw [this]
        simp [hlt]
        rfl
      rw [hx] at hcl
      clear hx hlen
      have hax : a.data.toList[k]? = some a[k] := by simp [hlt]; rfl
      have hbx : b.data.toList[k]? = some b[k] := by simp [hkb]; rfl
      generalize hxa : a[k] = xa at hcl hax
      generalize hxb : b[k] = xb at hbx
      have hst : Hid (BytesIn (wr.setCell ⟨w.heap.size, k, none⟩ (.int .u8 (xa ^^^ xb).toNat)) w.heap.size (xl (a.data.toList.take (k + 1)) (b.data.toList.take (k + 1)) ++ a.data.toList.drop (k + 1))) := by
        rw [← xl_step _ _ k xa xb hax hbx]; exact hB.store k _
      have hbit : Hid (bits BinOp.xor IntKind.u8 ↑xa.toNat ↑xb.toNat = ((xa ^^^ xb).toNat : Int)) := by
        unfold Hid
        rw [u8_xor_nat _ _ (UInt8.toNat_lt _) (UInt8.toNat_lt _), UInt8.toNat_xor]
      clear hxa hax hbx
      go_wp2_with fail
      go_region
      rw [hbit.out]
      clear hB hcl hfz1
      generalize hW : wr.setCell ⟨w.heap.size, k, none⟩ (.int .u8 (xa ^^^ xb).toNat) = W at *
      have hfW : Fresh w W := by rw [← hW]; exact hfr.setCell _ _ (fun h => absurd h (by simp))
      clear hW
      go_wp2_with fail
      go_roundg (a.size - (k + 1))
      case rel => exact ⟨k + 1, by omega, by go_num, hst.out, hfW.drew⟩
      case measure => omega
    · have hke : k = a.size := by omega
      have hcv := conv_bytes (P := Tryd.prog) Tryd.underlying109 Tryd.underlying5 Tryd.underlying9 hB (n := a.size) (by simp [xl]; omega) (grownCap w a.size 0 5)
      have hfin : Hid ((⟨(xl (a.data.toList.take k) (b.data.toList.take k) ++ a.data.toList.drop k).toArray⟩ : ByteArray) = bx a b) := by
        unfold Hid bx
        have h3 : k = a.data.toList.length := by simp; omega
        rw [h3, List.take_length, List.drop_length, List.append_nil, xl_all]
        rfl
      generalize (⟨(xl (a.data.toList.take k) (b.data.toList.take k) ++ a.data.toList.drop k).toArray⟩ : ByteArray) = res at hcv hfin
      clear hB hke
      go_wp2_with fail
      go_ret
      exact ⟨ret_str hfin.out, hfr⟩

theorem strOfNums_bytes (l : List UInt8) : strOfNums (l.map fun b => (b.toNat : Int)) = ⟨l.toArray⟩ := by
  have h : ∀ l : List UInt8, (l.map fun b => (b.toNat : Int)).map (fun n => UInt8.ofNat n.toNat) = l := by
    intro l
    induction l with
    | nil => rfl
    | cons x l ih => rw [List.map_cons, List.map_cons, ih, Int.toNat_natCast, UInt8.ofNat_toNat]
  unfold strOfNums; rw [h]

/-- A row of bytes as cells. -/
def byteCells (l : List UInt8) : List Value := l.map fun b => .int .u8 (b.toNat : Int)
theorem byteCells_one (l : List UInt8) : ∀ u ∈ byteCells l, u.oneCell' = true := by
  intro u hu; obtain ⟨x, _, rfl⟩ := List.mem_map.1 hu; rfl

theorem conv_row {P : Program} {src dst e : TypeId} (hs : P.underlying src = some (.slice e)) (he : P.underlying e = some (.int .u8)) (hd : P.underlying dst = some .string)
    {W : World} {v : Value} {n : Nat} {l : List UInt8} (h : RowAt W v n (byteCells l)) (hl : l.length = n) : (convert src dst v).run P W = .ok (.string ⟨l.toArray⟩) W := by
  obtain ⟨A, c, rfl, h1, h2, h3⟩ := h
  by_cases h0 : l = []
  · subst h0
    simp at hl; subst hl
    cases A with
    | none => exact run_convert_bytes_nil W src e hs he 0 c dst hd
    | some ad =>
      rw [run_convert_bytes_string W src dst e _ 0 c hs he hd]
      simp [Conv.bytesToString, loadCells, loadCellsFrom]
      rfl
  · obtain ⟨b, o, rfl, hc⟩ := h3 (by simpa [byteCells] using h0)
    have := run_convert_bytes_arg (P := P) W src e hs he b o n c (l.map fun b => (b.toNat : Int)) (by simpa using hl) (fun i hi => by
      rw [hc i (.int .u8 ((l[i]'(by omega)).toNat : Int)) (by simp [byteCells, List.getElem?_eq_getElem (show i < l.length by omega)])]
      simp [List.getD_eq_getElem?_getD, List.getElem?_eq_getElem (show i < l.length by omega)]) dst hd
    rw [this, strOfNums_bytes]

theorem Tryd.infoByte : (Tryd.prog.info? 5).map (fun i => (i.zero, i.size, i.bytes)) = some (some (.int .u8 0), 1, 1) := by kernel_rfl

/-- The document's exclusive or, bit by bit: behind j bits. -/
structure XorAt (X Y j p x y n : Nat) : Prop where
  p : p = 2 ^ j
  x : x = X / 2 ^ j
  y : y = Y / 2 ^ j
  n : n = (X ^^^ Y) % 2 ^ j
theorem XorAt.zero (X Y : Nat) : XorAt X Y 0 1 X Y 0 := ⟨rfl, by simp, by simp, by simp [Nat.mod_one]⟩
theorem xor_bit (X Y j : Nat) : (X ^^^ Y) / 2 ^ j % 2 = if X / 2 ^ j % 2 = Y / 2 ^ j % 2 then 0 else 1 := by
  have h := Nat.testBit_xor (x := X) (y := Y) (i := j)
  rw [Nat.testBit_eq_decide_div_mod_eq, Nat.testBit_eq_decide_div_mod_eq, Nat.testBit_eq_decide_div_mod_eq] at h
  have h1 := Nat.mod_two_eq_zero_or_one (X / 2 ^ j)
  have h2 := Nat.mod_two_eq_zero_or_one (Y / 2 ^ j)
  have h3 := Nat.mod_two_eq_zero_or_one ((X ^^^ Y) / 2 ^ j)
  rcases h1 with h1 | h1 <;> rcases h2 with h2 | h2 <;> rcases h3 with h3 | h3 <;> rw [h1, h2, h3] at h <;> rw [h1, h2, h3] <;> simp at h ⊢
theorem mod_pow_succ' (Z j : Nat) : Z % 2 ^ (j + 1) = Z % 2 ^ j + 2 ^ j * (Z / 2 ^ j % 2) := by rw [Nat.pow_succ, Nat.mod_mul]
theorem XorAt.step {X Y j p x y n : Nat} (h : XorAt X Y j p x y n) : XorAt X Y (j + 1) (2 * p) (x / 2) (y / 2) (if x % 2 = y % 2 then n else n + p) := by
  refine ⟨by rw [h.p, Nat.pow_succ, Nat.mul_comm], by rw [h.x, Nat.div_div_eq_div_mul, Nat.pow_succ], by rw [h.y, Nat.div_div_eq_div_mul, Nat.pow_succ], ?_⟩
  rw [mod_pow_succ', xor_bit, ← h.x, ← h.y, ← h.n, ← h.p]
  split <;> omega

theorem XorAt.bounds {X Y j p x y n : Nat} (h : XorAt X Y j p x y n) (hX : X < 256) (hY : Y < 256) (hj : j ≤ 8) : p ≤ 256 ∧ x < 256 ∧ y < 256 ∧ n < 256 := by
  have hp : p ≤ 256 := by rw [h.p]; exact Nat.pow_le_pow_right (by omega) hj
  have hp0 : 0 < 2 ^ j := Nat.pos_of_ne_zero (by simp)
  have h1 : x ≤ X := by rw [h.x]; exact Nat.div_le_self _ _
  have h2 : y ≤ Y := by rw [h.y]; exact Nat.div_le_self _ _
  have h3 : n < 2 ^ j := by rw [h.n]; exact Nat.mod_lt _ hp0
  rw [← h.p] at h3
  omega
theorem XorAt.done {xa xb : UInt8} {p x y n : Nat} (h : XorAt xa.toNat xb.toNat 8 p x y n) : n = (xa ^^^ xb).toNat := by
  rw [h.n, UInt8.toNat_xor, Nat.mod_eq_of_lt]
  exact Nat.xor_lt_two_pow (n := 8) (UInt8.toNat_lt _) (UInt8.toNat_lt _)
theorem xl_snoc (a b : List UInt8) (k : Nat) (x y : UInt8) (ha : a[k]? = some x) (hb : b[k]? = some y) : xl (a.take (k + 1)) (b.take (k + 1)) = xl (a.take k) (b.take k) ++ [x ^^^ y] := by
  obtain ⟨h1, rfl⟩ := List.getElem?_eq_some_iff.1 ha
  obtain ⟨h2, rfl⟩ := List.getElem?_eq_some_iff.1 hb
  rw [List.take_succ_eq_append_getElem h1, List.take_succ_eq_append_getElem h2]
  unfold xl
  rw [List.zipWith_append (by simp; omega)]
  rfl

set_option maxHeartbeats 2000000 in
theorem c_R_Xor (a b : ByteArray) (w : World) (hab : a.size ≤ b.size) (ha : a.size ≤ 1000000) :
    Calls Tryd.prog 37 #[.string a, .string b] w fun e w' => e = .returned (.string (bx a b)) ∧ Fresh w w' := by
  go_enter Tryd.func37, Tryd.ntmps37
  go_wp2_with fail
  go_loopg [5, 6] (a.size) (fun g s5 s6 wr => ∃ k : Nat, k + g = a.size ∧ s6 = .int .i64 k ∧ wr.ownsRow w.heap.size 5 1 s5 k (byteCells (xl (a.data.toList.take k) (b.data.toList.take k))) ∧ Fresh w wr)
  case atStart => exact ⟨0, by simp, rfl, World.ownsRow_nil _ _ _ _, Touch.refl _ _⟩
  case round =>
    obtain ⟨k, hk, rfl, hown, hfr⟩ := hrel
    have hfz := hfr.size
    by_cases hlt : k < a.size
    · have hkb : k < b.size := by omega
      have hax : a.data.toList[k]? = some a[k] := by simp [hlt]; rfl
      have hbx : b.data.toList[k]? = some b[k] := by simp [hkb]; rfl
      generalize hxa : a[k] = xa at hax
      generalize hxb : b[k] = xb at hbx
      have hax' : Hid (a.data.toList[k]? = some xa) := hax
      have hbx' : Hid (b.data.toList[k]? = some xb) := hbx
      have ba : xa.toNat < 256 := UInt8.toNat_lt _
      have bb : xb.toNat < 256 := UInt8.toNat_lt _
      clear hax hbx
      go_wp2_with fail
      generalize hX : xa.toNat = X at *
      generalize hY : xb.toNat = Y at *
      have hX' : Hid (xa.toNat = X) := hX
      have hY' : Hid (xb.toNat = Y) := hY
      clear hX hY
      obtain ⟨wo, rfl⟩ : ∃ wo : World, wo = wr := ⟨_, rfl⟩
      go_loopg [7, 8, 9, 10, 11] 8 (fun g s7 s8 s9 s10 s11 w2 => wo = w2 ∧ ∃ j p x y n : Nat, j + g = 8 ∧ p ≤ 256 ∧ x < 256 ∧ y < 256 ∧ n < 256 ∧ Hid (XorAt X Y j p x y n) ∧ s7 = .int .i64 x ∧ s8 = .int .i64 y ∧ s9 = .int .i64 n ∧ s10 = .int .i64 p ∧ s11 = .int .i64 j)
      case atStart => exact ⟨rfl, 0, 1, X, Y, 0, rfl, by omega, ba, bb, by omega, XorAt.zero X Y, rfl, rfl, rfl, rfl, rfl⟩
      case round =>
        obtain ⟨rfl, j, p, x, y, n, hj, bp, bx1, by1, bn, hxr, rfl, rfl, rfl, rfl, rfl⟩ := hrel
        by_cases hj8 : j < 8
        · have hst := hxr.out.step
          obtain ⟨q1, q2, q3, q4⟩ := hst.bounds ba bb (by omega)
          have hst' : Hid (XorAt X Y (j + 1) (2 * p) (x / 2) (y / 2) (if x % 2 = y % 2 then n else n + p)) := hst
          clear hst hxr
          by_cases he : x % 2 = y % 2
          · have he' : Hid (x % 2 = y % 2) := he
            have ht : (((x : Int) % 2) != ((y : Int) % 2)) = false := by rw [bne_eq_false_iff_eq]; omega
            clear q4 he
            go_wp2_with fail
            go_roundg (8 - (j + 1))
            case rel =>
              refine ⟨rfl, j + 1, 2 * p, x / 2, y / 2, n, by omega, q1, q2, q3, bn, ?_, by go_num, by go_num, rfl, by go_num, by go_num⟩
              have := hst'.out; rwa [if_pos he'.out] at this
            case measure => omega
          · have he' : Hid (¬ x % 2 = y % 2) := he
            have ht : (((x : Int) % 2) != ((y : Int) % 2)) = true := by rw [bne_iff_ne]; omega
            rw [if_neg he] at q4
            clear he
            go_wp2_with fail
            go_roundg (8 - (j + 1))
            case rel =>
              refine ⟨rfl, j + 1, 2 * p, x / 2, y / 2, n + p, by omega, q1, q2, q3, q4, ?_, by go_num, by go_num, by go_num, by go_num, by go_num⟩
              have := hst'.out; rwa [if_neg he'.out] at this
            case measure => omega
        · have hj' : Hid (j = 8) := show j = 8 by omega
          go_wp2_with (at_builtin; refine Halt.out ?_)
          refine ⟨?_⟩
          refine wl_append rfl _ _ 109 rfl w.heap.size 5 (.int .u8 0) 1 1 Tryd.underlying109 Tryd.infoByte rfl (by decide) (by decide) _ k _ rfl _ 1 [.int .u8 n] rfl (hown.alloc _) (RowAt.box _ [.int .u8 n] _ 1 (by simp [maxLen])) rfl (by intro u hu; simp at hu; subst hu; rfl) (by omega) (by simp; omega) ?_
          intro v1 w1 hown1 hgr1 hat1
          have hf1 := Fresh.append (hfr.alloc _) (hown.alloc _) (Nat.le_refl _) hgr1
          go_wp2_with fail
          go_roundg (a.size - (k + 1))
          case rel =>
            refine ⟨k + 1, by omega, by go_num, ?_, hf1⟩
            rw [xl_snoc _ _ k xa xb hax'.out hbx'.out]
            have hn : n = (xa ^^^ xb).toNat := by
              have := hxr.out; rw [hj'.out, ← hX'.out, ← hY'.out] at this; exact this.done
            rw [hn] at hown1
            simpa [byteCells] using hown1
          case measure => omega
    · have hcv := conv_row (P := Tryd.prog) Tryd.underlying109 Tryd.underlying5 Tryd.underlying9 (RowAt.of_owns hown) (by simp [xl]; omega)
      have hfin : Hid ((⟨(xl (a.data.toList.take k) (b.data.toList.take k)).toArray⟩ : ByteArray) = bx a b) := by
        unfold Hid bx
        have h3 : k = a.data.toList.length := by simp; omega
        rw [h3, List.take_length, xl_all]
        rfl
      generalize (⟨(xl (a.data.toList.take k) (b.data.toList.take k)).toArray⟩ : ByteArray) = res at hcv hfin
      clear hown
      go_wp2_with fail
      go_ret
      exact ⟨ret_str hfin.out, hfr⟩
end Go.Proofs.YtnepdhkjammibaaDoor
