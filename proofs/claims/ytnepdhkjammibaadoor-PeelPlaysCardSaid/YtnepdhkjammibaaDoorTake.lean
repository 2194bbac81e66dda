/- Contract: (*Peeler).Take. -/
import Derived.Test.YtnepdhkjammibaaDoorPeel
import Derived.Test.YtnepdhkjammibaaDoorFacts
import Derived.Deep.RegionLaw
set_option linter.unusedVariables false
set_option linter.unusedSimpArgs false
namespace Go.Proofs.YtnepdhkjammibaaDoor
open Go.RowKit

theorem grown_keepc {W w9 : World} {row : Option Nat} (hg : W.grownBy w9 row) {a : Addr} {u : Value} (h : W.cell? a = some u) (hne : row ≠ some a.block) : w9.cell? a = some u :=
  (World.cell?_of_block (w := W) (hg.block a.block (block_lt_of_cell h) hne.symm)).trans h
theorem grown_frozen {W w9 : World} {row : Option Nat} (hg : W.grownBy w9 row) {a : Addr} (h : a.block < W.heap.size) (hne : row ≠ some a.block) : w9.frozen? a = W.frozen? a :=
  World.frozen?_of_block (w := W) (hg.block a.block h hne.symm)
theorem set_keep {w : World} {a b : Addr} {u x : Value} (h : w.cell? b = some x) (hne : a.off ≠ b.off ∨ a.block ≠ b.block) : (w.setCell a u).cell? b = some x := by
  rw [World.cell?_setCell_other]
  · exact h
  · intro e; subst e; simp at hne
theorem set_keep_off {w : World} {b o o' : Nat} {u x : Value} (h : w.cell? ⟨b, o', none⟩ = some x) (hne : o ≠ o') : (w.setCell ⟨b, o, none⟩ u).cell? ⟨b, o', none⟩ = some x := set_keep h (.inl hne)
theorem set_keep_blk {w : World} {b b' o o' : Nat} {u x : Value} (h : w.cell? ⟨b', o', none⟩ = some x) (hne : b ≠ b') : (w.setCell ⟨b, o, none⟩ u).cell? ⟨b', o', none⟩ = some x := set_keep h (.inr hne)
theorem one2 (a b : Value) (h : a.oneCell' = true) (h' : b.oneCell' = true) : ∀ u ∈ [a, b], u.oneCell' = true := by
  intro u hu
  simp only [List.mem_cons, List.mem_nil_iff, or_false] at hu
  rcases hu with rfl | rfl
  · exact h
  · exact h'
/-- What taking a drop is told by. -/
def takeErr (k n : Nat) (taken : List Int) (seed : Int) (data : ByteArray) : Int :=
  if dropErr k n seed data ≠ 0 then dropErr k n seed data else if seed ∈ taken then 7 else if 60 ≤ taken.length then 4 else 0

theorem memI_look (taken : List Int) (seed : Int) : (aget (boolMap taken) seed).getD (.bool false) = .bool (memI taken seed) := by
  rw [aget_boolMap]
  by_cases h : seed ∈ taken
  · rw [if_pos h]; simp [memI_iff.2 h]
  · rw [if_neg h]; simp [memI_no.2 h]

set_option maxHeartbeats 4000000 in
set_option maxRecDepth 100000 in
theorem c_peel_Take_bad (p k n : Nat) (known : List (Int × ByteArray)) (taken : List Int) (ws : List (List Int × ByteArray)) (F : Nat → Prop) (seed : Int) (data : ByteArray) (w : World) (h : PeelerAt w p k n known taken ws F)
    (hd : data.size ≤ 9223372036854775807) (he : takeErr k n taken seed data ≠ 0) :
    Calls Tryd.prog 14 #[.pointer (some ⟨p, 0, none⟩), .agg #[.int .i64 seed, .string data]] w fun e w' => e = .returned (.tuple #[.slice none 0 0, errV (takeErr k n taken seed data)]) ∧ Fresh w w' := by
  obtain ⟨⟨bk, bt, v, wt, h1, h2, h3, h4, h5, h6, rfl, _⟩, hs, hf, hm⟩ := h
  unfold pcells at h1
  have h1' := Lib.hid h1
  have hpl := lt_of_block h1
  have h3' := Lib.hid h3
  obtain ⟨p0, p1, p2, p3, p4⟩ := cells5 h1
  have ne1 : p ≠ w.heap.size := by omega
  have he' := Lib.hid he
  clear h1 h2 h3 h5 h6 hs hf he p2 p3 p4
  rw [errV_pos he'.out]
  have hcc := fun W : World => c_drop_Check k n seed data W hd
  obtain ⟨E, hE⟩ : ∃ E : Value, E = (if dropErr k n seed data = 0 then .nilIface else errI (dropErr k n seed data)) := ⟨_, rfl⟩
  rw [← hE] at hcc
  have hcc' := Lib.hid hcc
  have hE' := Lib.hid hE
  clear hcc hE
  go_enter Tryd.func14, Tryd.ntmps14
  go_upto_region 1 with fail
  go_cut [6] (fun s6 wc => s6 = E ∧ Fresh (w.alloc (.cells #[.int .i64 seed, .string data] 37)) wc)
  case first =>
    have b0 : (w.alloc (.cells #[.int .i64 seed, .string data] 37)).cell? ⟨w.heap.size, 0, none⟩ = some (.int .i64 seed) := by simp
    have b1 : (w.alloc (.cells #[.int .i64 seed, .string data] 37)).cell? ⟨w.heap.size, 1, none⟩ = some (.string data) := by simp
    have q0 := keepc ((Touch.refl _ _).alloc (.cells #[.int .i64 seed, .string data] 37)) p0
    have q1 := keepc ((Touch.refl _ _).alloc (.cells #[.int .i64 seed, .string data] 37)) p1
    clear p0 p1
    generalize w.alloc (.cells #[.int .i64 seed, .string data] 37) = W at *
    go_region_held3 (fun w' => w'.cell? ⟨w.heap.size, 0, none⟩ = some (.int .i64 seed) ∧ w'.cell? ⟨w.heap.size, 1, none⟩ = some (.string data) ∧ w'.cell? ⟨p, 0, none⟩ = some (.int .i64 k) ∧ w'.cell? ⟨p, 1, none⟩ = some (.int .i64 n))
      (first | go_keep | (go_split_ands; refine ⟨?_, ?_, ?_, ?_⟩ <;> (apply keepc hf1; assumption)))
      ((go_at_call 39; refine (hcc'.out _).mono ?_; rintro e w1 ⟨rfl, hf1⟩))
    all_goals
      go_wp2_with fail
      go_meet
      case rel => exact ⟨rfl, ((Touch.refl _ W).drew).then_fresh hf1⟩
  case rest =>
    obtain ⟨rfl, hfc⟩ := hcut
    have hfw : Fresh w wc := ((Touch.refl _ _).alloc _).then_fresh hfc
    have hbx : wc.heap[w.heap.size]? = _ := hfc.some (heap_alloc_new w (.cells #[.int .i64 seed, .string data] 37))
    have h3c := Lib.hid (h3'.out.fresh hfw)
    obtain ⟨b0, b1, _, _⟩ := cells2 hbx
    obtain ⟨q0, q1, q2, q3, q4⟩ := cells5 (hfw.some h1'.out)
    clear p0 p1 q0 q1 q2 q4 b1 hbx
    by_cases hdr : dropErr k n seed data = 0
    · have hEn : u6 = .nilIface := by rw [hE'.out, if_pos hdr]
      subst hEn
      have hlk := (h3c.out.drew).lookup Tryd.underlying70 Tryd.underlying3 (Tryd.zeroBool _) seed false
      rw [memI_look] at hlk
      by_cases hmem : seed ∈ taken
      · have hT : Hid (takeErr k n taken seed data = 7) := by unfold Hid takeErr; rw [if_neg (by simp [hdr]), if_pos hmem]
        rw [memI_iff.2 hmem] at hlk
        clear hmem hdr
        go_wp2_with fail
        go_region
        clear hlk
        go_wp2_with fail
        go_ret2
        exact ⟨by rw [hT.out]; rfl, hfw.drew⟩
      · have h60 : 60 ≤ taken.length := by
          have h := he'.out
          unfold takeErr at h
          rw [if_neg (by simp [hdr]), if_neg hmem] at h
          rcases Nat.lt_or_ge taken.length 60 with h2 | h2
          · rw [if_neg (by omega)] at h; exact absurd rfl h
          · exact h2
        have hT : Hid (takeErr k n taken seed data = 4) := by unfold Hid takeErr; rw [if_neg (by simp [hdr]), if_neg hmem, if_pos h60]
        have hbl : (boolMap taken).length = taken.length := by simp [boolMap]
        have h3d : Hid (MapAt wc.drew .i64 bt (boolMap taken)) := h3c.out.drew
        have h60' : (60 : Int) ≤ ((boolMap taken).length : Nat) := by omega
        rw [memI_no.2 hmem] at hlk
        clear hmem hdr h60 hbl
        go_wp2_with fail
        go_region
        clear hlk
        go_wp2_with (at_len; refine wl_len rfl 70 _ rfl Tryd.underlying70 h3d.out rfl ?_)
        go_ret2
        exact ⟨by rw [hT.out]; rfl, hfw.drew⟩
    · have hEn : u6 = errI (dropErr k n seed data) := by rw [hE'.out, if_neg hdr]
      subst hEn
      have hT : Hid (takeErr k n taken seed data = dropErr k n seed data) := if_pos hdr
      clear hdr
      go_wp2_with fail
      go_ret2
      exact ⟨by rw [hT.out]; rfl, hfw⟩

set_option maxHeartbeats 8000000 in
set_option maxRecDepth 100000 in
theorem c_peel_Take_ok (p k n : Nat) (known : List (Int × ByteArray)) (taken : List Int) (ws : List (List Int × ByteArray)) (F : Nat → Prop) (seed : Int) (data : ByteArray) (w : World) (h : PeelerAt w p k n known taken ws F)
    (hd : data.size ≤ 9223372036854775807) (he : takeErr k n taken seed data = 0) :
    Calls Tryd.prog 14 #[.pointer (some ⟨p, 0, none⟩), .agg #[.int .i64 seed, .string data]] w fun e w' => ∃ known' ws' out' vo F', e = .returned (.tuple #[vo, .nilIface]) ∧
      Learn known (ws ++ [(Sp.setOf k seed, data)]) [] known' ws' out' ∧ w'.ownsRow w.heap.size 3 1 vo out'.length (out'.map (.int .i64)) ∧ PeelerAt w' p k n known' (taken ++ [seed]) ws' F' ∧ Touch F w w' ∧ ∀ i, F' i → F i ∨ w.heap.size ≤ i := by
  have hdr : dropErr k n seed data = 0 := by
    unfold takeErr at he
    by_cases h0 : dropErr k n seed data = 0
    · exact h0
    · rw [if_pos h0] at he; exact absurd he h0
  have hmem : seed ∉ taken := by
    intro hm
    unfold takeErr at he
    rw [if_neg (by simp [hdr]), if_pos hm] at he; omega
  have h60 : taken.length < 60 := by
    unfold takeErr at he
    rw [if_neg (by simp [hdr]), if_neg hmem] at he
    rcases Nat.lt_or_ge taken.length 60 with h2 | h2
    · exact h2
    · rw [if_pos h2] at he; omega
  obtain ⟨k1, k2, n1, n2, s1, s2, hds⟩ : 1 ≤ k ∧ k ≤ 16 ∧ 1 ≤ n ∧ n ≤ 8 ∧ 1 ≤ seed ∧ seed ≤ 10000 ∧ data.size = n := by
    rcases dropErr_cases k n seed data with ⟨_, he⟩ | ⟨_, _, _, _, _, _, _, he⟩ | ⟨h1, h2, h3, h4, h5, h6, h7, _⟩
    · omega
    · omega
    · omega
  obtain ⟨⟨bk, bt, v, wt, h1, h2, h3, h4, h5, h6, rfl, hFp, hFk, hFt, hFv, hFw⟩, hs, hf, hm⟩ := h
  unfold pcells at h1
  have h1' := Lib.hid h1
  have h2' := Lib.hid h2
  have h3' := Lib.hid h3
  have h5' := Lib.hid h5
  have h6' := Lib.hid h6
  have hs' := Lib.hid hs
  have hF := Lib.hid (And.intro hFp (And.intro hFk (And.intro hFt (And.intro hFv hFw))))
  have hpl := lt_of_block h1
  have hwl : wt.length ≤ 60 := by simp [strip] at hf; omega
  have hfew : Hid (wt.length ≤ taken.length) := by unfold Hid; simp [strip] at hf; omega
  obtain ⟨p0, p1, p2, p3, p4⟩ := cells5 h1
  have ne1 : p ≠ w.heap.size := by omega
  have hcc := fun W : World => c_drop_Check k n seed data W hd
  rw [hdr] at hcc
  have hcc' : Hid (∀ W : World, Calls Tryd.prog 39 #[.int .i64 k, .int .i64 n, .agg #[.int .i64 seed, .string data]] W fun e w' => e = .returned .nilIface ∧ Fresh W w') := hcc
  have hmem' := Lib.hid hmem
  clear h1 h2 h3 h5 h6 hs hf p2 p3 p4 hFp hFk hFt hFv hFw he hdr hcc hmem
  go_enter Tryd.func14, Tryd.ntmps14
  go_upto_region 1 with fail
  go_cut [6] (fun s6 wc => s6 = .nilIface ∧ Fresh (w.alloc (.cells #[.int .i64 seed, .string data] 37)) wc)
  case first =>
    have b0 : (w.alloc (.cells #[.int .i64 seed, .string data] 37)).cell? ⟨w.heap.size, 0, none⟩ = some (.int .i64 seed) := by simp
    have b1 : (w.alloc (.cells #[.int .i64 seed, .string data] 37)).cell? ⟨w.heap.size, 1, none⟩ = some (.string data) := by simp
    have q0 := keepc ((Touch.refl _ _).alloc (.cells #[.int .i64 seed, .string data] 37)) p0
    have q1 := keepc ((Touch.refl _ _).alloc (.cells #[.int .i64 seed, .string data] 37)) p1
    clear p0 p1
    generalize w.alloc (.cells #[.int .i64 seed, .string data] 37) = W at *
    go_region_held3 (fun w' => w'.cell? ⟨w.heap.size, 0, none⟩ = some (.int .i64 seed) ∧ w'.cell? ⟨w.heap.size, 1, none⟩ = some (.string data) ∧ w'.cell? ⟨p, 0, none⟩ = some (.int .i64 k) ∧ w'.cell? ⟨p, 1, none⟩ = some (.int .i64 n))
      (first | go_keep | (go_split_ands; refine ⟨?_, ?_, ?_, ?_⟩ <;> (apply keepc hf1; assumption)))
      ((go_at_call 39; refine (hcc'.out _).mono ?_; rintro e w1 ⟨rfl, hf1⟩))
    all_goals
      go_wp2_with fail
      go_meet
      case rel => exact ⟨rfl, ((Touch.refl _ W).drew).then_fresh hf1⟩
  case rest =>
    obtain ⟨rfl, hfc⟩ := hcut
    have hfw : Fresh w wc := ((Touch.refl _ _).alloc _).then_fresh hfc
    have hfcz : w.heap.size < wc.heap.size := by have := hfc.size; simp at this; omega
    have hbx : wc.heap[w.heap.size]? = _ := hfc.some (heap_alloc_new w (.cells #[.int .i64 seed, .string data] 37))
    have hbx' := Lib.hid hbx
    have h3c := Lib.hid (h3'.out.fresh hfw)
    have h1c := Lib.hid (hfw.some h1'.out)
    obtain ⟨b0, b1, _, _⟩ := cells2 hbx
    obtain ⟨q0, q1, q2, q3, q4⟩ := cells5 (hfw.some h1'.out)
    clear p0 p1 q0 q1 q2 q4 b1 hbx
    have hlk := (h3c.out.drew).lookup Tryd.underlying70 Tryd.underlying3 (Tryd.zeroBool _) seed false
    rw [memI_look, memI_no.2 hmem'.out] at hlk
    have hbl : (boolMap taken).length = taken.length := by simp [boolMap]
    have h3d : Hid (MapAt wc.drew .i64 bt (boolMap taken)) := h3c.out.drew
    have h60' : ((boolMap taken).length : Nat) < (60 : Int) := by omega
    obtain ⟨W8, hup, h8t, hT8, hz8⟩ := MapAt.update Tryd.underlying70 Tryd.underlying3 (h3c.out.drew.drew) seed (.bool true)
    rw [aput_boolMap _ _ hmem'.out] at h8t
    have hT8' : Touch (fun i => i = bt) wc W8 := ((Touch.refl _ wc).drew.drew).trans hT8 (fun _ _ h => h)
    have h8t' := Lib.hid h8t
    have hT8h := Lib.hid hT8'
    clear hT8 hT8' h8t hbl
    have hz8' : W8.heap.size = wc.heap.size := by simpa using hz8
    have hz8h := Lib.hid hz8'
    clear hz8 hz8'
    go_wp2_with fail
    go_region
    clear hlk
    go_wp2_with (at_len; refine wl_len rfl 70 _ rfl Tryd.underlying70 h3d.out rfl ?_)
    go_region
    clear hup q3 b0
    have hbtp : bt ≠ p := h3'.out.ne_cells h1'.out
    have hbtl := h3'.out.lt
    have h8p := Lib.hid (hT8h.out.some h1c.out (fun h => hbtp h.symm))
    have h8b := Lib.hid (hT8h.out.some hbx'.out (fun h => by omega))
    have h8k := Lib.hid ((h2'.out.fresh hfw).touch hT8h.out h4)
    have h8v := Lib.hid (owns_touch (owns_fresh h5'.out hfw) hT8h.out (fun i hi hx => owns_ne_map h5'.out h3'.out (by rw [hi, hx])))
    have h8w := Lib.hid ((h6'.out.fresh hfw).touch hT8h.out (fun t ht i hi hx => owns_ne_map (h6'.out t ht) h3'.out (by rw [hi, hx])))
    have h8T : Hid (Touch F w W8) := (Touch.fresh hfw).trans hT8h.out (fun i _ hx => by subst hx; exact hF.out.2.2.1)
    have h8z : Hid (w.heap.size ≤ W8.heap.size) := by have := hz8h.out; unfold Hid; omega
    obtain ⟨q0, q1, q2, q3, q4⟩ := cells5 h8p.out
    obtain ⟨b0, b1, _, _⟩ := cells2 h8b.out
    have hf4 : W8.frozen? ⟨p, 4, none⟩ = false := frozen_of_row _ _ _ _ _ h8p.out
    have hwt := Lib.hid (wcells_one wt h8w.out)
    have hpl8 : p < W8.heap.size := lt_of_block h8p.out
    have four : (4 : Nat) ≠ 0 := by decide
    have hvp : v.ownBlock ≠ some p := owns_ne_cells h8v.out h8p.out (by decide)
    have hvb : v.ownBlock ≠ some w.heap.size := owns_ne_cells h8v.out h8b.out (by decide)
    clear q1 q2 h2' h3' h5' h6' h3c h3d hT8h hcc' hfw
    go_upto_region 9 with fail
    go_cut [] (fun wd => ∃ (v9 vo : Value), wd.heap[p]? = some (pcells k n bk bt v9) ∧ wd.ownsRow 0 80 2 v9 (wt.length + 1) (wcells wt ++ [vo, .string data]) ∧
      wd.ownsRow w.heap.size 3 1 vo (Sp.setOf k seed).length ((Sp.setOf k seed).map (.int .i64)) ∧ Touch (fun i => i = p ∨ v.ownBlock = some i) W8 wd ∧ (v9.ownBlock = v.ownBlock ∨ ∃ i, v9.ownBlock = some i ∧ W8.heap.size ≤ i))
    case first =>
      go_region_law
        (first
          | (refine step_append rfl (.tmp 47) (.tmp 58) 71 rfl 0 80 (.agg #[.slice none 0 0, .string ⟨#[]⟩]) 2 40 Tryd.underlying71 Tryd.infoWaiting rfl (by decide) (by decide) v wt.length (wcells wt) rfl _ 1 [.slice Ao (Sp.setOf k seed).length co, .string data] rfl ((owns_fresh h8v.out ((Touch.refl _ W8).drew.then_fresh hfO)).alloc _) (RowAt.boxed w1 [.slice Ao (Sp.setOf k seed).length co, .string data] _ 1 _ rfl (by simp [maxLen])) rfl hone.out (by omega) (Nat.zero_le _) ?_; intro v9 w9 hown9 hgr9 hat9; obtain ⟨A9, c9, rfl, h9c, h9m⟩ := (RowAt.of_owns hown9).form; have k9 := fun {a : Addr} {u : Value} => grown_keepc (a := a) (u := u) hgr9; have hfA : Fresh W8 (w1.alloc (.cells #[.slice Ao (Sp.setOf k seed).length co, .string data] 80)) := ((Touch.refl _ W8).drew.then_fresh hfO).alloc _; have r0 := k9 (keepc hfA q0) hvp; have r1 := k9 (keepc hfA b0) hvb; have r2 := k9 (keepc hfA b1) hvb; have k8 : w9.cell? ⟨p, 4, none⟩ = some v := k9 (keepc hfA q4) hvp; have k2 : w9.frozen? ⟨p, 4, none⟩ = false := (grown_frozen hgr9 (a := ⟨p, 4, none⟩) (Nat.lt_of_lt_of_le hpl8 hfA.size) hvp).trans ((hfA.frozen (p := ⟨p, 4, none⟩) hpl8 id).trans hf4))
          | (go_simp; go_at_call 40; go_must (refine (c_drop_Of k seed _ (by omega) (by omega) (by omega) (by omega)).mono ?_; rintro e w1 ⟨vo, rfl, hownO, hfO⟩; have s0 := keepc hfO q0; have s1 := keepc hfO b0; have s2 := keepc hfO b1; have p4 := keepc hfO q4; have p4a := keepc ((Touch.refl _ w1).alloc (.cells #[vo, .string data] 80)) p4; have g4 : w1.frozen? ⟨p, 4, none⟩ = false := (hfO.frozen hpl8 id).trans hf4; obtain ⟨Ao, co, rfl, hoc, hom⟩ := (RowAt.of_owns hownO).form; have hone := Lib.hid (one2 (.slice Ao (Sp.setOf k seed).length co) (.string data) rfl rfl))))
      all_goals
        have hTv : Touch (fun i => v.ownBlock = some i) w1 w9 := Touch.grown ((Touch.refl _ _).alloc _) hgr9 (fun i hi _ => hi)
        have h9p : w9.heap[p]? = some (pcells k n bk bt v) := hTv.some (hfO.some h8p.out) hvp
        have h9o := owns_touch hownO hTv (fun i hi hF => by have h1 := (hownO.lt i hi).1; have h2 := (h8v.out.lt i hF).2; exact Nat.lt_irrefl _ (Nat.lt_of_lt_of_le h2 h1))
        go_wp2_with fail
        go_meet
        case rel =>
          refine ⟨_, _, heap_setCell_same w9 p 4 _ _ _ h9p, ownsRow_setCell_other hown9 (a := ⟨p, 4, none⟩) (owns_ne_cells hown9 h9p (by decide)) _, ownsRow_setCell_other (a := ⟨p, 4, none⟩) (owns_low h9o h8z.out) (owns_ne_cells h9o h9p (by decide)) _,
            ((Touch.fresh ((Touch.refl _ W8).drew.then_fresh hfO)).trans hTv (fun i _ h => .inr h)).setCell ⟨p, 4, none⟩ _ (fun _ => .inl rfl), ?_⟩
          rcases hat9 with h | h
          · exact .inl h
          · exact .inr ⟨_, h, by have := hfO.size; simp at this ⊢; omega⟩
    case rest =>
      obtain ⟨v9, vo, hdp, hdv, hdo, hdT, hdat⟩ := hcut
      clear q0 q3 q4 b0 b1 hf4
      have hvbk : v.ownBlock ≠ some bk := owns_ne_map h8v.out h8k.out
      have hvbt : v.ownBlock ≠ some bt := owns_ne_map h8v.out h8t'.out
      have hbkp : bk ≠ p := h8k.out.ne_cells h8p.out
      have hpb : bt ≠ p := hbtp
      have dk := h8k.out.touch hdT (fun h => h.elim hbkp hvbk)
      have dt := Lib.hid (h8t'.out.touch hdT (fun h => h.elim hpb hvbt))
      have dw : Wheld wc 0 (wt ++ [⟨vo, Sp.setOf k seed, data⟩]) := by
        intro t ht
        rcases List.mem_append.1 ht with ht | ht
        · refine owns_touch (h8w.out t ht) hdT (fun i hi hG => ?_)
          rcases hG with rfl | hG
          · exact owns_ne_cells (h8w.out t ht) h8p.out (by decide) hi
          · rcases owns_ne_row (h8w.out t ht) h8v.out (by decide) with h | h
            · rw [h] at hi; cases hi
            · exact h (hi.trans hG.symm)
        · simp at ht; subst ht; exact owns_low hdo (Nat.zero_le _)
      have dv : wc.ownsRow 0 80 2 v9 (wt ++ [(⟨vo, Sp.setOf k seed, data⟩ : Wt)]).length (wcells (wt ++ [⟨vo, Sp.setOf k seed, data⟩])) := by
        rw [wcells_append, List.length_append]; exact hdv
      obtain ⟨g1, g2, g3, g4⟩ := setOf_good (k := k) (seed := seed) (by omega) (by omega) (by omega) (by omega)
      have ds : Sane k n known (strip (wt ++ [(⟨vo, Sp.setOf k seed, data⟩ : Wt)])) := by
        refine ⟨hs'.out.kn, fun t ht => ?_⟩
        obtain ⟨u, hu, rfl⟩ := List.mem_map.1 ht
        rcases List.mem_append.1 hu with hu | hu
        · exact hs'.out.of _ (List.mem_map.2 ⟨u, hu, rfl⟩)
        · simp at hu; subst hu; exact ⟨by simp only; omega, hds, g2⟩
      have hwc : w.heap.size ≤ wc.heap.size := Nat.le_trans h8z.out hdT.size
      have hcl := Lib.hid (c_learn p bk bt k n n v9 known (wt ++ [⟨vo, Sp.setOf k seed, data⟩]) wc hdp dk dv dw ds (by omega) (by simp; omega) (by omega))
      have hdT' := Lib.hid hdT
      clear hdp dk dv dw ds g1 g2 g3 g4 hdv hdo hdT hdat
      go_wp2_with fail
      refine hcl.out.mono ?_
      rintro e w' ⟨known', ws', out', v', vo', rfl, hL, ho, hp', hm', hv', hw', hs2, hl', hT'⟩
      clear hcl
      go_wp2_with fail
      go_ret2
      have hlen : ws'.length ≤ wt.length + 1 := by simpa using hl'
      have hfw' := hfew.out
      refine ⟨known', strip ws', out', vo', fun i => F i ∨ w.heap.size ≤ i, rfl, ?_, owns_low ho hwc, ⟨⟨bk, bt, v', ws', hp', hm', dt.out.touch hT' (fun h => h.elim hpb (fun e => h4 e.symm)), h4, owns_low hv' (Nat.zero_le _), hw'.low (Nat.zero_le _), rfl, .inl hF.out.1, .inl hF.out.2.1, .inl hF.out.2.2.1,
        fun i hi => .inr (Nat.le_trans hwc (hv'.lt i hi).1), fun t ht i hi => .inr (Nat.le_trans hwc ((hw' t ht).lt i hi).1)⟩, hs2, by simp [strip]; omega, by simp; omega⟩, ?_, fun i hi => hi⟩
      · have : strip (wt ++ [(⟨vo, Sp.setOf k seed, data⟩ : Wt)]) = strip wt ++ [(Sp.setOf k seed, data)] := by simp [strip]
        rw [← this]; exact hL
      · refine (h8T.out.trans hdT'.out (fun i _ h => ?_)).trans hT' (fun i _ h => ?_)
        · rcases h with rfl | h
          · exact hF.out.1
          · exact hF.out.2.2.2.1 i h
        · rcases h with rfl | rfl
          · exact hF.out.1
          · exact hF.out.2.1
end Go.Proofs.YtnepdhkjammibaaDoor
