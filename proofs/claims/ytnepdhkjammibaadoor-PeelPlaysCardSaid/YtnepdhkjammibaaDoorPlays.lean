/- The walk of PeelPlays. -/
import Derived.Test.YtnepdhkjammibaaDoorPlay
set_option linter.unusedVariables false
set_option linter.unusedSimpArgs false
namespace Go.Proofs.YtnepdhkjammibaaDoor
open Go.RowKit

set_option maxHeartbeats 4000000 in
set_option maxRecDepth 100000 in
theorem law_PeelPlays_bad (k size i : Int) (v : Value) (l : List (Int × ByteArray)) (w : World) (hv : RowAt w v l.length (dcells l)) (hg : ET w) (h : k < 1 ∨ 16 < k ∨ size < 1 ∨ 8 < size) :
    Calls Tryd.prog 3 #[.int .i64 k, .int .i64 size, v, .int .i64 i] w fun e w' => e = .returned (.bool true) ∧ Fresh w w' := by
  have hcs : k < 1 ∨ (1 ≤ k ∧ 16 < k) ∨ (1 ≤ k ∧ k ≤ 16 ∧ size < 1) ∨ (1 ≤ k ∧ k ≤ 16 ∧ 1 ≤ size ∧ 8 < size) := by omega
  have hnew := Lib.hid (c_peel_New_bad k size w h)
  have hg' := Lib.hid hg
  obtain ⟨A, c, rfl, hc, hm⟩ := hv.form
  clear hv hg h
  have hE : errI 1 = errV 1 := rfl
  rcases hcs with h1 | ⟨h1, h2⟩ | ⟨h1, h2, h3⟩ | ⟨h1, h2, h3, h4⟩
  case' inr.inr.inr => have hd8 : decide (size ≤ 8) = false := by simp; omega
  all_goals
    go_enter Tryd.func3, Tryd.ntmps3
    go_wp2_with fail
    refine hnew.out.mono ?_
    rintro e w1 ⟨rfl, hf1⟩
    rw [hE]
    go_wp2_with fail
    refine (c_Error 1 1 w1 (hg'.out.fresh hf1)).mono ?_
    rintro e w2 ⟨rfl, hf2⟩
    go_wp2_with fail
    go_ret
    exact ⟨rfl, hf1.then_fresh hf2⟩

/-- The document's peeler, made. -/
theorem RCells.made (w : World) (k : Int) : RCells (w.alloc (.cells #[.int .i64 k, .bool false, .bool false, .bool false, .bool false, .bool false, .bool false, .bool false, .bool false, .bool false, .bool false, .bool false, .bool false, .bool false, .bool false, .bool false, .bool false, .string ⟨#[]⟩, .string ⟨#[]⟩, .string ⟨#[]⟩, .string ⟨#[]⟩, .string ⟨#[]⟩, .string ⟨#[]⟩, .string ⟨#[]⟩, .string ⟨#[]⟩, .string ⟨#[]⟩, .string ⟨#[]⟩, .string ⟨#[]⟩, .string ⟨#[]⟩, .string ⟨#[]⟩, .string ⟨#[]⟩, .string ⟨#[]⟩, .string ⟨#[]⟩, .slice none 0 0, .slice none 0 0] 34)) w.heap.size k (fun _ => false) (fun _ => ⟨#[]⟩) (.slice none 0 0) (.slice none 0 0) := by
  refine ⟨by simp, fun i hi => ?_, fun i hi => ?_, by simp, by simp, ⟨_, heap_alloc_new w _⟩⟩
  · rw [World.cell?_alloc_at _ _ _ _ rfl]
    have : i = 0 ∨ i = 1 ∨ i = 2 ∨ i = 3 ∨ i = 4 ∨ i = 5 ∨ i = 6 ∨ i = 7 ∨ i = 8 ∨ i = 9 ∨ i = 10 ∨ i = 11 ∨ i = 12 ∨ i = 13 ∨ i = 14 ∨ i = 15 := by omega
    rcases this with rfl | rfl | rfl | rfl | rfl | rfl | rfl | rfl | rfl | rfl | rfl | rfl | rfl | rfl | rfl | rfl <;> rfl
  · rw [World.cell?_alloc_at _ _ _ _ rfl]
    have : i = 0 ∨ i = 1 ∨ i = 2 ∨ i = 3 ∨ i = 4 ∨ i = 5 ∨ i = 6 ∨ i = 7 ∨ i = 8 ∨ i = 9 ∨ i = 10 ∨ i = 11 ∨ i = 12 ∨ i = 13 ∨ i = 14 ∨ i = 15 := by omega
    rcases this with rfl | rfl | rfl | rfl | rfl | rfl | rfl | rfl | rfl | rfl | rfl | rfl | rfl | rfl | rfl | rfl <;> rfl

theorem c_Error_same (c : Int) (w : World) (hg : ET w) : Calls Tryd.prog 10 #[errV c, .int .i64 c] w fun r w' => r = .returned (.bool true) ∧ Fresh w w' :=
  (c_Error c c w hg).mono fun r w' ⟨h1, h2⟩ => ⟨h1.trans (by simp), h2⟩
theorem knows_same {known : List (Int × ByteArray)} {kn : Int → Bool} {bs : Int → ByteArray} (h : Matches known kn bs) (k : Nat) : rknows kn k = knowsOf k known := by
  unfold rknows knowsOf
  refine List.filter_congr fun i _ => h.kn i
theorem waits_len (p k n : Nat) (known : List (Int × ByteArray)) (taken : List Int) (ws : List (List Int × ByteArray)) (F : Nat → Prop) (len : Nat) (h : ws.length = len) (W : World) (hP : PeelerAt W p k n known taken ws F) :
    Calls Tryd.prog 19 #[.pointer (some ⟨p, 0, none⟩)] W fun e w' => e = .returned (.int .i64 len) ∧ W = w' := by
  subst h; exact c_peel_Waits p k n known taken ws F W hP
theorem fresh_then {w a b : World} (h : Fresh w a) (k : Touch (fun i => w.heap.size ≤ i) a b) : Fresh w b := h.trans k (fun i hi hb => by omega)
theorem takeErr_zero {k n : Nat} {taken : List Int} {seed : Int} {data : ByteArray} (h : takeErr k n taken seed data = 0) : 1 ≤ seed ∧ seed ≤ 10000 ∧ data.size = n ∧ seed ∉ taken ∧ taken.length < 60 ∧ dropErr k n seed data = 0 := by
  unfold takeErr at h
  by_cases h0 : dropErr k n seed data = 0
  · rw [if_neg (by simp [h0])] at h
    by_cases h1 : seed ∈ taken
    · rw [if_pos h1] at h; omega
    · rw [if_neg h1] at h
      by_cases h2 : 60 ≤ taken.length
      · rw [if_pos h2] at h; omega
      · rcases dropErr_cases k n seed data with ⟨_, he⟩ | ⟨_, _, _, _, _, _, _, he⟩ | ⟨_, _, _, _, h5, h6, h7, _⟩
        · omega
        · omega
        · exact ⟨h5, h6, by omega, h1, by omega, h0⟩
  · rw [if_pos h0] at h; exact absurd h h0

/-- Behind the document's taking, where it takes. -/
def CutC (b0 : Nat) (w0 wd : World) (p m k n : Nat) (known : List (Int × ByteArray)) (taken : List Int) (ws : List (List Int × ByteArray)) (F : Nat → Prop) (L : List (Int × ByteArray)) (s : Int) (d : ByteArray) (te : Int) (s16 : Value) : Prop :=
  (te ≠ 0 ∧ s16 = .slice none 0 0 ∧ wd = w0) ∨ (te = 0 ∧ ∃ (kn' : Int → Bool) (bs' : Int → ByteArray) (L' : List (Int × ByteArray)) (out' : List Int) (vo vL' vT' : Value), s16 = vo ∧ L'.length ≤ L.length + 1 ∧
    Mid b0 w0 wd p m k n known taken ws F kn' bs' L' out' s d vo vL' vT' ∧ Touch (fun i => b0 ≤ i) w0 wd)
/-- Behind both. -/
def CutD (b0 : Nat) (w we : World) (p m k n j : Nat) (te : Int) (s17 s18 s16 : Value) : Prop :=
  ∃ (known : List (Int × ByteArray)) (taken : List Int) (ws : List (List Int × ByteArray)) (F : Nat → Prop) (kn : Int → Bool) (bs : Int → ByteArray) (L : List (Int × ByteArray)) (vL vT : Value) (lst : List Int),
    Play b0 we p m k n known taken ws F kn bs L vL vT ∧ s18 = errV te ∧ RowAt we s17 lst.length (lst.map (.int .i64)) ∧ RowAt we s16 lst.length (lst.map (.int .i64)) ∧ L.length ≤ j ∧ taken.length ≤ j ∧ Fresh w we

set_option maxHeartbeats 8000000 in
set_option maxRecDepth 100000 in
theorem law_PeelPlays_ok (k n : Nat) (i : Int) (v : Value) (l : List (Int × ByteArray)) (w : World) (hv : RowAt w v l.length (dcells l)) (hds : ∀ d ∈ l, d.2.size ≤ 9223372036854775807) (hg : ET w) (k1 : 1 ≤ k) (k2 : k ≤ 16) (n1 : 1 ≤ n) (n2 : n ≤ 8) :
    Calls Tryd.prog 3 #[.int .i64 k, .int .i64 n, v, .int .i64 i] w fun e w' => e = .returned (.bool true) ∧ Fresh w w' := by
  have hd8 : decide ((n : Int) ≤ 8) = true := by simp; omega
  have hnew := Lib.hid (c_peel_New_ok k n w k1 k2 n1 n2)
  have hg' := Lib.hid hg
  have hds' := Lib.hid hds
  obtain ⟨A, c, rfl, hc, hm⟩ := hv.form
  have hv' := Lib.hid hv
  clear hv hg hds
  go_enter Tryd.func3, Tryd.ntmps3
  go_wp2_with fail
  refine hnew.out.mono ?_
  rintro e w1 ⟨p, rfl, hP, hf1, hp0⟩
  have hP' := Lib.hid hP
  clear hP hnew
  go_wp2_with fail
  refine (c_Error 0 0 w1 (hg'.out.fresh hf1)).mono ?_
  rintro e w2 ⟨rfl, hf2⟩
  go_wp2_with fail
  have hRm := Lib.hid (RCells.made w2 k)
  have hfa : Fresh w2 _ := (Touch.refl _ w2).alloc (.cells #[.int .i64 k, .bool false, .bool false, .bool false, .bool false, .bool false, .bool false, .bool false, .bool false, .bool false, .bool false, .bool false, .bool false, .bool false, .bool false, .bool false, .bool false, .string ⟨#[]⟩, .string ⟨#[]⟩, .string ⟨#[]⟩, .string ⟨#[]⟩, .string ⟨#[]⟩, .string ⟨#[]⟩, .string ⟨#[]⟩, .string ⟨#[]⟩, .string ⟨#[]⟩, .string ⟨#[]⟩, .string ⟨#[]⟩, .string ⟨#[]⟩, .string ⟨#[]⟩, .string ⟨#[]⟩, .string ⟨#[]⟩, .string ⟨#[]⟩, .slice none 0 0, .slice none 0 0] 34)
  generalize w2.alloc (.cells #[.int .i64 k, .bool false, .bool false, .bool false, .bool false, .bool false, .bool false, .bool false, .bool false, .bool false, .bool false, .bool false, .bool false, .bool false, .bool false, .bool false, .bool false, .string ⟨#[]⟩, .string ⟨#[]⟩, .string ⟨#[]⟩, .string ⟨#[]⟩, .string ⟨#[]⟩, .string ⟨#[]⟩, .string ⟨#[]⟩, .string ⟨#[]⟩, .string ⟨#[]⟩, .string ⟨#[]⟩, .string ⟨#[]⟩, .string ⟨#[]⟩, .string ⟨#[]⟩, .string ⟨#[]⟩, .string ⟨#[]⟩, .string ⟨#[]⟩, .slice none 0 0, .slice none 0 0] 34) = w3 at *
  generalize hm0 : w2.heap.size = m at *
  have hz2 : w.heap.size ≤ m := by rw [← hm0]; exact (hf1.then_fresh hf2).size
  have hz1 : w1.heap.size ≤ m := by rw [← hm0]; exact hf2.size
  have hff := Lib.hid ((hf1.then_fresh hf2).then_fresh hfa)
  have hplay : Hid (Play w.heap.size w3 p m k n [] [] [] (fun i => w.heap.size ≤ i ∧ i < w1.heap.size) (fun _ => false) (fun _ => ⟨#[]⟩) [] (.slice none 0 0) (.slice none 0 0)) := by
    have hsz := (hf2.then_fresh hfa).size
    exact ⟨(hP'.out.bound).fresh (hf2.then_fresh hfa), fun i hi => ⟨hi.1, by omega⟩, hRm.out, World.ownsRow_nil _ _ _ _, World.ownsRow_nil _ _ _ _, ⟨hz2, fun h => by omega⟩, fun i hi => by simp [Value.ownBlock] at hi, fun i hi => by simp [Value.ownBlock] at hi,
      ⟨fun i hi => by simp at hi, fun d hd => by simp at hd⟩, ⟨fun i => rfl, fun i b hb => by simp [aget] at hb⟩, rfl, rfl⟩
  clear hf1 hf2 hfa hm0 hRm hP'
  go_loopg [14] (l.length) (fun g s14 wr => ∃ (j : Nat) (known : List (Int × ByteArray)) (taken : List Int) (ws : List (List Int × ByteArray)) (F : Nat → Prop) (kn : Int → Bool) (bs : Int → ByteArray) (L : List (Int × ByteArray)) (vL vT : Value), j + g = l.length ∧ j ≤ 70 ∧ s14 = .int .i64 j ∧
    Play w.heap.size wr p m k n known taken ws F kn bs L vL vT ∧ L.length ≤ j ∧ taken.length ≤ j ∧ Fresh w wr)
  case atStart => exact ⟨0, [], [], [], _, _, _, [], _, _, by simp, by omega, rfl, hplay.out, by simp, by simp, hff.out⟩
  case round =>
    obtain ⟨j, known, taken, ws, F, kn, bs, L, vL, vT, hj, hj70, rfl, hpl, hLj, hTj, hfr⟩ := hrel
    have hpl' := Lib.hid hpl
    have hfr' := Lib.hid hfr
    have hfz := hfr.size
    by_cases hlt : j < l.length ∧ j < 70
    · obtain ⟨hlt, hlt70⟩ := hlt
      obtain ⟨b, o, s, d, rfl, hy, hcw0, hcw1⟩ := hv'.out.drop_at j hlt
      have hcl0 := keepc hfr hcw0
      have hcl1 := keepc hfr hcw1
      have hw0 := Lib.hid hcw0
      have hw1 := Lib.hid hcw1
      clear hcw0 hcw1
      have hsz := hds'.out (s, d) (List.mem_of_getElem? hy.out)
      have hcd := Lib.hid (fun W => c_R_Drop k n s d W hsz)
      obtain ⟨AT, cT, rfl, hcT, hmT⟩ := (RowAt.of_owns hpl.oT).form
      have hbl := block_lt_of_cell hcl0
      have hjl : (j : Int) < (l.length : Nat) := by omega
      have hj70' : (j : Int) < 70 := by omega
      clear hpl hfr
      go_wp2_with fail
      refine (hcd.out _).mono ?_
      rintro e w4 ⟨rfl, hf4⟩
      have r0 := (hf4.cell (block_lt_of_cell hcl0) id).trans hcl0
      have r1 := (hf4.cell (block_lt_of_cell hcl1) id).trans hcl1
      have hpl4 := Lib.hid (hpl'.out.fresh hf4)
      have q34 := hpl4.out.R.kt
      have hf4' := Lib.hid (hfr'.out.then_fresh hf4)
      clear hcl0 hcl1 hf4 hcd
      go_upto_region 13 with fail
      go_cut [15] (fun s15 wc => s15 = .bool (memI taken s) ∧ Fresh w4 wc)
      case first =>
        -- FAST{
        go_region_held3 (fun w' => w'.cell? ⟨m, 34, none⟩ = some (.slice AT taken.length cT) ∧ w'.cell? ⟨b, o + j * 2, none⟩ = some (.int .i64 s))
          (first | with_reducible exact ⟨q34, r0⟩ | go_keep)
          ((go_at_call 12; refine (c_R_In _ taken s _ (RowAt.of_owns (owns_fresh hpl4.out.oT ((Touch.refl _ w4).drew)))).mono ?_; rintro e w5 ⟨rfl, rfl⟩))
        all_goals
          go_wp2_with fail
          go_meet
          case rel => exact ⟨rfl, (Touch.refl _ w4).drew⟩
        -- }FAST
      case rest =>
        obtain ⟨rfl, hf5⟩ := hcut
        have hpl5 := Lib.hid (hpl4.out.fresh hf5)
        have q34 := hpl5.out.R.kt
        have hf5' := Lib.hid (hf4'.out.then_fresh hf5)
        go_upto_region 14 with fail
        go_cut [86] (fun s86 wd => ∃ tb : Bool, s86 = .bool tb ∧ Hid (tb = (decide (dropErr k n s d = 0) && memI taken s)) ∧ wd = wc)
        case first =>
          -- FAST{
          by_cases h0 : dropErr k n s d = 0
          · have ht : (dropErr k n s d == 0) = true := by simpa using h0
            go_wp2_with fail
            go_meet
            case rel => exact ⟨_, rfl, by unfold Hid; simp [h0], rfl⟩
          · have ht : (dropErr k n s d == 0) = false := by simpa using h0
            go_wp2_with fail
            go_meet
            case rel => exact ⟨_, rfl, by unfold Hid; simp [h0], rfl⟩
          -- }FAST
        case rest =>
          obtain ⟨tb, rfl, htb, hwd⟩ := hcut
          subst hwd
          go_upto_if 86 with fail
          go_cut [9] (fun s9 wd => s9 = .int .i64 (takeErr k n taken s d) ∧ wd = wc)
          case first =>
            -- FAST{
            by_cases h0 : dropErr k n s d = 0
            · have ht : (dropErr k n s d == 0) = true := by simpa using h0
              by_cases hm : s ∈ taken
              · have hT : Hid (takeErr k n taken s d = 7) := by unfold Hid takeErr; rw [if_neg (by simp [h0]), if_pos hm]
                have hmt := memI_iff.2 hm
                obtain rfl : tb = true := by rw [htb.out]; simp [h0, hmt]
                clear hmt
                go_wp2_with fail
                go_meet
                case rel => exact ⟨by rw [hT.out], rfl⟩
              · have hmt := memI_no.2 hm
                obtain rfl : tb = false := by rw [htb.out]; simp [hmt]
                clear hmt
                by_cases h60 : (60 : Int) ≤ (taken.length : Nat)
                · have hT : Hid (takeErr k n taken s d = 4) := by unfold Hid takeErr; rw [if_neg (by simp [h0]), if_neg hm, if_pos (by omega)]
                  go_wp2_with fail
                  go_meet
                  case rel => exact ⟨by rw [hT.out], rfl⟩
                · have hT : Hid (takeErr k n taken s d = 0) := by unfold Hid takeErr; rw [if_neg (by simp [h0]), if_neg hm, if_neg (by omega)]
                  have h0' := Lib.hid h0
                  go_wp2_with fail
                  go_meet
                  case rel => exact ⟨by rw [hT.out], rfl⟩
            · have ht : (dropErr k n s d == 0) = false := by simpa using h0
              have hT : Hid (takeErr k n taken s d = dropErr k n s d) := by unfold Hid takeErr; rw [if_pos h0]
              obtain rfl : tb = false := by rw [htb.out]; simp [h0]
              go_wp2_with fail
              go_meet
              case rel => exact ⟨by rw [hT.out], rfl⟩
            -- }FAST
          case rest =>
            obtain ⟨rfl, hwd⟩ := hcut
            subst hwd
            have d0 := keepc hf5 r0
            have d1 := keepc hf5 r1
            have hblc := block_lt_of_cell d0
            clear r0 r1 q34 htb
            have hte := Lib.hid (takeErr_zero (k := k) (n := n) (taken := taken) (seed := s) (data := d))
            have hbad := Lib.hid (fun W (h : PeelerAt W p k n known taken ws F) he => c_peel_Take_bad p k n known taken ws F s d W h hsz he)
            have hok := Lib.hid (fun W (h : PeelerAt W p k n known taken ws F) he => c_peel_Take_ok p k n known taken ws F s d W h hsz he)
            generalize takeErr k n taken s d = te at *
            go_upto_if 98 with fail
            go_cut [16] (fun s16 wd => CutC w.heap.size wc wd p m k n known taken ws F L s d te s16)
            case first =>
              -- FAST{
              by_cases h0 : te = 0
              · subst h0
                obtain ⟨z1, z2, z3, z4, z5, z6⟩ := hte.out rfl
                have hcR := Lib.hid (c_R_Take m k n kn bs vL (.slice AT taken.length cT) L taken s d wc hpl5.out.R hpl5.out.oL hpl5.out.oT (by omega) (by omega) z1 z2 z3 (by omega) (by omega) (by omega) hpl5.out.sane)
                clear z1 z2 z3 z4 z5 z6
                go_wp2_with fail
                refine hcR.out.mono ?_
                rintro e w6 ⟨kn', bs', L', out', vo, vL', vT', rfl, hL1, ho1, hR1, hoL1, hoT1, hs1, hl1, ht1, hvl1, hvt1⟩
                have hmid := Lib.hid (Play.mid (w := w6) hpl5.out hf5'.out.size hL1 ho1 hR1 hoL1 hoT1 hs1 ht1 hvl1 hvt1)
                have htt := Lib.hid ht1
                have hl1' := Lib.hid hl1
                clear hL1 ho1 hR1 hoL1 hoT1 hs1 hl1 ht1 hvl1 hvt1
                go_wp2_with fail
                go_meet
                case rel =>
                  refine .inr ⟨rfl, kn', bs', L', out', vo, vL', vT', rfl, hl1'.out, hmid.out, htt.out.mono (fun i _ h => ?_)⟩
                  rcases h with rfl | h | h
                  · exact hpl5.out.m0.1
                  · exact (hpl5.out.l0 i h).1
                  · exact (hpl5.out.t0 i h).1
              · have hq : (te == 0) = false := by simpa using h0
                have h0' := Lib.hid h0
                clear h0
                go_wp2_with fail
                go_meet
                case rel => exact .inl ⟨h0'.out, rfl, rfl⟩
              -- }FAST
            case rest =>
              have hcc := Lib.hid hcut
              clear hcut
              go_upto_region 21 with fail
              go_cut [17, 18, 16] (fun s17 s18 s16 we => CutD w.heap.size w we p m k n (j + 1) te s17 s18 s16)
              case first =>
                -- FAST{
                rcases hcc.out with ⟨hne, rfl, rfl⟩ | ⟨rfl, kn', bs', L', out', vo, vL', vT', rfl, hl1, hmid, ht1⟩
                · have hb := Lib.hid (hbad.out _ hpl5.out.P hne)
                  clear hbad hok hne
                  go_wp2_with fail
                  refine hb.out.mono ?_
                  rintro e w6 ⟨rfl, hf6⟩
                  have hf6' := Lib.hid hf6
                  clear hf6
                  go_wp2_with fail
                  go_meet
                  case rel => exact ⟨known, taken, ws, F, kn, bs, L, vL, _, [], hpl5.out.fresh hf6'.out, rfl, RowAt.nil _, RowAt.nil _, by omega, by omega, hf5'.out.then_fresh hf6'.out⟩
                · have hb := Lib.hid (hok.out _ hmid.P rfl)
                  have hfd := fresh_then hf5'.out ht1
                  have e0 := keepc hfd hw0.out
                  have e1 := keepc hfd hw1.out
                  have hblc2 := block_lt_of_cell e0
                  have hmid' := Lib.hid hmid
                  have hl1' := Lib.hid hl1
                  have hfd' := Lib.hid hfd
                  clear hbad hok hmid hl1 ht1 hfd d0 d1 hblc
                  go_wp2_with fail
                  refine hb.out.mono ?_
                  rintro e w6 ⟨known', ws', out2, vo2, F', rfl, hL2, ho2, hP2, hT2, hF2⟩
                  have hm := Lib.hid (hmid'.out.play hfd'.out.size hL2 hP2 hT2 hF2)
                  have ho2' := Lib.hid (RowAt.of_owns ho2)
                  have hfe := Lib.hid (hfd'.out.trans hT2 (fun i hi h => by have := (hmid'.out.F0 i h).1; omega))
                  clear hL2 ho2 hP2 hT2 hF2
                  go_wp2_with fail
                  go_meet
                  case rel =>
                    obtain ⟨m1, m2, m3⟩ := hm.out
                    exact ⟨known', taken ++ [s], ws', _, kn', bs', L', vL', vT', out2, m1, rfl, ho2'.out, by rw [← m2]; exact RowAt.of_owns m3, by have := hl1'.out; omega, by simp; omega, hfe.out⟩
                -- }FAST
              case rest =>
                clear hbad hok hcc hpl4 hpl5 hf4' hf5' hf5 d0 d1 hblc hpl' hfr' hte
                obtain ⟨known2, taken2, ws2, F2, kn2, bs2, L2, vL2, vT2, lst, hp2, rfl, hr17, hr16, hl2, ht2, hfe⟩ := hcut
                have hE := Lib.hid (c_Error_same te wc (hg'.out.fresh hfe))
                have hp2' := Lib.hid hp2
                have hr17' := Lib.hid hr17
                have hr16' := Lib.hid hr16
                have hfe' := Lib.hid hfe
                clear hp2 hr17 hr16 hfe
                go_wp2_with fail
                refine hE.out.mono ?_
                rintro e w6 ⟨rfl, hf6⟩
                have hI := Lib.hid (c_Ints_same u17 u16 lst w6 (hr17'.out.fresh hf6) (hr16'.out.fresh hf6))
                have hf6' := Lib.hid hf6
                clear hf6
                go_wp2_with fail
                refine hI.out.mono ?_
                rintro e w7 ⟨rfl, hf7⟩
                have hp7 := Lib.hid (hp2'.out.fresh (hf6'.out.then_fresh hf7))
                have hf7' := Lib.hid ((hfe'.out.then_fresh hf6'.out).then_fresh hf7)
                clear hf7 hp2' hr17' hr16' hE hI hfe' hf6'
                go_upto_region 25 with fail
                go_cut [128] (fun s128 wf => ∃ tb : Bool, s128 = .bool tb ∧ Hid (tb = decide (i < 0 ∨ (k : Int) ≤ i)) ∧ wf = w7)
                case first =>
                  -- FAST{
                  by_cases hi0 : i < 0
                  · have hd : Hid (decide (i < 0 ∨ (k : Int) ≤ i) = true) := by unfold Hid; simp [hi0]
                    go_wp2_with fail
                    go_meet
                    case rel => exact ⟨_, rfl, hd.out.symm, rfl⟩
                  · by_cases hik : (k : Int) ≤ i
                    · have hd : Hid (decide (i < 0 ∨ (k : Int) ≤ i) = true) := by unfold Hid; simp [hik]
                      have hd2 : decide ((k : Int) ≤ i) = true := by simpa using hik
                      go_wp2_with fail
                      go_meet
                      case rel => exact ⟨_, rfl, hd.out.symm, rfl⟩
                    · have hd : Hid (decide (i < 0 ∨ (k : Int) ≤ i) = false) := by unfold Hid; simp [hik, hi0]
                      have hd2 : decide ((k : Int) ≤ i) = false := by simpa using hik
                      go_wp2_with fail
                      go_meet
                      case rel => exact ⟨_, rfl, hd.out.symm, rfl⟩
                  -- }FAST
                case rest =>
                  obtain ⟨tb, rfl, htb, hwd⟩ := hcut
                  subst hwd
                  go_upto_if 128 with fail
                  go_cut [9, 19] (fun s9 s19 wf => s9 = .int .i64 (blockErr k known2 i) ∧ s19 = .string (blockOf k known2 i) ∧ wf = wc)
                  case first =>
                    -- FAST{
                    by_cases hi0 : i < 0
                    · obtain rfl : tb = true := by rw [htb.out]; simp [hi0]
                      have hE : Hid (blockErr k known2 i = 1) := if_pos (.inl hi0)
                      have hB : Hid (blockOf k known2 i = ⟨#[]⟩) := if_pos (.inl hi0)
                      go_wp2_with fail
                      go_meet
                      case rel => exact ⟨by rw [hE.out], by rw [hB.out], rfl⟩
                    · by_cases hik : (k : Int) ≤ i
                      · obtain rfl : tb = true := by rw [htb.out]; simp [hik]
                        have hE : Hid (blockErr k known2 i = 1) := if_pos (.inr hik)
                        have hB : Hid (blockOf k known2 i = ⟨#[]⟩) := if_pos (.inr hik)
                        have hd : decide ((k : Int) ≤ i) = true := by simpa using hik
                        go_wp2_with fail
                        go_meet
                        case rel => exact ⟨by rw [hE.out], by rw [hB.out], rfl⟩
                      · obtain rfl : tb = false := by rw [htb.out]; simp [hik, hi0]
                        obtain ⟨x, rfl⟩ := Int.eq_ofNat_of_zero_le (by omega : 0 ≤ i)
                        have x16 : (x : Int) < 16 := by omega
                        have x16n : x < 16 := by omega
                        have hd : decide ((k : Int) ≤ (x : Int)) = false := by simp; omega
                        have hkk := hp7.out.R.kk x x16n
                        have hkb := hp7.out.R.kb x x16n
                        have hks := hp7.out.same.kn x
                        have hbs := hp7.out.same.bs x
                        cases hget : aget known2 (x : Int) with
                        | some bb =>
                          have hE : Hid (blockErr k known2 x = 0) := by unfold Hid blockErr; rw [if_neg (by omega), hget]; rfl
                          have hB : Hid (blockOf k known2 x = bb) := by unfold Hid blockOf; rw [if_neg (by omega), hget]; rfl
                          rw [hks, hget] at hkk
                          rw [hbs bb hget] at hkb
                          simp only [Option.isSome_some] at hkk
                          clear hks hbs hget
                          go_wp2_with fail
                          go_meet
                          case rel => exact ⟨by rw [hE.out], by rw [hB.out], rfl⟩
                        | none =>
                          have hE : Hid (blockErr k known2 x = 5) := by unfold Hid blockErr; rw [if_neg (by omega), hget]; rfl
                          have hB : Hid (blockOf k known2 x = ⟨#[]⟩) := by unfold Hid blockOf; rw [if_neg (by omega), hget]; rfl
                          rw [hks, hget] at hkk
                          simp only [Option.isSome_none] at hkk
                          clear hks hbs hget
                          go_wp2_with fail
                          go_meet
                          case rel => exact ⟨by rw [hE.out], by rw [hB.out], rfl⟩
                    -- }FAST
                  case rest =>
                    obtain ⟨rfl, rfl, hwd⟩ := hcut
                    subst hwd
                    have hBl := Lib.hid (c_peel_Block p k n known2 taken2 ws2 F2 i wc hp7.out.P (by omega))
                    have hE := Lib.hid (c_Error_same (blockErr k known2 i) wc (hg'.out.fresh hf7'.out))
                    go_wp2_with fail
                    refine hBl.out.mono ?_
                    rintro e w8 ⟨rfl, hw8⟩
                    subst hw8
                    clear hBl
                    go_wp2_with fail
                    refine hE.out.mono ?_
                    rintro e w8 ⟨rfl, hf8⟩
                    have hp8 := Lib.hid (hp7.out.fresh hf8)
                    have hf8' := Lib.hid (hf7'.out.then_fresh hf8)
                    have q33 := hp8.out.R.kl
                    obtain ⟨A2, c2, rfl, hc2, hm2⟩ := (RowAt.of_owns hp8.out.oL).form
                    have hlst := Lib.hid (knows_same hp8.out.same k)
                    clear hE hp7 hf7' hf8
                    go_upto_region 32 with fail
                    go_cut [179] (fun s179 wf => s179 = .bool false ∧ Fresh w8 wf)
                    case first =>
                      have hW := Lib.hid (waits_len p k n known2 taken2 ws2 F2 L2.length hp8.out.len)
                      go_region_held3 (fun w' => w'.cell? ⟨m, 33, none⟩ = some (.slice A2 L2.length c2))
                        (first | with_reducible exact q33 | with_reducible exact t5 | with_reducible exact t6 | with_reducible exact t7 | go_keep)
                        (first
                          | (go_at_call 17; refine (c_peel_Knows p k n known2 taken2 ws2 F2 _ (hp8.out.P.fresh ((Touch.refl _ w8).drew)) (by omega)).mono ?_; rintro e w5 ⟨v17, rfl, ho17, hf5⟩; have t5 := keepc hf5 q33)
                          | (go_at_call 18; refine (c_R_Knows m k kn2 bs2 _ vT2 _ (hp8.out.R.fresh (((Touch.refl _ w8).drew).then_fresh hf5)) (by omega)).mono ?_; rintro e w6 ⟨v18, rfl, ho18, hf6⟩; have t6 := keepc hf6 t5)
                          | (go_at_call 15; refine (c_Ints_same v17 v18 (knowsOf k known2) _ (RowAt.of_owns (owns_fresh ho17 hf6)) (hlst.out ▸ RowAt.of_owns ho18)).mono ?_; rintro e w7 ⟨rfl, hf7⟩; have t7 := keepc hf7 t6)
                          | (go_at_call 19; refine (hW.out _ (hp8.out.P.fresh (((((Touch.refl _ w8).drew).then_fresh hf5).then_fresh hf6).then_fresh hf7))).mono ?_; rintro e w9 ⟨rfl, rfl⟩))
                      all_goals
                        go_wp2_with fail
                        go_meet
                        case rel => exact ⟨rfl, ((((Touch.refl _ w8).drew).then_fresh hf5).then_fresh hf6).then_fresh hf7⟩
                    case rest =>
                      obtain ⟨rfl, hf9⟩ := hcut
                      have hp9 := Lib.hid (hp8.out.fresh hf9)
                      have hf9' := Lib.hid (hf8'.out.then_fresh hf9)
                      clear hf9 hf8' hp8 q33
                      go_wp2_with fail
                      go_roundg (l.length - (j + 1))
                      case rel => exact ⟨j + 1, known2, taken2, ws2, F2, kn2, bs2, L2, _, vT2, by omega, by omega, by go_num, hp9.out, by omega, by omega, hf9'.out⟩
                      case measure => omega
    · clear hpl
      by_cases hlt2 : (j : Int) < (l.length : Nat)
      · have hd70 : decide ((j : Int) < 70) = false := by simp; omega
        go_wp2_with fail
        go_ret
        exact ⟨rfl, hfr⟩
      · go_wp2_with fail
        go_ret
        exact ⟨rfl, hfr⟩

/-- **PeelPlays: whatever is drawn, it answers true.** -/
theorem law_PeelPlays (k size i : Int) (v : Value) (l : List (Int × ByteArray)) (w : World) (hv : RowAt w v l.length (dcells l)) (hds : ∀ d ∈ l, d.2.size ≤ 9223372036854775807) (hg : ET w) :
    Calls Tryd.prog 3 #[.int .i64 k, .int .i64 size, v, .int .i64 i] w fun e w' => e = .returned (.bool true) ∧ Fresh w w' := by
  by_cases h : k < 1 ∨ 16 < k ∨ size < 1 ∨ 8 < size
  · exact law_PeelPlays_bad k size i v l w hv hg h
  · obtain ⟨k', rfl⟩ := Int.eq_ofNat_of_zero_le (by omega : 0 ≤ k)
    obtain ⟨n', rfl⟩ := Int.eq_ofNat_of_zero_le (by omega : 0 ≤ size)
    exact law_PeelPlays_ok k' n' i v l w hv hds hg (by omega) (by omega) (by omega) (by omega)
end Go.Proofs.YtnepdhkjammibaaDoor
