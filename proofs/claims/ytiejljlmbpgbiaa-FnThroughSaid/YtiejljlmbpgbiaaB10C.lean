/- The chances that the statements draw: rows of quotients. Conditions: the slice reads as bytes, few letters. -/
import Derived.Test.YtiejljlmbpgbiaaSrc
import Derived.Test.YtiejljlmbpgbiaaThrI
import Derived.Test.YtiejljlmbpgbiaaSum
namespace Go.Proofs.Ytiejljlmbpgbiaa
open Go.RowKit
set_option maxRecDepth 100000
set_option linter.unusedVariables false
set_option linter.unusedSimpArgs false
attribute [local go_sem] run_store_flt

theorem i32_add : ∀ a : Fin 64, ∀ b : Fin 7, floatBits .add .f32 (I32 (a.val : Int)) (I32 (b.val : Int)) = some (I32 ((a.val : Int) + (b.val : Int))) := by decide +kernel
/-- Drawn parts: from 1 to 6. -/
def Prt (cs : List Int) : Prop := ∀ c ∈ cs, 1 ≤ c ∧ c ≤ 6
theorem prt_sum {cs : List Int} (h : Prt cs) : 0 ≤ sumL cs ∧ sumL cs ≤ 6 * (cs.length : Int) := by
  induction cs with
  | nil => simp [sumL]
  | cons c cs ih =>
    have h1 := h c (by simp)
    have h2 := ih fun y hy => h y (List.mem_cons_of_mem _ hy)
    simp only [sumL, List.length_cons]; omega
theorem sumL_snoc (cs : List Int) (c : Int) : sumL (cs ++ [c]) = sumL cs + c := by
  induction cs with
  | nil => simp [sumL]
  | cons d cs ih => simp only [List.cons_append, sumL, ih]; omega
theorem prt_le {cs : List Int} (h : Prt cs) (c : Int) (hc : c ∈ cs) : c ≤ sumL cs := by
  induction cs with
  | nil => cases hc
  | cons d cs ih =>
    have h0 := prt_sum (cs := cs) fun y hy => h y (List.mem_cons_of_mem _ hy)
    rcases List.mem_cons.1 hc with rfl | hc
    · simp only [sumL]; omega
    · have := ih (fun y hy => h y (List.mem_cons_of_mem _ hy)) hc
      have := h d (by simp)
      simp only [sumL]; omega
/-- The first k parts divided. -/
def dvL (cs : List Int) (k : Nat) : List Nat := (List.range cs.length).map fun i => if i < k then ratW (cs.getD i 0) (sumL cs) else I32 (cs.getD i 0)
theorem dvL_len (cs : List Int) (k : Nat) : (dvL cs k).length = cs.length := by simp [dvL]
theorem dvL_zero (cs : List Int) : dvL cs 0 = cs.map I32 := by
  refine List.ext_getElem? fun j => ?_
  by_cases hj : j < cs.length
  · simp [dvL, hj]
  · rw [List.getElem?_eq_none (by rw [dvL_len]; omega), List.getElem?_eq_none (by simp; omega)]
theorem dvL_get (cs : List Int) (k : Nat) (h : k < (dvL cs k).length) : (dvL cs k)[k] = I32 (cs.getD k 0) := by simp [dvL]
theorem dvL_step (cs : List Int) (k : Nat) : dvL cs (k + 1) = (dvL cs k).set k (ratW (cs.getD k 0) (sumL cs)) := by
  refine List.ext_getElem? fun j => ?_
  rw [List.getElem?_set]
  by_cases hj : j < cs.length
  · simp only [dvL, List.getElem?_map, List.getElem?_range hj, Option.map_some, List.length_map, List.length_range]
    by_cases e : k = j
    · subst e; rw [if_pos (by omega), if_pos rfl, if_pos hj]
    · rw [if_neg e]
      by_cases e2 : j < k
      · rw [if_pos (by omega), if_pos e2]
      · rw [if_neg (by omega), if_neg e2]
  · rw [List.getElem?_eq_none (by rw [dvL_len]; omega), dvL_len]
    split
    · rw [if_neg (by omega)]
    · rw [List.getElem?_eq_none (by rw [dvL_len]; omega)]
/-- A row of quotients. -/
def rwL (cs : List Int) : List Nat := cs.map fun c => ratW c (sumL cs)
theorem dvL_all (cs : List Int) : dvL cs cs.length = rwL cs := by
  refine List.ext_getElem? fun j => ?_
  by_cases hj : j < cs.length
  · simp [dvL, rwL, hj]
  · rw [List.getElem?_eq_none (by rw [dvL_len]; omega), List.getElem?_eq_none (by simp [rwL]; omega)]
theorem grown_new {w wr w' : World} {B : Nat} {ob : Obj} {row : Option Nat} (h : w.grownBy wr (some B)) (hg : (wr.alloc ob).grownBy w' row) (hr : ∀ k, row = some k → w.heap.size ≤ k) : w.grownBy w' (some B) := by
  have hs := h.size
  have hs2 := hg.size
  rw [World.size_alloc] at hs2
  refine ⟨hg.os.trans h.os, hg.tape.trans h.tape, hg.output.trans h.output, by omega, fun i hi hB => ?_⟩
  rw [hg.block i (by rw [World.size_alloc]; omega) (fun e => by have := hr i e.symm; omega)]
  rw [Below.heap_alloc wr ob i (by omega)]
  exact h.block i hi hB
theorem below0 {w w' : World} {row : Option Nat} (h : w.grownBy w' row) : Below 0 w w' := ⟨h.os, h.tape, h.output, h.size, fun i hi => absurd hi (Nat.not_lt_zero i)⟩
theorem rb_kept {w w' : World} {B at' : Nat} {seed : Int} {v : Value} {bs : List Int} (h : RB w v bs) (hs : SrcAt w B v at' seed) (hg : w.grownBy w' (some B)) : RB w' v bs := h.other hs hg
def GvF (B : Nat) (v : Value) (at0 n : Nat) (w : World) (e : Ending) (w' : World) : Prop := ∃ v' cs at2 seed2, e = .returned v' ∧ Og eF w.heap.size w' v' (rwL cs) ∧ cs.length = n ∧ Prt cs ∧ SrcAt w' B v at2 seed2 ∧ at2 ≤ at0 + 2 * n ∧ w.grownBy w' (some B)
set_option maxHeartbeats 4000000 in
theorem b10Ch_any (B : Nat) (v : Value) (bs : List Int) (at0 : Nat) (seed0 : Int) (n : Nat) (w : World) (h : RB w v bs) (hs : SrcAt w B v at0 seed0) (ha : at0 ≤ 1000) (hl : bs.length ≤ 1099511627776) (hn1 : 1 ≤ n) (hn : n ≤ 8) :
    Calls Try.prog 24 #[.pointer (some ⟨B, 0, none⟩), .int .i64 n] w (GvF B v at0 n w) := by
  have H := Lib.hid h
  have Hs0 := Lib.hid hs
  have hBlt0 : B < w.heap.size := blk_lt hs.1
  have Hs1 := Lib.hid (show SrcAt (w.alloc (.cells #[] 36)) B v at0 seed0 from ⟨blk_alloc hs.1, hs.2⟩)
  have hg1 : w.grownBy (w.alloc (.cells #[] 36)) (some B) := by
    have := grown_new (ob := .cells #[] 36) (World.grownBy.refl w (some B)) (World.grownBy.refl _ none) (fun k e => by cases e)
    exact this
  have hE := ownF_empty w w.heap.size (Nat.le_refl _)
  have HI := Lib.hid (And.intro hE hg1)
  clear h hs hE hg1
  go_enter Try.func24, Try.ntmps24
  go_wp2_with fail
  go_loopw [5, 6, 7] (fun ov sv kv wr => ∃ (k at' : Nat) (seed : Int) (cs : List Int), kv = .int .i64 k ∧ k ≤ n ∧ cs.length = k ∧ Prt cs ∧ sv = .float .f32 (I32 (sumL cs)) ∧ at' ≤ at0 + 2 * k ∧ OwnF w.heap.size wr ov (cs.map I32) ∧ SrcAt wr B v at' seed ∧ w.grownBy wr (some B)) (fun _ _ kv _ => n - (intOf kv).toNat)
  case atStart => exact ⟨0, at0, seed0, [], rfl, Nat.zero_le _, rfl, (fun c hc => by cases hc), rfl, by omega, HI.out.1, Hs1.out, HI.out.2⟩
  case round =>
    clear HI Hs1
    obtain ⟨k, at', seed, cs, rfl, hk, hcl, hp, rfl, hat, hown, hs, hg⟩ := hrel
    obtain ⟨ao, cap, rfl⟩ := hown.shape
    rw [List.length_map] at hown ⊢
    have Hcl := Lib.hid hcl
    have Hp := Lib.hid hp
    have Hown := Lib.hid hown
    have Hs := Lib.hid hs
    have Hg := Lib.hid hg
    have hps := prt_sum hp
    have hcl2 : cs.length ≤ 8 := by omega
    have hs0 := hps.1
    have hs1 : sumL cs ≤ 48 := by omega
    have hsz := hg.size
    clear hcl hp hown hs hg hps
    by_cases hkn : k < n
    · have hknI : (k : Int) < (n : Int) := by omega
      have HP := Lib.hid (pick_any B v bs at' seed 6 wr (H.out.other Hs0.out Hg.out) Hs.out (by omega) hl (by omega))
      go_wp2_with fail
      refine HP.out.mono ?_
      rintro e w2 ⟨x, at2, seed2, ⟨hx0, hx1⟩, rfl, hs2, hat2, hg2⟩
      have hx5 : x ≤ 5 := by omega
      have Hown2 := Lib.hid (World.ownsRow.kept Hown.out hg2 (ne_blk (fun k hk => by have := (World.ownsRow.lt Hown.out k hk).1; omega)))
      have Hg2 := Lib.hid (grown_trans Hg.out hg2)
      have Hs2 := Lib.hid hs2
      have hsz2 := Hg2.out.size
      have o1 := run_op (P := Try.prog) (show floatBits .add .f32 (I32 (sumL cs)) (I32 (1 + x)) = some (I32 (sumL cs + (1 + x))) by
        have := i32_add ⟨(sumL cs).toNat, by omega⟩ ⟨(1 + x).toNat, by omega⟩
        dsimp only at this
        rwa [Int.toNat_of_nonneg hs0, Int.toNat_of_nonneg (by omega)] at this)
      clear hs2 hg2 HP Hs Hg Hown hx1
      have hB0 := Lib.hid (below0 Hg2.out)
      go_wp2_with (first | simp only [o1] | (at_builtin; go_must (refine app_flts rfl _ _ rfl w.heap.size 0 (Nat.zero_le _) (.slice ao cs.length cap) (cs.map I32) rfl Hown2.out hB0.out _ _ [I32 (1 + x)] rfl rfl (by simp; omega) hsz2 ?_)))
      intro v4 w4 hown4 hB4 hg4
      have e1 : cs.map I32 ++ [I32 (1 + x)] = (cs ++ [1 + x]).map I32 := by simp
      rw [e1] at hown4
      have Hs4 := Lib.hid (show SrcAt w4 B v at2 seed2 from ⟨blk_grown hg4 (fun e => by have := (World.ownsRow.lt Hown2.out B e.symm).1; omega) (blk_alloc Hs2.out.1), Hs2.out.2⟩)
      have Hg4 := Lib.hid (grown_new Hg2.out hg4 (fun k hk => (World.ownsRow.lt Hown2.out k hk).1))
      have Hp4 := Lib.hid (show Prt (cs ++ [1 + x]) from fun c hc => by
        rcases List.mem_append.1 hc with hc | hc
        · exact Hp.out c hc
        · obtain rfl := List.mem_singleton.1 hc; omega)
      have Hl4 := Lib.hid (show (cs ++ [1 + x]).length = k + 1 by rw [List.length_append, List.length_singleton, Hcl.out])
      have Hsu := Lib.hid (sumL_snoc cs (1 + x))
      obtain ⟨ao4, cap4, rfl⟩ := hown4.shape
      have Hown4 := Lib.hid hown4
      rw [List.length_map] at Hown4 ⊢
      clear hown4 hg4 hB4 hB0 Hown2 Hs2 Hg2
      rw [← Hsu.out] at o1
      go_wp2_with (first | simp only [o1] | fail)
      clear o1
      go_roundw
      case rel => exact ⟨k + 1, at2, seed2, cs ++ [1 + x], by go_num, by omega, Hl4.out, Hp4.out, rfl, by omega, by have := Hown4.out; rwa [List.length_append, List.length_singleton] at this, Hs4.out, Hg4.out⟩
      case measure => simp [intOf]; omega
    · have hknI : ¬ (k : Int) < (n : Int) := by omega
      have Hog := Lib.hid (show Og eF w.heap.size wr (.slice ao cs.length cap) (dvL cs 0) by rw [dvL_zero]; exact Hown.out.og)
      have hcn : cs.length = n := by have := Hcl.out; omega
      have Hcn := Lib.hid hcn
      clear hcn Hown hkn
      go_wp2_with fail
      go_loopw [29] (fun jv wq => ∃ j : Nat, jv = .int .i64 j ∧ j ≤ cs.length ∧ Og eF w.heap.size wq (.slice ao cs.length cap) (dvL cs j) ∧ SrcAt wq B v at' seed ∧ w.grownBy wq (some B)) (fun jv _ => cs.length - (intOf jv).toNat)
      case atStart => exact ⟨0, rfl, Nat.zero_le _, Hog.out, Hs.out, Hg.out⟩
      case round =>
        clear Hog Hs Hg
        obtain ⟨j, rfl, hj, hog, hs, hg⟩ := hrel
        by_cases hjl : j < cs.length
        · obtain ⟨ao', cap', e0, -, -, hblk, hcs⟩ := id hog
          simp only [Value.slice.injEq] at e0
          obtain ⟨rfl, -, rfl⟩ := e0
          obtain ⟨b, off, rfl, hc, hf⟩ := hcs j (by rw [dvL_len]; exact hjl)
          rw [dvL_get] at hc
          have hgd : cs.getD j 0 ∈ cs := by rw [List.getD_eq_getElem?_getD, List.getElem?_eq_getElem hjl]; exact List.getElem_mem _
          have hb := Hp.out _ hgd
          have hle := prt_le Hp.out _ hgd
          have o1 := run_op (P := Try.prog) (rat_num (c := cs.getD j 0) (t := sumL cs) hb.1 hle (by omega)).1
          have hst := hog.stored j (by rw [dvL_len]; exact hjl) b off cap _ rfl (ratW (cs.getD j 0) (sumL cs))
          rw [← dvL_step] at hst
          have hbk : w.heap.size ≤ b ∧ b < wr.heap.size := hblk ⟨b, off, none⟩ rfl
          have HF := Lib.hid (show Og eF w.heap.size (wr.setCell ⟨b, off + j, none⟩ (eF (ratW (cs.getD j 0) (sumL cs)))) (.slice (some ⟨b, off, none⟩) cs.length cap) (dvL cs (j + 1)) ∧ SrcAt (wr.setCell ⟨b, off + j, none⟩ (eF (ratW (cs.getD j 0) (sumL cs)))) B v at' seed ∧ w.grownBy (wr.setCell ⟨b, off + j, none⟩ (eF (ratW (cs.getD j 0) (sumL cs)))) (some B) from
            ⟨hst.1, ⟨blk_other (p := ⟨b, off + j, none⟩) (by show b ≠ B; omega) hs.1, hs.2⟩, by
              refine ⟨hg.os, hg.tape, hg.output, by simpa using hg.size, fun i hi hB => ?_⟩
              rw [heap_setCell_other wr ⟨b, off + j, none⟩ i _ (fun e => by have : i = b := e; omega)]
              exact hg.block i hi hB⟩)
          have hjI : (j : Int) < (cs.length : Int) := by omega
          clear hog hs hg hst hcs hblk hgd hb hle
          generalize cs.getD j 0 = c at *
          go_wp2_with (first | simp only [o1] | fail)
          go_roundw
          case rel => exact ⟨j + 1, by go_num, by omega, HF.out.1, HF.out.2.1, HF.out.2.2⟩
          case measure => simp [intOf]; omega
        · obtain rfl : j = cs.length := by omega
          rw [dvL_all] at hog
          have HF := Lib.hid (And.intro hog (And.intro hs hg))
          have hjI : ¬ ((cs.length : Nat) : Int) < (cs.length : Int) := by omega
          clear hog hs hg
          go_wp2
          go_ret
          exact ⟨_, cs, at', seed, rfl, HF.out.1, Hcn.out, Hp.out, HF.out.2.1, by have := Hcn.out; have := Hcl.out; omega, HF.out.2.2⟩
end Go.Proofs.Ytiejljlmbpgbiaa
