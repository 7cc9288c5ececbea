/- The truth values that the reference draws. Conditions: the slice reads as bytes. -/
import Derived.Test.YthafmldcfdcngaaSrc
import Derived.Test.YthafmldcfdcngaaAppB
namespace Go.Proofs.Ythafmldcfdcngaa
open Go.RowKit
set_option maxRecDepth 100000
set_option linter.unusedVariables false
set_option linter.unusedSimpArgs false

theorem OwnB.kept {B : Nat} {w w' : World} {v : Value} {zs : List Bool} {row : Option Nat} (h : OwnB B w v zs) (hg : w.grownBy w' row) (hr : v.ownBlock = none ∨ v.ownBlock ≠ row) : OwnB B w' v zs := World.ownsRow.kept h hg hr
theorem OwnB.lt {B : Nat} {w : World} {v : Value} {zs : List Bool} (h : OwnB B w v zs) (k : Nat) (hk : v.ownBlock = some k) : B ≤ k ∧ k < w.heap.size := World.ownsRow.lt h k hk
set_option maxHeartbeats 2000000 in
theorem drawBits_any (w0 : World) (v : Value) (bs : List Int) (n : Nat) (w : World) (h : RB w0 v bs) (hs : SrcAt w w0.heap.size v 0 0) (hb : Below w0.heap.size w0 w) (hl : bs.length ≤ 1099511627776) (hn : n ≤ 1000) :
    Calls Try.prog 14 #[.pointer (some ⟨w0.heap.size, 0, none⟩), .int .i64 n] w fun e w' => ∃ v' zs, e = .returned v' ∧ OwnB w0.heap.size w' v' zs ∧ zs.length = n ∧ Below w0.heap.size w0 w' := by
  have H := Lib.hid h
  obtain ⟨ao, cap, rfl⟩ := h.shape
  clear h
  obtain ⟨B, hBe⟩ : ∃ B, w0.heap.size = B := ⟨_, rfl⟩
  have HBe := Lib.hid hBe
  rw [hBe] at hs
  rw [hBe]
  have hB1 : B < w.heap.size := blk_lt hs.1
  have Hs1 := Lib.hid (show SrcAt (w.alloc (.cells #[] 4)) B (.slice ao bs.length cap) 0 0 from ⟨blk_alloc hs.1, hs.2⟩)
  have hbl : Below w0.heap.size w0 (w.alloc (.cells #[] 4)) := bnext hb (by go_grown)
  have hE := ownB_empty w (B + 1) (by omega)
  clear hBe hs hb
  go_enter Try.func14, Try.ntmps14
  go_wp2_with fail
  go_loopw [1, 5] (fun mv ov wr => ∃ (m at' : Nat) (seed : Int) (zs : List Bool), mv = .int .i64 m ∧ m ≤ n ∧ zs.length + m = n ∧ at' + 4 * m ≤ 4 * n ∧ OwnB (B + 1) wr ov zs ∧ SrcAt wr B (.slice ao bs.length cap) at' seed ∧ Below w0.heap.size w0 wr) (fun mv _ _ => (intOf mv).toNat)
  case atStart => exact ⟨n, 0, 0, [], rfl, Nat.le_refl _, by simp, by omega, hE, Hs1.out, hbl⟩
  case round =>
    clear hE hbl Hs1
    obtain ⟨m, at', seed, zs, rfl, hm, hzl, hat, hown, hs, hB⟩ := hrel
    obtain ⟨aoo, capo, rfl⟩ := hown.shape
    have Hzl := Lib.hid hzl
    have hzl2 : zs.length ≤ n := by omega
    have Hown := Lib.hid hown
    have HB := Lib.hid hB
    have Hs := Lib.hid hs
    have hBlt : B < wr.heap.size := blk_lt hs.1
    clear hzl hown hB hs
    by_cases hm0 : 0 < m
    · obtain ⟨m, rfl⟩ : ∃ k, m = k + 1 := ⟨m - 1, by omega⟩
      have hmI : (0 : Int) < ((m + 1 : Nat) : Int) := by omega
      have HO := Lib.hid (one_any B _ bs at' seed 2 wr (H.out.below HB.out) Hs.out (by omega) hl (by omega))
      go_wp2_with fail
      refine HO.out.mono ?_
      rintro e w3 ⟨b, at3, seed3, rfl, hs3, hat3, hg3⟩
      have hB3 := bgrown HB.out hg3 (fun k e => by cases e; exact Nat.le_of_eq HBe.out)
      have hown3 := Hown.out.kept hg3 (ne_blk (fun k hk => (Hown.out.lt k hk).1))
      have hsz3 : B + 1 ≤ w3.heap.size := blk_lt hs3.1
      have Hs3 := Lib.hid hs3
      clear hs3 hg3 HO HB Hown
      have hwB : w0.heap.size ≤ B + 1 := by have := HBe.out; omega
      go_wp2_with (at_builtin; go_must (refine app_bools rfl _ _ rfl (B + 1) w0.heap.size hwB (.slice aoo zs.length capo) zs rfl hown3 hB3 _ _ [b] rfl rfl (by simp; omega) hsz3 ?_))
      intro v4 w4 hown4 hB4 hg4
      have Hs4 := Lib.hid (src_kept Hs3.out hg4 (fun k hk => (hown3.lt k hk).1))
      have Hl4 := Lib.hid (show (zs ++ [b]).length + m = n by rw [List.length_append, List.length_singleton]; have := Hzl.out; omega)
      obtain ⟨ao4, cap4, rfl⟩ := hown4.shape
      have Hown4 := Lib.hid hown4
      clear hown4 hg4 hown3 hB3 Hs3
      generalize zs ++ [b] = zs4 at *
      go_wp2
      go_roundw
      case rel => exact ⟨m, at3, seed3, zs4, by go_num, by omega, Hl4.out, by omega, Hown4.out, Hs4.out, hB4⟩
      case measure => simp [intOf] <;> omega
    · have hm1 : m = 0 := by omega
      subst hm1
      go_wp2
      go_ret
      have hlow : OwnB B wr (.slice aoo zs.length capo) zs := by
        obtain ⟨a, b⟩ := Hown.out
        exact ⟨a, b.imp id fun ⟨g, cap, cur, a, c, d⟩ => ⟨g, cap, cur, a, Nat.le_trans (Nat.le_succ B) c, d⟩⟩
      exact ⟨_, zs, rfl, hlow, by have := Hzl.out; omega, by have := HB.out; rw [HBe.out] at this; exact this⟩
set_option maxHeartbeats 2000000 in
theorem b10Bools_any (v : Value) (bs : List Int) (n : Nat) (w : World) (h : RB w v bs) (hl : bs.length ≤ 1099511627776) (hn : n ≤ 1000) :
    Calls Try.prog 5 #[v, .int .i64 n] w fun e w' => ∃ v' zs, e = .returned v' ∧ OwnB w.heap.size w' v' zs ∧ zs.length = n ∧ Below w.heap.size w w' := by
  have HF := Lib.hid (from_any v bs w h)
  have H := Lib.hid h
  obtain ⟨ao, cap, rfl⟩ := h.shape
  clear h
  go_enter Try.func5, Try.ntmps5
  go_wp2_with fail
  refine HF.out.mono ?_
  rintro e w1 ⟨rfl, hs1, hb1⟩
  have HD := Lib.hid (drawBits_any w _ bs n w1 H.out hs1 hb1 hl hn)
  clear hs1 hb1 HF
  go_wp2_with fail
  refine HD.out.mono ?_
  rintro e w2 ⟨v2, zs, rfl, ho, hzl, hB⟩
  obtain ⟨ao2, cap2, rfl⟩ := ho.shape
  have HO := Lib.hid (And.intro ho (And.intro hzl hB))
  clear ho hzl hB HD
  go_wp2
  go_ret
  exact ⟨_, zs, rfl, HO.out.1, HO.out.2.1, HO.out.2.2⟩
end Go.Proofs.Ythafmldcfdcngaa
