/- slices.Backward: what comes in a range over it, and what its rounds must keep. Conditions: the slice reads, below a block of which the rounds write nothing but what lies at or beyond. -/
import Derived.RangeFuncNested
import Derived.RangeFuncBound
import Derived.RangeFuncCalls
import Derived.RangeFuncBox
import Derived.RangeFuncLeaves
import Derived.Shelf.Abstract
import Derived.OwnWalkIn
import Derived.TacticsInMore
import Derived.LoopNIn
import Derived.LoopIn
import Derived.Test.YtnhcoggjnbldiaaMem
namespace Go.Proofs.Ytnhcoggjnbldiaa
open Go.RowKit Go.Shelf
set_option maxRecDepth 100000
set_option linter.unusedVariables false
set_option linter.unusedSimpArgs false
attribute [local go_sem] Oper.semAt_some

/-- What a round must keep: what lay below a block, and one block more. -/
def KpB (n₀ Bs : Nat) (W W' : World) : Prop := Below n₀ W W' ∧ W'.heap[Bs]? = W.heap[Bs]?
theorem KpB.refl (n₀ Bs : Nat) (W : World) : KpB n₀ Bs W W := ⟨Below.refl _ _, rfl⟩
theorem KpB.trans {n₀ Bs : Nat} {A B C : World} (h : KpB n₀ Bs A B) (h' : KpB n₀ Bs B C) : KpB n₀ Bs A C := ⟨h.1.trans h'.1, h'.2.trans h.2⟩
theorem KpB.put {n₀ Bs : Nat} {w : World} (hn : n₀ ≤ w.heap.size) (hB : Bs < w.heap.size) (W : World) (l : Nat) (o o' : Obj) (hl : w.heap.size ≤ l) (h : W.heap[l]? = some o) (hc : o.isCells = false) (hw : o.isWalk = false) : KpB n₀ Bs W (W.putObj l o') :=
  ⟨belowK_b hn W l o o' hl h hc hw, World.putObj_heap_other (by omega)⟩
theorem KpB.cell {n₀ Bs : Nat} {W W' : World} (h : KpB n₀ Bs W W') (o : Nat) : W'.cell? ⟨Bs, o, none⟩ = W.cell? ⟨Bs, o, none⟩ := World.cell?_of_block (a := ⟨Bs, o, none⟩) h.2
theorem KpB.low {n₀ Bs : Nat} {W W' : World} (h : KpB n₀ Bs W W') {b : Nat} (hb : b < n₀) (o : Nat) : W'.cell? ⟨b, o, none⟩ = W.cell? ⟨b, o, none⟩ := h.1.cell (p := ⟨b, o, none⟩) hb
/-- An index and an element of which something is known. -/
abbrev El (P : Int → Prop) := { q : Int × Int // P q.2 }
def elV {P : Int → Prop} (xs : List (El P)) : List Int := xs.map fun q => q.1.2
theorem elV_snoc {P : Int → Prop} (xs : List (El P)) (x : El P) : elV (xs ++ [x]) = elV xs ++ [x.1.2] := by simp [elV]
theorem elV_len {P : Int → Prop} (xs : List (El P)) : (elV xs).length = xs.length := by simp [elV]
theorem drop_rev {α : Type} (zs : List α) (k : Nat) (hk : k < zs.length) : (zs.drop (k + 1)).reverse ++ [zs[k]] = (zs.drop k).reverse := by
  rw [List.drop_eq_getElem_cons hk, List.reverse_cons]
theorem rev_take {α : Type} (zs : List α) (k : Nat) : ∃ m, (zs.drop k).reverse = zs.reverse.take m := by
  refine ⟨zs.length - k, ?_⟩
  rw [List.take_reverse]
  by_cases h : k ≤ zs.length
  · rw [show zs.length - (zs.length - k) = k by omega]
  · rw [List.drop_of_length_le (by omega), List.drop_of_length_le (by omega)]
set_option maxHeartbeats 2000000 in
theorem backward1_in (F : Fence) (n : Nat) (hf : F.fn 47) (hro : F.round = none) (hn : 1 ≤ n) (l Bs n₀ : Nat) (ao : Option Addr) (cap : Nat) (P : Int → Prop) (zs : List Int) (hP : ∀ z ∈ zs, P z) (hlen : zs.length ≤ 9223372036854775807) (J Jx : List (El P) → World → Prop)
    (hY : ∀ pre x W, J pre W → pre.length < zs.length → YieldAt F (n - 1) Try.prog l #[.int .i64 x.1.1, .int .i64 x.1.2] W fun e W' =>
      (e = .returned (.bool true) ∧ J (pre ++ [x]) W' ∧ KpB n₀ Bs W W') ∨ (e = .returned (.bool false) ∧ Jx (pre ++ [x]) W'))
    (W : World) (hBs : W.cell? ⟨Bs, 0, none⟩ = some (.slice ao zs.length cap)) (hcap : zs.length ≤ cap)
    (hc : ∀ i (_ : i < zs.length), ∃ b off, ao = some ⟨b, off, none⟩ ∧ b < n₀ ∧ W.cell? ⟨b, off + i, none⟩ = some (.int .i64 zs[i])) (h0 : J [] W) :
    CallsIn F n Try.prog 47 #[.func (.yield l) #[] #[], .pointer (some ⟨Bs, 0, none⟩)] W fun e W' => (∃ v, e = .returned v) ∧
      ((∃ ys, elV ys = zs.reverse ∧ J ys W') ∨ (∃ pre, (∃ k, elV pre = zs.reverse.take k) ∧ Jx pre W')) := by
  refine callsIn_of_wp Try.func47 rfl hf ?_ hro
  simp only [Try.ntmps47, List.size_toArray, List.length_cons, List.length_nil, Nat.reduceAdd, Nat.reduceSub, Array.replicate_succ, Array.replicate_zero, List.push_toArray, List.append_toArray, List.nil_append, List.cons_append]
  gi_wp2
  gi_loopw [3] (fun i wr => ∃ (k : Nat) (pre : List (El P)), k ≤ zs.length ∧ i = .int .i64 ((k : Int) - 1) ∧ elV pre = (zs.drop k).reverse ∧ J pre wr ∧ KpB n₀ Bs W wr)
    (fun i _ => (intOf i + 1).toNat)
  case atStart => exact ⟨zs.length, [], Nat.le_refl _, rfl, by rw [List.drop_length]; rfl, h0, KpB.refl _ _ _⟩
  case round =>
    obtain ⟨k, pre, hk, rfl, hpre, hJs, hkp⟩ := hrel
    have Hpre := Lib.hid hpre
    clear hpre
    cases k with
    | zero =>
      rw [show (((0 : Nat) : Int) - 1) = -1 by omega]
      gi_wp2
      go_end0
      exact ⟨⟨_, rfl⟩, .inl ⟨_, by rw [Hpre.out, List.drop_zero], hJs⟩⟩
    | succ k =>
      rw [show (((k + 1 : Nat) : Int) - 1) = (k : Int) by omega]
      have hkl : k < zs.length := by omega
      obtain ⟨b, off, rfl, hb, hcx⟩ := hc k hkl
      have hcx' := (hkp.low hb (off + k)).trans hcx
      have hbs' := (hkp.cell 0).trans hBs
      have Hsn := Lib.hid (drop_rev zs k hkl)
      have hPk := hP zs[k] (List.getElem_mem hkl)
      have hpl : pre.length < zs.length := by rw [← elV_len, Hpre.out, List.length_reverse, List.length_drop]; omega
      clear hcx hc hP
      generalize zs[k] = z at *
      obtain ⟨fn, tmps, assign, body, hy, hR⟩ := hY pre ⟨((k : Int), z), hPk⟩ wr hJs hpl
      dsimp only at hy
      gi_wp2
      refine hR.mono ?_
      rintro e W3 (⟨rfl, hJ3, hk3⟩ | ⟨rfl, hJx3⟩)
      · gi_wp2
        go_roundw
        case rel => exact ⟨k, _, by omega, by go_num, by rw [elV_snoc, Hpre.out]; exact Hsn.out, hJ3, hkp.trans hk3⟩
        case measure => simp [intOf] <;> omega
      · gi_wp2
        refine bodyPost_ret (results_none rfl _ _ _) rfl ?_
        obtain ⟨m, hm⟩ := rev_take zs k
        exact ⟨⟨_, rfl⟩, .inr ⟨_, ⟨m, by rw [elV_snoc, Hpre.out, ← hm]; exact Hsn.out⟩, hJx3⟩⟩

set_option maxHeartbeats 1000000 in
theorem backward_in (F : Fence) (n : Nat) (hf : F.fn 38) (hro : F.round = none) (a : Option Addr) (len cap : Nat) (w : World) :
    CallsIn F n Try.prog 38 #[.slice a len cap] w fun e w' => e = .returned (.func (.func 47) #[] #[.pointer (some ⟨w.heap.size, 0, none⟩)]) ∧ w' = w.alloc (.cells #[.slice a len cap] 25) := by
  refine callsIn_of_wp Try.func38 rfl hf ?_ hro
  simp only [Try.ntmps38, List.size_toArray, List.length_cons, List.length_nil, Nat.reduceAdd, Nat.reduceSub, Array.replicate_succ, Array.replicate_zero, List.push_toArray, List.append_toArray, List.nil_append, List.cons_append]
  gi_wp2
  go_ret
  exact ⟨rfl, rfl⟩

theorem backward_stops (F : Fence) (n : Nat) (hf : F.fn 47) (hro : F.round = none) (hn : 1 ≤ n) (Bs n₀ : Nat) (ao : Option Addr) (cap : Nat) (P : Int → Prop) (zs : List Int) (hP : ∀ z ∈ zs, P z) (w : World) (hBw : Bs < w.heap.size) (hn₀ : n₀ ≤ w.heap.size)
    (hBs : w.cell? ⟨Bs, 0, none⟩ = some (.slice ao zs.length cap)) (hcap : zs.length ≤ cap) (hlen : zs.length ≤ 9223372036854775807)
    (hc : ∀ i (_ : i < zs.length), ∃ b off, ao = some ⟨b, off, none⟩ ∧ b < n₀ ∧ w.cell? ⟨b, off + i, none⟩ = some (.int .i64 zs[i])) :
    SeqStopsK F n Try.prog 47 #[.pointer (some ⟨Bs, 0, none⟩)] (fun x : El P => #[Value.int .i64 x.1.1, Value.int .i64 x.1.2]) (KpB n₀ Bs) (fun ys => elV ys = zs.reverse) (fun pre => ∃ k, elV pre = zs.reverse.take k) zs.length w := fun l J Jx W hW _ _ hY h0 => by
  refine backward1_in F n hf hro hn l Bs n₀ ao cap P zs hP hlen J Jx hY W ((hW.cell (p := ⟨Bs, 0, none⟩) hBw).trans hBs) hcap (fun i hi => ?_) h0
  obtain ⟨b, off, e, hb, hc1⟩ := hc i hi
  exact ⟨b, off, e, hb, (hW.cell (p := ⟨b, off + i, none⟩) (by show b < _; omega)).trans hc1⟩
end Go.Proofs.Ytnhcoggjnbldiaa
