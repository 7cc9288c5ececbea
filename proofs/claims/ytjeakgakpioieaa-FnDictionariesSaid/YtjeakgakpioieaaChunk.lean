/- slices.Chunk: what comes in a range over it, where the length is a multiple of the size. Conditions: the slice lies at a place that is known (or is empty). -/
import Derived.RangeFuncNested
import Derived.RangeFuncBound
import Derived.RangeFuncCalls
import Derived.RangeFuncBox
import Derived.RangeFuncLeaves
import Derived.Shelf.Abstract
import Derived.OwnWalkIn
import Derived.TacticsInMore
import Derived.LoopNIn
import Derived.LoopIn
import Derived.Sort.QuietIn
import Derived.Test.YtjeakgakpioieaaMem
namespace Go.Proofs.Ytjeakgakpioieaa
open Go.RowKit Go.Shelf
set_option maxRecDepth 100000
set_option linter.unusedVariables false
set_option linter.unusedSimpArgs false
attribute [local go_sem] Oper.semAt_some

/-- What a round must keep: what lay below a block, and two blocks more. -/
def Kp2 (n₀ B1 B2 : Nat) (W W' : World) : Prop := Below n₀ W W' ∧ W'.heap[B1]? = W.heap[B1]? ∧ W'.heap[B2]? = W.heap[B2]?
theorem Kp2.refl (n₀ B1 B2 : Nat) (W : World) : Kp2 n₀ B1 B2 W W := ⟨Below.refl _ _, rfl, rfl⟩
theorem Kp2.trans {n₀ B1 B2 : Nat} {A B C : World} (h : Kp2 n₀ B1 B2 A B) (h' : Kp2 n₀ B1 B2 B C) : Kp2 n₀ B1 B2 A C := ⟨h.1.trans h'.1, h'.2.1.trans h.2.1, h'.2.2.trans h.2.2⟩
theorem Kp2.put {n₀ B1 B2 : Nat} {w : World} (hn : n₀ ≤ w.heap.size) (h1 : B1 < w.heap.size) (h2 : B2 < w.heap.size) (W : World) (l : Nat) (o o' : Obj) (hl : w.heap.size ≤ l) (h : W.heap[l]? = some o) (hc : o.isCells = false) (hw : o.isWalk = false) : Kp2 n₀ B1 B2 W (W.putObj l o') :=
  ⟨belowK_b hn W l o o' hl h hc hw, World.putObj_heap_other (by omega), World.putObj_heap_other (by omega)⟩
theorem Kp2.cell1 {n₀ B1 B2 : Nat} {W W' : World} (h : Kp2 n₀ B1 B2 W W') : W'.cell? ⟨B1, 0, none⟩ = W.cell? ⟨B1, 0, none⟩ := World.cell?_of_block (a := ⟨B1, 0, none⟩) h.2.1
theorem Kp2.cell2 {n₀ B1 B2 : Nat} {W W' : World} (h : Kp2 n₀ B1 B2 W W') : W'.cell? ⟨B2, 0, none⟩ = W.cell? ⟨B2, 0, none⟩ := World.cell?_of_block (a := ⟨B2, 0, none⟩) h.2.2
/-- The number of a chunk. -/
abbrev Ck (q : Nat) := { k : Nat // k < q }
def ckN {q : Nat} (xs : List (Ck q)) : List Nat := xs.map (·.1)
theorem ckN_snoc {q : Nat} (xs : List (Ck q)) (x : Ck q) : ckN (xs ++ [x]) = ckN xs ++ [x.1] := by simp [ckN]
theorem ckN_len {q : Nat} (xs : List (Ck q)) : (ckN xs).length = xs.length := by simp [ckN]
set_option maxHeartbeats 4000000 in
theorem chunk1_in (n : Nat) (hn : 1 ≤ n) (l Bs Bn n₀ : Nat) (ao : Option Addr) (b off len cap c q : Nat) (hc : 1 ≤ c) (hc9 : c ≤ 9) (hq : len = c * q) (hcap : len ≤ cap) (hcm : cap ≤ maxLen) (hao : 0 < q → ao = some ⟨b, off, none⟩) (J Jx : List (Ck q) → World → Prop)
    (hY : ∀ pre x W, J pre W → pre.length < q → YieldAt Fence.wide (n - 1) Try.prog l #[.slice (some ⟨b, off + c * x.1, none⟩) c c] W fun e W' =>
      (e = .returned (.bool true) ∧ J (pre ++ [x]) W' ∧ Kp2 n₀ Bs Bn W W') ∨ (e = .returned (.bool false) ∧ Jx (pre ++ [x]) W'))
    (hJd : ∀ pre W m, J pre W → J pre (W.drewN m))
    (W : World) (hBs : W.cell? ⟨Bs, 0, none⟩ = some (.slice ao len cap)) (hBn : W.cell? ⟨Bn, 0, none⟩ = some (.int .i64 c)) (h0 : J [] W) :
    CallsIn Fence.wide n Try.prog 38 #[.func (.yield l) #[] #[], .pointer (some ⟨Bs, 0, none⟩), .pointer (some ⟨Bn, 0, none⟩)] W fun e W' => (∃ v, e = .returned v) ∧
      ((∃ ys, ckN ys = List.range q ∧ J ys W') ∨ (∃ pre, (∃ k, ckN pre = List.range k) ∧ Jx pre W')) := by
  unfold maxLen at hcm
  refine callsIn_of_wp Try.func38 rfl trivial ?_ rfl
  simp only [Try.ntmps38, List.size_toArray, List.length_cons, List.length_nil, Nat.reduceAdd, Nat.reduceSub, Array.replicate_succ, Array.replicate_zero, List.push_toArray, List.append_toArray, List.nil_append, List.cons_append]
  gi_wp2
  gi_loopw [4] (fun i wr => ∃ (k : Nat) (pre : List (Ck q)), k ≤ q ∧ i = .int .i64 ((c * k : Nat) : Int) ∧ ckN pre = List.range k ∧ J pre wr ∧ Kp2 n₀ Bs Bn W wr)
    (fun i _ => len - (intOf i).toNat)
  case atStart => exact ⟨0, [], Nat.zero_le _, rfl, rfl, h0, Kp2.refl _ _ _ _⟩
  case round =>
    obtain ⟨k, pre, hk, rfl, hpre, hJs, hkp⟩ := hrel
    have Hpre := Lib.hid hpre
    have hbs := hkp.cell1.trans hBs
    have hbn := hkp.cell2.trans hBn
    clear hpre
    by_cases hkq : k < q
    · have hao' := hao (by omega)
      subst hao'
      have h1 : c * (k + 1) ≤ c * q := Nat.mul_le_mul_left c hkq
      rw [Nat.mul_add, Nat.mul_one] at h1
      have Hq := Lib.hid hq
      have Hsn := Lib.hid (show ckN (pre ++ [(⟨k, hkq⟩ : Ck q)]) = List.range (k + 1) by rw [ckN_snoc, Hpre.out, List.range_succ])
      have Hk1 := Lib.hid (show c * (k + 1) = c * k + c by rw [Nat.mul_add, Nat.mul_one])
      have hpl : pre.length < q := by rw [← ckN_len, Hpre.out, List.length_range]; exact hkq
      have hlt : c * k < len := by omega
      have hlt2 : c * k + c ≤ len := by omega
      have hY0 := fun W hJ => hY pre ⟨k, hkq⟩ W hJ hpl
      dsimp only at hY0
      generalize hck : c * k = ck at *
      have hckL : 0 ≤ ck := Nat.zero_le _
      clear hq hck h1
      gi_wp2
      gi_quiet (fail)
      have hJ2 := hJd pre wr nq hJs
      have hkp2 : Kp2 n₀ Bs Bn W (wr.drewN nq) := hkp.trans ⟨⟨rfl, rfl, rfl, Nat.le_refl _, fun _ _ => rfl⟩, rfl, rfl⟩
      have hbs2 : (wr.drewN nq).cell? ⟨Bs, 0, none⟩ = some (.slice (some ⟨b, off, none⟩) len cap) := hbs
      have hbn2 : (wr.drewN nq).cell? ⟨Bn, 0, none⟩ = some (.int .i64 c) := hbn
      obtain ⟨fn, tmps, assign, body, hy, hR⟩ := hY0 _ hJ2
      (try dsimp only at hy)
      clear hY0 hY hJs hkp hbs hbn hJ2
      generalize wr.drewN nq = wz at *
      gi_wp2
      refine hR.mono ?_
      rintro e W3 (⟨rfl, hJ3, hk3⟩ | ⟨rfl, hJx3⟩)
      · have hbn3 := hk3.cell2.trans hbn2
        gi_wp2
        go_roundw
        case rel => exact ⟨k + 1, _, by omega, by first | exact vi (by rw [Hk1.out]; omega) | (rw [Hk1.out]; go_num), Hsn.out, hJ3, hkp2.trans hk3⟩
        case measure => simp [intOf] <;> omega
      · gi_wp2
        refine bodyPost_ret (results_none rfl _ _ _) rfl ?_
        exact ⟨⟨_, rfl⟩, .inr ⟨_, ⟨k + 1, Hsn.out⟩, hJx3⟩⟩
    · have hke : k = q := by omega
      subst hke
      have Hq := Lib.hid hq
      have hge : ¬ c * k < len := by omega
      generalize hck : c * k = ck at *
      clear hq hck
      gi_wp2
      go_end0
      exact ⟨⟨_, rfl⟩, .inl ⟨_, Hpre.out, hJs⟩⟩

set_option maxHeartbeats 1000000 in
theorem chunk_in (n : Nat) (a : Option Addr) (len cap c : Nat) (hc : 1 ≤ c) (w : World) :
    CallsIn Fence.wide n Try.prog 25 #[.slice a len cap, .int .i64 c] w fun e w' => e = .returned (.func (.func 38) #[] #[.pointer (some ⟨w.heap.size, 0, none⟩), .pointer (some ⟨w.heap.size + 1, 0, none⟩)]) ∧ w' = (w.alloc (.cells #[.slice a len cap] 25)).alloc (.cells #[.int .i64 c] 3) := by
  have hc1 : ¬ (c : Int) < 1 := by omega
  have hc2 : ¬ c < 1 := by omega
  refine callsIn_of_wp Try.func25 rfl trivial ?_ rfl
  simp only [Try.ntmps25, List.size_toArray, List.length_cons, List.length_nil, Nat.reduceAdd, Nat.reduceSub, Array.replicate_succ, Array.replicate_zero, List.push_toArray, List.append_toArray, List.nil_append, List.cons_append]
  gi_wp2
  go_ret
  exact ⟨rfl, rfl⟩

theorem chunk_stops (n : Nat) (hn : 1 ≤ n) (Bs Bn n₀ : Nat) (ao : Option Addr) (b off len cap c q : Nat) (hc : 1 ≤ c) (hc9 : c ≤ 9) (hq : len = c * q) (hcap : len ≤ cap) (hcm : cap ≤ maxLen) (hao : 0 < q → ao = some ⟨b, off, none⟩) (w : World) (hs : Bs < w.heap.size) (hnn : Bn < w.heap.size)
    (hBs : w.cell? ⟨Bs, 0, none⟩ = some (.slice ao len cap)) (hBn : w.cell? ⟨Bn, 0, none⟩ = some (.int .i64 c)) :
    SeqStopsK Fence.wide n Try.prog 38 #[.pointer (some ⟨Bs, 0, none⟩), .pointer (some ⟨Bn, 0, none⟩)] (fun x : Ck q => #[.slice (some ⟨b, off + c * x.1, none⟩) c c]) (Kp2 n₀ Bs Bn) (fun ys => ckN ys = List.range q) (fun pre => ∃ k, ckN pre = List.range k) q w := fun l J Jx W hW hJ _ hY h0 => by
  refine chunk1_in n hn l Bs Bn n₀ ao b off len cap c q hc hc9 hq hcap hcm hao J Jx hY (fun pre W m h => hJ pre W _ none h ⟨rfl, rfl, rfl, Nat.le_refl _, fun _ _ _ => rfl⟩ (fun r e => by cases e)) W ((hW.cell (p := ⟨Bs, 0, none⟩) hs).trans hBs) ((hW.cell (p := ⟨Bn, 0, none⟩) hnn).trans hBn) h0
end Go.Proofs.Ytjeakgakpioieaa
