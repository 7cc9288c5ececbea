/- The mixed chance in the reference, and numbers held against each other by their bits. Conditions: few weights that are numbers, chances that come out small; words that are numbers. -/
import Derived.Test.YthafmldcfdcngaaMxW
import Derived.Laws.Externs
namespace Go.Proofs.Ythafmldcfdcngaa
open Go.RowKit
set_option maxRecDepth 100000
set_option linter.unusedVariables false
set_option linter.unusedSimpArgs false

set_option maxHeartbeats 1000000 in
theorem mixChanceS_any (v u : Value) (ws ps : List Nat) (w : World) (h : Rg eF w v ws) (h' : Rg eF w u ps) (hm : MixOk ws ps) :
    Calls Try.prog 11 #[v, u] w fun e w' => e = .returned (.tuple #[.float .f32 (mcW ws ps), .bool true]) ∧ Below w.heap.size w w' := by
  obtain ⟨q, nq, q1, q2⟩ := hm.q
  obtain ⟨m, nm⟩ := hm.num
  have hs := l05Str_any v u ws ps w h h' hm.l hm.l1 hm.l4 hm.w hm.p
  have hmx : ∀ W v', Below w.heap.size w W → OwnF w.heap.size W v' (ps.map stW) → Calls Try.prog 25 #[v, v'] W fun e w' => e = .returned (.float .f32 (mcW ws ps)) ∧ ∃ n, w' = W.drewN n := fun W v' hB ho =>
    l05Mix_any v v' ws (ps.map stW) W (h.below hB) ho.og.rg (by rw [List.length_map]; exact hm.l) hm.ok q nq q1 q2
  have hfin := fin_num nm
  have has := fun W => number_any (mcW ws ps) W
  have hnb : nbV (mcW ws ps) = mcW ws ps := by unfold nbV; rw [hfin]; rfl
  rw [hfin, hnb] at has
  clear hnb
  clear nq nm h h' hm
  generalize mcW ws ps = m0 at *
  generalize ps.map stW = ss at *
  go_enter Try.func11, Try.ntmps11
  go_wp2_with (first | (go_at_call 23; refine hs.mono ?_; rintro e w1 ⟨v1, rfl, ho, hB⟩) | (go_at_call 25; refine (hmx _ _ hB ho).mono ?_; rintro e w2 ⟨rfl, n2, rfl⟩) | (go_at_call 24; refine (has _).mono ?_; rintro e w3 ⟨rfl, n, rfl⟩))
  go_ret2
  exact ⟨rfl, bnext hB (below_drewN _ _)⟩
theorem run_f32bits (x : Nat) (w : World) : (callFunc 49 #[.float .f32 x]).run Try.prog w = .ok (.value (.int .u32 x)) w := by
  rw [run_callFunc_extern (e := Go.Extern.MathFloatBits.float32bits) Try.func49 (by kernel_rfl) (by kernel_rfl) (by kernel_rfl) (by kernel_rfl)]
  rfl
set_option maxHeartbeats 400000 in
theorem l01Bits_num (x : Nat) (a : Rat) (h : Num .f32 x a) (hx : x < 4294967296) (w : World) : Calls Try.prog 42 #[.float .f32 x] w fun e w' => e = .returned (.int .i64 x) ∧ w = w' := by
  have o1 : FloatKind.f32.format.order x x = some (cmpQ a a) := order_num h h
  rw [cmp_eq.2 rfl] at o1
  have c1 : (FloatKind.f32.format.order x x != some .eq) = false := by rw [o1]; rfl
  have hr := run_f32bits x
  have e1 : IntKind.i64.wrap (x : Int) = x := IntWalk.i64_in _ (by omega)
  clear o1
  go_enter Try.func42, Try.ntmps42
  go_wp2_with (first | simp only [c1] | simp only [hr])
  go_ret
  exact ⟨by first | rfl | (rw [e1]), rfl⟩
set_option maxHeartbeats 400000 in
theorem sameNum_same (x : Nat) (a : Rat) (h : Num .f32 x a) (hx : x < 4294967296) (w : World) : Calls Try.prog 12 #[.float .f32 x, .float .f32 x] w fun e w' => e = .returned (.bool true) ∧ ∃ n, w' = w.drewN n := by
  have hb := l01Bits_num x a h hx
  have hs : Calls Try.prog 26 #[.float .f32 x, .float .f32 x] w fun e w' => e = .returned (.bool true) ∧ ∃ n, w' = w.drewN n := by
    go_enter Try.func26, Try.ntmps26
    go_wp2_with (go_at_call 42; refine (hb _).mono ?_; rintro e w' ⟨rfl, rfl⟩)
    go_ret
    exact ⟨by simp, 0, rfl⟩
  go_enter Try.func12, Try.ntmps12
  go_wp2_with (go_at_call 26; refine hs.mono ?_; rintro e w' ⟨rfl, n, rfl⟩)
  go_ret
  exact ⟨rfl, _, rfl⟩
end Go.Proofs.Ythafmldcfdcngaa
