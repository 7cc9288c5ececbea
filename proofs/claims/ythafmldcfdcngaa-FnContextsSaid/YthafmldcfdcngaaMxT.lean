/- The mixed chance in the program. Conditions: few weights that are numbers, chances that come out small, a sum that is not great. -/
import Derived.Test.YthafmldcfdcngaaMxS
namespace Go.Proofs.Ythafmldcfdcngaa
open Go.RowKit
set_option maxRecDepth 100000
set_option linter.unusedVariables false
set_option linter.unusedSimpArgs false

/-- The mixed chance as a word. -/
def mcW (ws ps : List Nat) : Nat := mxW (muW (gD ws) (gD (ps.map stW)) ws.length)
/-- Weights and chances that may be mixed. -/
structure MixOk (ws ps : List Nat) : Prop where
  l : ws.length = ps.length
  l1 : 1 ≤ ps.length
  l4 : ps.length ≤ 4
  w : AllN ws
  p : AllS ps
  ok : MuOk (gD ws) (gD (ps.map stW)) ws.length
  q : ∃ q, Num .f32 (muW (gD ws) (gD (ps.map stW)) ws.length) q ∧ -16 ≤ q ∧ q ≤ 16
theorem MixOk.num {ws ps : List Nat} (h : MixOk ws ps) : ∃ m, Num .f32 (mcW ws ps) m := by
  obtain ⟨q, nq, q1, q2⟩ := h.q
  obtain ⟨-, -, -, r, A, m, -, -, -, -, -, nm, -⟩ := mx_num nq q1 q2
  exact ⟨m, nm⟩
set_option maxHeartbeats 1000000 in
theorem mixChance_any (v u : Value) (ws ps : List Nat) (w : World) (h : Rg eF w v ws) (h' : Rg eF w u ps) (hm : MixOk ws ps) :
    Calls Try.prog 9 #[v, u] w fun e w' => e = .returned (.tuple #[.float .f32 (mcW ws ps), .bool true]) ∧ Below w.heap.size w w' := by
  obtain ⟨q, nq, q1, q2⟩ := hm.q
  obtain ⟨m, nm⟩ := hm.num
  have hs := stretch_any v u ws ps w h h' hm.l hm.l1 hm.l4 hm.w hm.p
  have hmx : ∀ W v', Below w.heap.size w W → OwnF w.heap.size W v' (ps.map stW) → Calls Try.prog 21 #[v, v'] W fun e w' => e = .returned (.float .f32 (mcW ws ps)) ∧ W = w' := fun W v' hB ho =>
    mix_any v v' ws (ps.map stW) W (h.below hB) ho.og.rg (by rw [List.length_map]; exact hm.l) hm.ok q nq q1 q2
  have hfin := fin_num nm
  have has := fun W => asNumber_any (mcW ws ps) W
  have hnb : nbV (mcW ws ps) = mcW ws ps := by unfold nbV; rw [hfin]; rfl
  rw [hfin, hnb] at has
  clear hnb
  clear nq nm h h' hm
  generalize mcW ws ps = m0 at *
  generalize ps.map stW = ss at *
  go_enter Try.func9, Try.ntmps9
  go_wp2_with (first | (go_at_call 20; refine hs.mono ?_; rintro e w1 ⟨v1, rfl, ho, hB⟩) | (go_at_call 21; refine (hmx _ _ hB ho).mono ?_; rintro e w2 ⟨rfl, rfl⟩) | (go_at_call 19; refine (has _).mono ?_; rintro e w3 ⟨rfl, n, rfl⟩))
  go_ret2
  exact ⟨rfl, bnext hB (below_drewN _ _)⟩
end Go.Proofs.Ythafmldcfdcngaa
