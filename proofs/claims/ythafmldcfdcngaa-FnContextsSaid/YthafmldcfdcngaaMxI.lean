/- The mixture in both packages. Conditions: weights and stretched chances are small numbers. -/
import Derived.Test.YthafmldcfdcngaaMixR
import Derived.Test.YthafmldcfdcngaaEx
import Derived.Test.YthafmldcfdcngaaGbI
import Derived.Deep.QuietTactic
import Derived.BigRegion
import Derived.Handy
namespace Go.Proofs.Ythafmldcfdcngaa
open Go.RowKit
set_option maxRecDepth 100000
set_option linter.unusedVariables false
set_option linter.unusedSimpArgs false

abbrev gD (xs : List Nat) (i : Nat) : Nat := xs.getD i 0
set_option maxHeartbeats 1000000 in
theorem mix_any (v u : Value) (ws ss : List Nat) (w : World) (h : Rg eF w v ws) (h' : Rg eF w u ss) (hl : ws.length = ss.length) (ok : MuOk (gD ws) (gD ss) ws.length)
    (q : Rat) (nq : Num .f32 (muW (gD ws) (gD ss) ws.length) q) (q1 : -16 ≤ q) (q2 : q ≤ 16) :
    Calls Try.prog 21 #[v, u] w fun e w' => e = .returned (.float .f32 (mxW (muW (gD ws) (gD ss) ws.length))) ∧ w = w' := by
  have hlen := h.len
  obtain ⟨ao, cap, rfl, h1, h2, h3⟩ := h
  obtain ⟨ao', cap', rfl, h1', h2', h3'⟩ := h'
  obtain ⟨eok, a1, a2, -⟩ := mx_num nq q1 q2
  have hexp := exp_any _ _ (neg_num nq) (by grind) (by grind) eok w
  have hm : mxW (muW (gD ws) (gD ss) ws.length) = fdiv .f32 1065353216 (fadd .f32 1065353216 (EXw (fneg (muW (gD ws) (gD ss) ws.length)))) := rfl
  rw [hm] at a2 ⊢
  clear hm
  have o3 := run_op (P := Try.prog) a1
  have o4 := run_op (P := Try.prog) a2
  clear a1 a2 eok
  obtain ⟨sM, hS⟩ : ∃ s, s = muW (gD ws) (gD ss) ws.length := ⟨_, rfl⟩
  rw [← hS] at o3 o4 hexp ⊢
  have HS := Lib.hid hS
  clear hS nq
  generalize EXw (fneg sM) = E at *
  go_enter Try.func21, Try.ntmps21
  go_wp2
  go_loop [5, 10] (fun s i => ∃ k : Nat, k ≤ ws.length ∧ i = .int .i64 k ∧ s = .float .f32 (muW (gD ws) (gD ss) k)) (fun _ i => ws.length - (intOf i).toNat)
  case atStart => exact ⟨0, Nat.zero_le _, rfl, rfl⟩
  case round =>
    obtain ⟨k, hk, rfl, rfl⟩ := hrel
    by_cases hlt : k < ws.length
    · have hlt' : k < ss.length := by omega
      obtain ⟨b, off, rfl, hc⟩ := h3 k hlt
      obtain ⟨b', off', rfl, hc'⟩ := h3' k hlt'
      have e1 : gD ws k = ws[k] := by simp [gD, hlt]
      have e2 : gD ss k = ss[k] := by simp [gD, hlt']
      have o1 := run_op (P := Try.prog) (ok.m k hlt)
      have o2 := run_op (P := Try.prog) (ok.a k hlt)
      rw [e1, e2] at o1 o2
      clear h3 h3' ok
      generalize ws[k] = x at *
      generalize ss[k] = y at *
      go_wp2_with (first | simp only [o1] | simp only [o2])
      go_round
      case rel => exact ⟨k + 1, by omega, by go_num, rfl⟩
      case measure => simp [intOf]; omega
    · have es : muW (gD ws) (gD ss) k = sM := by rw [show k = ws.length by omega]; exact HS.out.symm
      rw [es]
      clear ok h3 h3' es HS
      go_wp2_with (first | simp only [run_neg] | simp only [o3] | simp only [o4] | (go_at_call 18; refine hexp.mono ?_; rintro e w' ⟨rfl, rfl⟩))
      go_ret
      exact ⟨rfl, rfl⟩
set_option maxHeartbeats 1000000 in
theorem l05Mix_any (v u : Value) (ws ss : List Nat) (w : World) (h : Rg eF w v ws) (h' : Rg eF w u ss) (hl : ws.length = ss.length) (ok : MuOk (gD ws) (gD ss) ws.length)
    (q : Rat) (nq : Num .f32 (muW (gD ws) (gD ss) ws.length) q) (q1 : -16 ≤ q) (q2 : q ≤ 16) :
    Calls Try.prog 25 #[v, u] w fun e w' => e = .returned (.float .f32 (mxW (muW (gD ws) (gD ss) ws.length))) ∧ ∃ n, w' = w.drewN n := by
  have hlen := h.len
  obtain ⟨ao, cap, rfl, h1, h2, h3⟩ := h
  obtain ⟨ao', cap', rfl, h1', h2', h3'⟩ := h'
  obtain ⟨eok, a1, a2, -⟩ := mx_num nq q1 q2
  have hexp := fun W => l01Exp_any _ _ (neg_num nq) (by grind) (by grind) eok W
  have hm : mxW (muW (gD ws) (gD ss) ws.length) = fdiv .f32 1065353216 (fadd .f32 1065353216 (EXw (fneg (muW (gD ws) (gD ss) ws.length)))) := rfl
  rw [hm] at a2 ⊢
  clear hm
  have o3 := run_op (P := Try.prog) a1
  have o4 := run_op (P := Try.prog) a2
  clear a1 a2 eok
  obtain ⟨sM, hS⟩ : ∃ s, s = muW (gD ws) (gD ss) ws.length := ⟨_, rfl⟩
  rw [← hS] at o3 o4 hexp ⊢
  have HS := Lib.hid hS
  clear hS nq
  generalize EXw (fneg sM) = E at *
  go_enter Try.func25, Try.ntmps25
  go_wp2
  go_loopw [5, 9] (fun s i wr => ∃ k : Nat, k ≤ ws.length ∧ i = .int .i64 k ∧ s = .float .f32 (muW (gD ws) (gD ss) k) ∧ ∃ n, wr = w.drewN n) (fun _ i _ => ws.length - (intOf i).toNat)
  case atStart => exact ⟨0, Nat.zero_le _, rfl, rfl, 0, rfl⟩
  case round =>
    obtain ⟨k, hk, rfl, rfl, n, rfl⟩ := hrel
    have hN : ∀ n', ∃ q', (w.drewN n).drewN n' = w.drewN q' := fun n' => ⟨n + n', by simp⟩
    have HN := Lib.hid hN
    clear hN
    have cw : ∀ p, (w.drewN n).cell? p = w.cell? p := fun _ => rfl
    by_cases hlt : k < ws.length
    · have hlt' : k < ss.length := by omega
      obtain ⟨b, off, rfl, hc⟩ := h3 k hlt
      obtain ⟨b', off', rfl, hc'⟩ := h3' k hlt'
      have e1 : gD ws k = ws[k] := by simp [gD, hlt]
      have e2 : gD ss k = ss[k] := by simp [gD, hlt']
      have o1 := run_op (P := Try.prog) (ok.m k hlt)
      have o2 := run_op (P := Try.prog) (ok.a k hlt)
      rw [e1, e2] at o1 o2
      rw [← cw] at hc hc'
      clear cw
      generalize w.drewN n = W at *
      clear h3 h3' ok
      generalize ws[k] = x at *
      generalize ss[k] = y at *
      go_wp2
      go_quiet (fail)
      go_wp2
      go_round
      case rel => exact ⟨k + 1, by omega, by go_num, rfl, HN.out _⟩
      case measure => simp [intOf]; omega
    · have es : muW (gD ws) (gD ss) k = sM := by rw [show k = ws.length by omega]; exact HS.out.symm
      rw [es]
      clear ok h3 h3' es HS cw
      go_wp2_with (first | simp only [run_neg] | simp only [o3] | simp only [o4] | (go_at_call 41; refine (hexp _).mono ?_; rintro e w' ⟨rfl, rfl⟩))
      go_ret
      exact ⟨rfl, _, rfl⟩
end Go.Proofs.Ythafmldcfdcngaa
