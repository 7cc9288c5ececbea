/- JoinShares: what both packages return. No conditions but that the slices read. -/
import Derived.Test.YtgkciionmhoofaaLagP
import Derived.Test.YtgkciionmhoofaaPri
namespace Go.Proofs.Ytgkciionmhoofaa
open Go.RowKit
set_option maxRecDepth 100000
set_option linter.unusedVariables false
set_option linter.unusedSimpArgs false

theorem nums_prm {p : Int} {zs : List Int} {lo hi : Int} (h : prm p = true) : nums p zs lo hi = (decide (lo ≤ (zs.length : Int)) && decide ((zs.length : Int) ≤ hi) && allIn zs 0 (p - 1)) := by simp [nums, h]
set_option maxHeartbeats 1000000 in
theorem inverse_any (p n : Int) (hp : prm p = true) (h0 : 0 ≤ n) (h1 : n < p) (w : World) :
    Calls Try.prog 42 #[.int .i64 p, .int .i64 n] w fun e w' => e = .returned (.int .i64 (invI p n)) ∧ w = w' := by
  obtain ⟨hp1, hp2⟩ := prm_bd hp
  obtain ⟨q, rfl⟩ := Int.eq_ofNat_of_zero_le (show 0 ≤ p by omega)
  obtain ⟨m, rfl⟩ := Int.eq_ofNat_of_zero_le h0
  have hq7 : 7 ≤ q := by omega
  have hq257 : q ≤ 257 := by omega
  have hmq : m < q := by omega
  clear hp1 hp2 h0 h1
  go_enter Try.func42, Try.ntmps42
  go_wp2_with fail
  go_loop [5, 8] (fun o i => ∃ k : Nat, k ≤ q - 2 ∧ i = .int .i64 k ∧ o = .int .i64 ((m ^ k % q : Nat) : Int)) (fun _ i => q - 2 - (intOf i).toNat)
  case atStart => exact ⟨0, Nat.zero_le _, rfl, by rw [Nat.pow_zero, Nat.mod_eq_of_lt (by omega)]; rfl⟩
  case round =>
    obtain ⟨k, hk, rfl, rfl⟩ := hrel
    have Hst := Lib.hid (invN_step q m k)
    have hlt := Nat.mod_lt (m ^ k) (show 0 < q by omega)
    have HI := Lib.hid (show k = q - 2 → invI q m = ((m ^ k % q : Nat) : Int) from fun e => by rw [invI, Int.toNat_natCast, Int.toNat_natCast, invN, e])
    generalize m ^ k % q = u at *
    by_cases hc : k < q - 2
    · have hm0 : 0 ≤ (u : Int) * (m : Int) := Int.mul_nonneg (by omega) (by omega)
      have hm1 : (u : Int) * (m : Int) ≤ 257 * 257 := Int.mul_le_mul (by omega) (by omega) (by omega) (by decide)
      go_wp2
      go_round
      case rel => exact ⟨k + 1, by omega, by go_num, by rw [← Hst.out]; simp⟩
      case measure => simp [intOf] <;> omega
    · have HI' := Lib.hid (HI.out (by omega))
      go_wp2
      go_ret
      exact ⟨ret_i64 HI'.out.symm, rfl⟩
theorem inv_least {p n : Int} (hp : prm p = true) (h1 : 1 ≤ n) (h2 : n < p) {y : Int} (hy0 : 0 ≤ y) (hy : y < invI p n) : n * y % p ≠ 1 := by
  have hb := prm_bd hp
  have hi := invI_bd (n := n) hp
  intro h
  have := inv_one (by omega) h (invI_mul hp h1 h2) hy0 (by omega) hi.1 hi.2
  omega
set_option maxHeartbeats 1000000 in
theorem l06Inverse_any (p n : Int) (hp : prm p = true) (h0 : 0 < n) (h1 : n < p) (w : World) :
    Calls Try.prog 45 #[.int .i64 p, .int .i64 n] w fun e w' => e = .returned (.int .i64 (invI p n)) ∧ w = w' := by
  obtain ⟨hp1, hp2⟩ := prm_bd hp
  have hm := Lib.hid (invI_mul hp (show 1 ≤ n by omega) h1)
  have hb := invI_bd (n := n) hp
  have hi1 : 1 ≤ invI p n := by
    have h := hm.out
    rcases Int.lt_or_le 0 (invI p n) with h' | h'
    · omega
    · rw [show invI p n = 0 by omega, Int.mul_zero] at h; simp at h
  have hlst := fun y => inv_least (y := y) hp (show 1 ≤ n by omega) h1
  have Hl := Lib.hid hlst
  clear hlst
  generalize invI p n = v at *
  go_enter Try.func45, Try.ntmps45
  go_wp2_with fail
  go_loop [5] (fun i => ∃ k : Int, 1 ≤ k ∧ k ≤ v ∧ i = .int .i64 k) (fun i => (v - intOf i).toNat)
  case atStart => exact ⟨1, by omega, hi1, rfl⟩
  case round =>
    obtain ⟨k, hk1, hk, rfl⟩ := hrel
    have hm0 : 0 ≤ n * k := Int.mul_nonneg (by omega) (by omega)
    have hm1 : n * k ≤ 257 * 257 := Int.mul_le_mul (by omega) (by omega) (by omega) (by decide)
    by_cases hc : k < v
    · have hne : (n * k % p != 1) = true := by rw [bne_iff_ne]; exact Hl.out k (by omega) hc
      go_wp2
      go_round
      case rel => exact ⟨k + 1, by omega, by omega, by go_num⟩
      case measure => simp [intOf] <;> omega
    · obtain rfl : k = v := by omega
      have hne : (n * k % p != 1) = false := by have := hm.out; simpa using this
      go_wp2
      go_ret
      exact ⟨rfl, rfl⟩
set_option maxHeartbeats 4000000 in
theorem through_any (p x : Int) (hp : prm p = true) (hx0 : 0 ≤ x) (hx1 : x < p) (vp vs : Value) (ps ss : List Int) (hl : ps.length = ss.length) (hps : ∀ z ∈ ps, 0 ≤ z ∧ z < p) (hss : ∀ z ∈ ss, 0 ≤ z ∧ z < p) (w : World) (h : RI w vp ps) (h' : RI w vs ss) :
    Calls Try.prog 25 #[.int .i64 p, vp, vs, .int .i64 x] w fun e w' => e = .returned (.int .i64 (thr p ps ss x)) ∧ w = w' := by
  obtain ⟨hp1, hp2⟩ := prm_bd hp
  have hlen := h.len
  obtain ⟨_, aop, capp, rfl, hp3, hp4, hcp⟩ := h
  obtain ⟨_, aos, caps, rfl, hs3, hs4, hcs⟩ := h'
  have Hps := Lib.hid hps
  have Hl := Lib.hid hl
  have Hss := Lib.hid hss
  clear hps hss hl
  go_enter Try.func25, Try.ntmps25
  go_wp2_with fail
  go_loop [9, 18] (fun o iv => ∃ (i : Nat) (out : Int), iv = .int .i64 i ∧ i ≤ ps.length ∧ o = .int .i64 out ∧ 0 ≤ out ∧ out < p ∧ thF p ps ss x (ps.length - i) i out = thr p ps ss x) (fun _ iv => ps.length - (intOf iv).toNat)
  case atStart => exact ⟨0, 0, rfl, Nat.zero_le _, rfl, by omega, by omega, rfl⟩
  case round =>
    obtain ⟨i, out, rfl, hi, rfl, ho0, ho1, hq⟩ := hrel
    by_cases hil : i < ps.length
    · rw [show ps.length - i = (ps.length - (i + 1)) + 1 by omega, thF] at hq
      have hsl0 : i < ss.length := by have := Hl.out; omega
      obtain ⟨bp, offp, rfl, hci⟩ := hcp i hil
      obtain ⟨bs, offs, rfl, hsi⟩ := hcs i (by have := Hl.out; omega)
      have hpi := Hps.out ps[i] (List.getElem_mem _)
      have hsi' := Hss.out ss[i] (List.getElem_mem _)
      have hcp' : ∀ k (hk : k < ps.length), w.cell? ⟨bp, offp + k, none⟩ = some (.int .i64 ps[k]) := fun k hk => by
        obtain ⟨b, off, e, hc⟩ := hcp k hk
        simp only [Option.some.injEq, Addr.mk.injEq, and_true] at e
        obtain ⟨rfl, rfl⟩ := e
        exact hc
      have Hcp := Lib.hid hcp'
      rw [gI_eq hil, gI_eq (show i < ss.length by have := Hl.out; omega)] at hq
      generalize ps[i] = pi at *
      generalize ss[i] = si at *
      have Hq := Lib.hid hq
      clear hq hcs hcp hcp'
      have hsl : i < ss.length := by have := Hl.out; omega
      go_wp2_with fail
      go_loop [12, 13, 29] (fun u d kv => ∃ (k : Nat) (up dn : Int), kv = .int .i64 k ∧ k ≤ ps.length ∧ u = .int .i64 up ∧ d = .int .i64 dn ∧ 0 ≤ up ∧ up < p ∧ 0 ≤ dn ∧ dn < p ∧ prodF p x i k (ps.drop k) up = prodF p x i 0 ps si ∧ prodF p pi i k (ps.drop k) dn = prodF p pi i 0 ps 1) (fun _ _ kv => ps.length - (intOf kv).toNat)
      case atStart => exact ⟨0, si, 1, rfl, Nat.zero_le _, rfl, rfl, hsi'.1, hsi'.2, by omega, by omega, by rw [List.drop_zero], by rw [List.drop_zero]⟩
      case round =>
        obtain ⟨k, up, dn, rfl, hk, rfl, rfl, hu0, hu1, hd0, hd1, hqu, hqd⟩ := hrel
        by_cases hkl : k < ps.length
        · rw [List.drop_eq_getElem_cons hkl, prodF] at hqu hqd
          have hck := Hcp.out k hkl
          have hpk := Hps.out ps[k] (List.getElem_mem _)
          generalize ps[k] = pk at *
          by_cases hki : k = i
          · subst hki
            rw [if_pos rfl] at hqu hqd
            have Hqu := Lib.hid hqu
            have Hqd := Lib.hid hqd
            clear hqu hqd
            have hne : ((k : Int) != (k : Int)) = false := by simp
            go_wp2
            go_round
            case rel => exact ⟨k + 1, up, dn, by go_num, by omega, rfl, rfl, hu0, hu1, hd0, hd1, Hqu.out, Hqd.out⟩
            case measure => simp [intOf] <;> omega
          · rw [if_neg hki] at hqu hqd
            have Hqu := Lib.hid hqu
            have Hqd := Lib.hid hqd
            clear hqu hqd
            have hne : ((k : Int) != (i : Int)) = true := by rw [bne_iff_ne]; omega
            have m1 : 0 ≤ up * (x - pk + p) := Int.mul_nonneg hu0 (by omega)
            have m2 : up * (x - pk + p) ≤ 257 * 514 := Int.mul_le_mul (by omega) (by omega) (by omega) (by decide)
            have m3 : 0 ≤ dn * (pi - pk + p) := Int.mul_nonneg hd0 (by omega)
            have m4 : dn * (pi - pk + p) ≤ 257 * 514 := Int.mul_le_mul (by omega) (by omega) (by omega) (by decide)
            have q1 := Int.emod_nonneg (up * (x - pk + p)) (show p ≠ 0 by omega)
            have q2 := Int.emod_lt_of_pos (up * (x - pk + p)) (show 0 < p by omega)
            have q3 := Int.emod_nonneg (dn * (pi - pk + p)) (show p ≠ 0 by omega)
            have q4 := Int.emod_lt_of_pos (dn * (pi - pk + p)) (show 0 < p by omega)
            go_wp2
            go_round
            case rel => exact ⟨k + 1, _, _, by go_num, by omega, rfl, rfl, q1, q2, q3, q4, Hqu.out, Hqd.out⟩
            case measure => simp [intOf] <;> omega
        · rw [List.drop_of_length_le (by omega)] at hqu hqd
          rw [prodF] at hqu hqd
          have hq := Hq.out
          rw [← hqu, ← hqd] at hq
          have Hq2 := Lib.hid hq
          have hiv := invI_bd (n := dn) hp
          clear hq hqu hqd
          go_wp2_with fail
          refine (inverse_any p dn hp hd0 hd1 _).mono ?_
          rintro e w2 ⟨rfl, rfl⟩
          generalize invI p dn = v at *
          have m1 : 0 ≤ up * v := Int.mul_nonneg hu0 (by omega)
          have m2 : up * v ≤ 257 * 257 := Int.mul_le_mul (by omega) (by omega) (by omega) (by decide)
          have q1 := Int.emod_nonneg (out + up * v) (show p ≠ 0 by omega)
          have q2 := Int.emod_lt_of_pos (out + up * v) (show 0 < p by omega)
          go_wp2
          go_round
          case rel => exact ⟨i + 1, _, by go_num, by omega, rfl, q1, q2, Hq2.out⟩
          case measure => simp [intOf] <;> omega
    · rw [show ps.length - i = 0 by omega, thF] at hq
      have Hq := Lib.hid hq
      clear hq
      go_wp2
      go_ret
      exact ⟨ret_i64 Hq.out, rfl⟩
end Go.Proofs.Ytgkciionmhoofaa
