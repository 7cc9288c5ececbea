/- JoinShares: what both packages return. No conditions but that the slices read. -/
import Derived.Test.YtejabnjhnbminaaLag
namespace Go.Proofs.Ytejabnjhnbminaa
open Go.RowKit
set_option maxRecDepth 100000
set_option linter.unusedVariables false
set_option linter.unusedSimpArgs false

theorem mul_mod_mod (a b p : Int) : a * (b % p) % p = a * b % p := by rw [Int.mul_emod, Int.emod_emod_of_dvd _ (Int.dvd_refl p), ← Int.mul_emod]
def Apart (ps : List Int) : Prop := ∀ i j (hi : i < ps.length) (hj : j < ps.length), i ≠ j → ps[i] ≠ ps[j]
theorem Apart.prod {p : Int} {ps : List Int} (h : Apart ps) (hp : prm p = true) (hps : ∀ z ∈ ps, 0 ≤ z ∧ z < p) (i : Nat) (hi : i < ps.length) : 0 < prodF p ps[i] i 0 ps 1 := by
  have hb := prm_bd hp
  exact prodF_pos hp (hps _ (List.getElem_mem hi)) i 0 ps hps (fun j hj e => h i j hi hj (by omega)) (by omega) (by omega)
theorem Apart.of {ps : List Int} (h : dstF ps ps.length 0 = true) : Apart ps := fun i j hi hj hne => by
  rcases Nat.lt_or_ge i j with hlt | hge
  · exact dstF_at h j (Nat.zero_le _) (by omega) i hlt hj
  · exact fun e => dstF_at h i (Nat.zero_le _) (by omega) j (by omega) hi e.symm
theorem Apart.take {ps : List Int} (h : Apart ps) (n : Nat) : Apart (ps.take n) := fun i j hi hj hne => by
  rw [List.length_take] at hi hj
  rw [List.getElem_take, List.getElem_take]; exact h i j (by omega) (by omega) hne
set_option maxHeartbeats 4000000 in
theorem l06Pass_any (p x : Int) (hp : prm p = true) (hx0 : 0 ≤ x) (hx1 : x < p) (vp vs : Value) (ps ss : List Int) (hl : ps.length = ss.length) (hps : ∀ z ∈ ps, 0 ≤ z ∧ z < p) (hss : ∀ z ∈ ss, 0 ≤ z ∧ z < p) (hd : Apart ps) (w : World) (h : RI w vp ps) (h' : RI w vs ss) :
    Calls Try.prog 77 #[.int .i64 p, vp, vs, .int .i64 x] w fun e w' => e = .returned (.int .i64 (thr p ps ss x)) ∧ ∃ n, w' = w.drewN n := by
  obtain ⟨hp1, hp2⟩ := prm_bd hp
  have hlen := h.len
  obtain ⟨_, aop, capp, rfl, hp3, hp4, hcp⟩ := h
  obtain ⟨_, aos, caps, rfl, hs3, hs4, hcs⟩ := h'
  have Hps := Lib.hid hps
  have Hl := Lib.hid hl
  have Hss := Lib.hid hss
  have Hd := Lib.hid hd
  clear hps hss hd hl
  go_enter Try.func77, Try.ntmps77
  go_wp2_with fail
  go_loopw [9, 10] (fun o iv wr => ∃ (i : Nat) (out : Int), iv = .int .i64 i ∧ i ≤ ps.length ∧ o = .int .i64 out ∧ 0 ≤ out ∧ out < p ∧ thF p ps ss x (ps.length - i) i out = thr p ps ss x ∧ ∃ n, wr = w.drewN n) (fun _ iv _ => ps.length - (intOf iv).toNat)
  case atStart => exact ⟨0, 0, rfl, Nat.zero_le _, rfl, by omega, by omega, rfl, 0, rfl⟩
  case round =>
    obtain ⟨i, out, rfl, hi, rfl, ho0, ho1, hq, n, rfl⟩ := hrel
    by_cases hil : i < ps.length
    · rw [show ps.length - i = (ps.length - (i + 1)) + 1 by omega, thF] at hq
      have hsl0 : i < ss.length := by have := Hl.out; omega
      obtain ⟨bp, offp, rfl, hci⟩ := hcp i hil
      obtain ⟨bs, offs, rfl, hsi⟩ := hcs i (by have := Hl.out; omega)
      have hpi := Hps.out ps[i] (List.getElem_mem _)
      have hsi' := Hss.out ss[i] (List.getElem_mem _)
      have hcp' : ∀ k (hk : k < ps.length), w.cell? ⟨bp, offp + k, none⟩ = some (.int .i64 ps[k]) := fun k hk => by
        obtain ⟨b, off, e, hc⟩ := hcp k hk
        simp only [Option.some.injEq, Addr.mk.injEq, and_true] at e
        obtain ⟨rfl, rfl⟩ := e
        exact hc
      have Hcp := Lib.hid hcp'
      have Hdn := Lib.hid (Hd.out.prod hp Hps.out i hil)
      rw [gI_eq hil, gI_eq (show i < ss.length by have := Hl.out; omega)] at hq
      generalize ps[i] = pi at *
      generalize ss[i] = si at *
      have Hq := Lib.hid hq
      clear hq hcs hcp hcp'
      have hsl : i < ss.length := by have := Hl.out; omega
      go_wp2_with fail
      go_loopw [11, 12, 13] (fun u d kv wr => ∃ (k : Nat) (up dn : Int), kv = .int .i64 k ∧ k ≤ ps.length ∧ u = .int .i64 up ∧ d = .int .i64 dn ∧ 0 ≤ up ∧ up < p ∧ 0 ≤ dn ∧ dn < p ∧ prodF p x i k (ps.drop k) up = prodF p x i 0 ps si ∧ prodF p pi i k (ps.drop k) dn = prodF p pi i 0 ps 1 ∧ ∃ n, wr = w.drewN n) (fun _ _ kv _ => ps.length - (intOf kv).toNat)
      case atStart => exact ⟨0, si, 1, rfl, Nat.zero_le _, rfl, rfl, hsi'.1, hsi'.2, by omega, by omega, by rw [List.drop_zero], by rw [List.drop_zero], n, rfl⟩
      case round =>
        obtain ⟨k, up, dn, rfl, hk, rfl, rfl, hu0, hu1, hd0, hd1, hqu, hqd, n2, rfl⟩ := hrel
        by_cases hkl : k < ps.length
        · rw [List.drop_eq_getElem_cons hkl, prodF] at hqu hqd
          have hck := Hcp.out k hkl
          have hpk := Hps.out ps[k] (List.getElem_mem _)
          generalize ps[k] = pk at *
          by_cases hki : k = i
          · subst hki
            rw [if_pos rfl] at hqu hqd
            have Hqu := Lib.hid hqu
            have Hqd := Lib.hid hqd
            clear hqu hqd
            have hne : ((k : Int) != (k : Int)) = false := by simp
            go_wp2
            go_roundw
            case rel => exact ⟨k + 1, up, dn, by go_num, by omega, rfl, rfl, hu0, hu1, hd0, hd1, Hqu.out, Hqd.out, n2, rfl⟩
            case measure => simp [intOf] <;> omega
          · rw [if_neg hki, ← mul_mod_mod] at hqu hqd
            have hne : ((k : Int) != (i : Int)) = true := by rw [bne_iff_ne]; omega
            have v1 := Int.emod_nonneg (x - pk + p) (show p ≠ 0 by omega)
            have v2 := Int.emod_lt_of_pos (x - pk + p) (show 0 < p by omega)
            have v3 := Int.emod_nonneg (pi - pk + p) (show p ≠ 0 by omega)
            have v4 := Int.emod_lt_of_pos (pi - pk + p) (show 0 < p by omega)
            have t3 : (pi - pk + p).tmod p = (pi - pk + p) % p := Int.tmod_eq_emod_of_nonneg (by omega)
            have e1 : IntKind.i64.wrap (pi - pk) = pi - pk := IntWalk.i64_in _ (by omega)
            have e2 : IntKind.i64.wrap (pi - pk + p) = pi - pk + p := IntWalk.i64_in _ (by omega)
            obtain ⟨a, ha⟩ : ∃ a, (x - pk + p) % p = a := ⟨_, rfl⟩
            obtain ⟨b, hb⟩ : ∃ b, (pi - pk + p) % p = b := ⟨_, rfl⟩
            rw [ha] at v1 v2 hqu
            rw [hb] at v3 v4 t3 hqd
            have m1 : 0 ≤ up * a := Int.mul_nonneg hu0 (by omega)
            have m2 : up * a ≤ 257 * 257 := Int.mul_le_mul (by omega) (by omega) (by omega) (by decide)
            have m3 : 0 ≤ dn * b := Int.mul_nonneg hd0 (by omega)
            have m4 : dn * b ≤ 257 * 257 := Int.mul_le_mul (by omega) (by omega) (by omega) (by decide)
            have q1 := Int.emod_nonneg (up * a) (show p ≠ 0 by omega)
            have q2 := Int.emod_lt_of_pos (up * a) (show 0 < p by omega)
            have q3 := Int.emod_nonneg (dn * b) (show p ≠ 0 by omega)
            have q4 := Int.emod_lt_of_pos (dn * b) (show 0 < p by omega)
            have t4 : (dn * b).tmod p = dn * b % p := Int.tmod_eq_emod_of_nonneg (by omega)
            have e4 : IntKind.i64.wrap (dn * b) = dn * b := IntWalk.i64_in _ (by omega)
            have e5 : IntKind.i64.wrap (dn * b % p) = dn * b % p := IntWalk.i64_in _ (by omega)
            have e6 : IntKind.i64.wrap b = b := IntWalk.i64_in _ (by omega)
            have p0 : (p == 0) = false := by simp; omega
            have Hb := Lib.hid hb
            have Hqu := Lib.hid hqu
            have Hqd := Lib.hid hqd
            have k0 : (0 : Int) ≤ (k : Int) := by omega
            have i0 : (0 : Int) ≤ (i : Int) := by omega
            have kl : (k : Int) < (ps.length : Int) := by omega
            have il : (i : Int) < (ps.length : Int) := by omega
            have pne : p ≠ 0 := by omega
            clear hqu hqd hb
            go_wp2_with fail
            go_quiet (fail)
            clear t3 t4 e1 e2 e4 e5 e6
            go_wp2
            go_roundw
            case rel => exact ⟨k + 1, _, _, by go_num, by omega, rfl, rfl, q1, q2, q3, q4, Hqu.out, Hqd.out, _, rfl⟩
            case measure => simp [intOf] <;> omega
        · rw [List.drop_of_length_le (by omega)] at hqu hqd
          rw [prodF] at hqu hqd
          have hq := Hq.out
          have hdn := Hdn.out
          rw [← hqd] at hdn
          rw [← hqu, ← hqd] at hq
          have Hq2 := Lib.hid hq
          have hiv := invI_bd (n := dn) hp
          clear hq hqu hqd
          go_wp2_with fail
          refine (l06Inverse_any p dn hp hdn hd1 _).mono ?_
          rintro e w2 ⟨rfl, rfl⟩
          generalize invI p dn = v at *
          have m1 : 0 ≤ up * v := Int.mul_nonneg hu0 (by omega)
          have m2 : up * v ≤ 257 * 257 := Int.mul_le_mul (by omega) (by omega) (by omega) (by decide)
          have q1 := Int.emod_nonneg (out + up * v) (show p ≠ 0 by omega)
          have q2 := Int.emod_lt_of_pos (out + up * v) (show 0 < p by omega)
          go_wp2
          go_roundw
          case rel => exact ⟨i + 1, _, by go_num, by omega, rfl, q1, q2, Hq2.out, n2, rfl⟩
          case measure => simp [intOf] <;> omega
    · rw [show ps.length - i = 0 by omega, thF] at hq
      have Hq := Lib.hid hq
      clear hq
      go_wp2
      go_ret
      exact ⟨ret_i64 Hq.out, n, rfl⟩
end Go.Proofs.Ytejabnjhnbminaa
