/- slices.Max and slices.Index: the greatest of a list and where it stands first. Conditions: the slice reads; for the greatest it is not empty. -/
import Derived.Test.YtnhcoggjnbldiaaShoP
import Derived.Test.YtnhcoggjnbldiaaMem
import Derived.Handy
namespace Go.Proofs.Ytnhcoggjnbldiaa
open Go.RowKit
set_option maxRecDepth 100000
set_option linter.unusedVariables false
set_option linter.unusedSimpArgs false

theorem getD_at {zs : List Int} {i : Nat} (h : i < zs.length) : zs.getD i 0 = zs[i] := by
  rw [List.getD_eq_getElem?_getD, List.getElem?_eq_getElem h]; rfl
/-- The greatest. -/
def mxV (ss : List Int) : Int := ss.getD (mx ss) 0
theorem mxF_first (ss : List Int) (k i b : Nat) (h1 : ∀ j, j < i → ss.getD j 0 ≤ ss.getD b 0) (h2 : ∀ j, j < b → ss.getD j 0 < ss.getD b 0) : ∀ j, j < mxF ss k i b → ss.getD j 0 < ss.getD (mxF ss k i b) 0 := by
  induction k generalizing i b with
  | zero => exact h2
  | succ k ih =>
    rw [mxF]
    by_cases hc : ss.getD b 0 < ss.getD i 0
    · rw [if_pos hc]
      refine ih (i + 1) i (fun j hj => ?_) (fun j hj => ?_)
      · by_cases hji : j = i
        · rw [hji]; exact Int.le_refl _
        · exact Int.le_of_lt (Int.lt_of_le_of_lt (h1 j (by omega)) hc)
      · exact Int.lt_of_le_of_lt (h1 j hj) hc
    · rw [if_neg hc]
      refine ih (i + 1) b (fun j hj => ?_) h2
      by_cases hji : j = i
      · rw [hji]; omega
      · exact h1 j (by omega)
theorem mx_first (ss : List Int) : ∀ j, j < mx ss → ss.getD j 0 < mxV ss := mxF_first ss ss.length 0 0 (fun j hj => by omega) (fun j hj => by omega)
set_option maxHeartbeats 400000 in
theorem indexF_any (v : Value) (zs : List Int) (x : Int) (p : Nat) (w : World) (h : RI w v zs) (hp : p < zs.length) (hx : zs.getD p 0 = x) (hf : ∀ j, j < p → zs.getD j 0 ≠ x) :
    Calls Try.prog 25 #[v, .int .i64 x] w fun e w' => e = .returned (.int .i64 p) ∧ w = w' := by
  have hlen := h.len
  obtain ⟨_, ao, cap, rfl, h1, h2, h3⟩ := h
  have Hx := Lib.hid hx
  have Hf := Lib.hid hf
  clear hx hf
  go_enter Try.func25, Try.ntmps25
  go_wp2
  go_loop [8] (fun i => ∃ k : Nat, k ≤ p ∧ i = .int .i64 k) (fun i => zs.length - (intOf i).toNat)
  case atStart => exact ⟨0, Nat.zero_le _, rfl⟩
  case round =>
    obtain ⟨k, hk, rfl⟩ := hrel
    have hlt : k < zs.length := by omega
    obtain ⟨b, off, rfl, hc⟩ := h3 k hlt
    clear h3
    have hz := getD_at hlt
    by_cases hkp : k = p
    · have hb : (x == zs[k]) = true := by rw [← hz, hkp, Hx.out]; simp
      have Hkp := Lib.hid hkp
      clear hkp hz
      generalize zs[k] = z at hc hb
      go_wp2
      go_ret
      exact ⟨ret_i64 (by rw [Hkp.out]), rfl⟩
    · have hb : (x == zs[k]) = false := by
        have := Hf.out k (by omega)
        rw [hz] at this
        simpa using (Ne.symm this)
      clear hz
      generalize zs[k] = z at hc hb
      go_wp2
      go_round
      case rel => exact ⟨k + 1, by omega, by go_num⟩
      case measure => simp [intOf]; omega
set_option maxHeartbeats 800000 in
theorem max_any (v : Value) (zs : List Int) (w : World) (h : RI w v zs) (h0 : 0 < zs.length) :
    Calls Try.prog 26 #[v] w fun e w' => e = .returned (.int .i64 (mxV zs)) ∧ w = w' := by
  have hlen := h.len
  obtain ⟨_, ao, cap, rfl, h1, h2, h3⟩ := h
  obtain ⟨b0, off, rfl, hc0⟩ := h3 0 h0
  have hcs : ∀ i (_ : i < zs.length), w.cell? ⟨b0, off + i, none⟩ = some (.int .i64 zs[i]) := fun i hi => by
    obtain ⟨b', off', e, hc⟩ := h3 i hi
    simp only [Option.some.injEq, Addr.mk.injEq, and_true] at e
    obtain ⟨rfl, rfl⟩ := e
    exact hc
  have Hcs := Lib.hid hcs
  have hge : ¬ (zs.length : Int) < 1 := by omega
  have Hv := Lib.hid (show mxF zs (zs.length - 1) 1 0 = mx zs by
    rw [mx, show zs.length = (zs.length - 1) + 1 by omega, mxF, Nat.add_sub_cancel]; simp)
  have Hz0 := Lib.hid (getD_at h0)
  clear h3 hcs
  rw [Nat.add_zero] at hc0
  generalize hz0 : zs[0] = z0 at hc0
  have Hz0' := Lib.hid hz0
  clear hz0
  go_enter Try.func26, Try.ntmps26
  go_wp2
  go_loop [3, 4] (fun m i => ∃ (k b : Nat) (x : Int), 1 ≤ k ∧ k ≤ zs.length ∧ i = .int .i64 k ∧ m = .int .i64 x ∧ x = zs.getD b 0 ∧ mxF zs (zs.length - k) k b = mx zs) (fun _ i => zs.length - (intOf i).toNat)
  case atStart => exact ⟨1, 0, z0, Nat.le_refl _, h0, rfl, rfl, by rw [Hz0.out, Hz0'.out], Hv.out⟩
  case round =>
    obtain ⟨k, b, x, hk1, hk, rfl, rfl, hx, hm⟩ := hrel
    have Hx := Lib.hid hx
    have Hm := Lib.hid hm
    clear hx hm
    by_cases hlt : k < zs.length
    · have hc := Hcs.out k hlt
      have Hstep := Lib.hid (show mxF zs (zs.length - (k + 1)) (k + 1) (if x < zs[k] then k else b) = mx zs by
        rw [← Hm.out, show zs.length - k = (zs.length - (k + 1)) + 1 by omega, mxF, ← Hx.out, getD_at hlt])
      have Hzk := Lib.hid (getD_at hlt)
      generalize zs[k] = z at *
      by_cases hxz : x < z
      · have hmx : max x z = z := by omega
        have Hs2 := Lib.hid (show mxF zs (zs.length - (k + 1)) (k + 1) k = mx zs by rw [← Hstep.out, if_pos hxz])
        go_wp2
        go_round
        case rel => exact ⟨k + 1, k, z, by omega, by omega, by go_num, by first | rfl | simp [hmx], Hzk.out.symm, Hs2.out⟩
        case measure => simp [intOf]; omega
      · have hmx : max x z = x := by omega
        have Hs2 := Lib.hid (show mxF zs (zs.length - (k + 1)) (k + 1) b = mx zs by rw [← Hstep.out, if_neg hxz])
        go_wp2
        go_round
        case rel => exact ⟨k + 1, b, x, by omega, by omega, by go_num, by first | rfl | simp [hmx], Hx.out, Hs2.out⟩
        case measure => simp [intOf]; omega
    · have hkl : k = zs.length := by omega
      have hb : mx zs = b := by rw [← Hm.out, hkl, Nat.sub_self]; rfl
      have Hr := Lib.hid (show x = mxV zs by rw [mxV, hb, Hx.out])
      clear hkl hb
      go_wp2
      go_ret
      exact ⟨ret_i64 Hr.out, rfl⟩
end Go.Proofs.Ytnhcoggjnbldiaa
