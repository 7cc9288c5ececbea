/- The exponential function: what both packages' functions return. Conditions: each operation is as it must be (ExOk), or the argument lies below -200. -/
import Derived.Test.YthafmldcfdcngaaLg
import Derived.Test.YthafmldcfdcngaaExP
namespace Go.Proofs.Ythafmldcfdcngaa
open Go.RowKit Ieee
set_option maxRecDepth 100000
set_option linter.unusedVariables false
set_option linter.unusedSimpArgs false

theorem gt_num {k : FloatKind} {x y : Nat} {a b : Rat} (hx : Num k x a) (hy : Num k y b) : (k.format.order x y == some .gt) = decide (b < a) := by
  rw [order_num hx hy]
  by_cases h : b < a
  · rw [cmp_gt.2 h, decide_eq_true h]; rfl
  · rw [decide_eq_false h]
    have : cmpQ a b ≠ .gt := fun e => h (cmp_gt.1 e)
    revert this; cases cmpQ a b <;> simp
theorem lt_num {k : FloatKind} {x y : Nat} {a b : Rat} (hx : Num k x a) (hy : Num k y b) : (k.format.order x y == some .lt) = decide (a < b) := by
  rw [order_num hx hy]
  by_cases h : a < b
  · rw [cmp_lt.2 h, decide_eq_true h]; rfl
  · rw [decide_eq_false h]
    have : cmpQ a b ≠ .lt := fun e => h (cmp_lt.1 e)
    revert this; cases cmpQ a b <;> simp
theorem eq_num {k : FloatKind} {x y : Nat} {a b : Rat} (hx : Num k x a) (hy : Num k y b) : (k.format.order x y == some .eq) = decide (a = b) := by
  rw [order_num hx hy]
  by_cases h : a = b
  · rw [cmp_eq.2 h, decide_eq_true h]; rfl
  · rw [decide_eq_false h]
    have : cmpQ a b ≠ .eq := fun e => h (cmp_eq.1 e)
    revert this; cases cmpQ a b <;> simp
theorem neq_num {k : FloatKind} {x : Nat} {a : Rat} (hx : Num k x a) : (k.format.order x x != some .eq) = false := by
  rw [order_num hx hx, cmp_eq.2 rfl]; rfl
set_option maxHeartbeats 1000000 in
theorem exp_any (x : Nat) (a : Rat) (h : Num .f32 x a) (h1 : a ≤ 200) (h2 : -200 ≤ a) (hok : ExOk x) (w : World) :
    Calls Try.prog 18 #[.float .f32 x] w fun e w' => e = .returned (.float .f32 (EXw x)) ∧ w = w' := by
  have c1 := gt_num h num_p200f
  rw [decide_eq_false (by grind)] at c1
  have c2 := lt_num h num_m200f
  rw [decide_eq_false (by grind)] at c2
  have o1 := cvt_up x _ (up_o h).1
  have o2 := run_op (P := Try.prog) hok.t
  go_enter Try.func18, Try.ntmps18
  go_wp2_with (simp only [o1, o2])
  clear o1 o2 c1 c2
  go_loop [4, 5] (fun p k => ∃ j : Nat, j ≤ 12 ∧ p = .float .f64 (eP (eT x) j) ∧ k = .float .f64 (Ke j)) (fun _ k => fltOf k)
  case atStart => exact ⟨0, by omega, rfl, fl_eq ke_zero.symm⟩
  case round =>
    obtain ⟨j, hj, rfl, rfl⟩ := hrel
    have c3 := ke_ge j hj
    by_cases hlt : j < 12
    · rw [decide_eq_true hlt] at c3
      obtain ⟨g1, g2, g3⟩ := hok.p j hlt
      have o1 := run_op (P := Try.prog) g1
      have o2 : ∀ t w, (binOp .quo t (.float .f64 (eM (eT x) (eP (eT x) j))) (.float .f64 (Ke j))).run Try.prog w = .ok (.float .f64 (eD (eM (eT x) (eP (eT x) j)) j)) w := run_op (P := Try.prog) g2
      have o3 := run_op (P := Try.prog) g3
      have o4 := run_op (P := Try.prog) (ke_next j hlt)
      have hm := ke_lt j hlt
      clear g1 g2 g3
      go_wp2_with (simp only [o1, o2, o3, o4])
      go_round
      case rel => exact ⟨j + 1, by omega, rfl, rfl⟩
      case measure => exact hm
    · rw [decide_eq_false hlt] at c3
      have h12 : j = 12 := by omega
      have hS := hok.s
      have hN := hok.n
      rw [← h12] at hS hN
      have hEX : EXw x = fdn (eS (eP (eT x) j) 8) := by rw [h12]; rfl
      generalize eP (eT x) j = p at *
      clear h12 hlt hj
      go_wp2
      go_loop [4, 27] (fun q i => ∃ m : Nat, m ≤ 8 ∧ q = .float .f64 (eS p m) ∧ i = .int .i64 m) (fun _ i => 8 - (intOf i).toNat)
      case atStart => exact ⟨0, by omega, rfl, rfl⟩
      case round =>
        obtain ⟨m, hm, rfl, rfl⟩ := hrel
        by_cases hlt : m < 8
        · have o1 := run_op (P := Try.prog) (hS m hlt)
          go_wp2_with (simp only [o1])
          go_round
          case rel => exact ⟨m + 1, by omega, rfl, by go_num⟩
          case measure => simp [intOf]; omega
        · have h8 : m = 8 := by omega
          rw [← h8] at hN
          have o2 := cvt_dn _ _ hN
          have hm0 : ¬ m < 8 := hlt
          clear h8
          go_wp2_with (simp only [o2])
          go_ret
          exact ⟨rfl, rfl⟩
set_option maxHeartbeats 1000000 in
theorem exp_low (x : Nat) (a : Rat) (h : Num .f32 x a) (h2 : a < -200) (w : World) :
    Calls Try.prog 18 #[.float .f32 x] w fun e w' => e = .returned (.float .f32 0) ∧ w = w' := by
  have c1 := gt_num h num_p200f
  rw [decide_eq_false (by grind)] at c1
  have c2 := lt_num h num_m200f
  rw [decide_eq_true h2] at c2
  go_enter Try.func18, Try.ntmps18
  go_wp2
  go_ret
  exact ⟨rfl, rfl⟩
set_option maxHeartbeats 1000000 in
theorem l01Exp_any (x : Nat) (a : Rat) (h : Num .f32 x a) (h1 : a ≤ 200) (h2 : -200 ≤ a) (hok : ExOk x) (w : World) :
    Calls Try.prog 41 #[.float .f32 x] w fun e w' => e = .returned (.float .f32 (EXw x)) ∧ w = w' := by
  have hu := (up_o h).2
  have wide : ∀ W, Calls Try.prog 48 #[.float .f64 (fup x)] W fun e w' => e = .returned (.float .f64 (eS (eP (eT x) 12) 8)) ∧ W = w' := by
    intro W
    have c0 := neq_num hu
    have c1 := gt_num hu num_p200d
    rw [decide_eq_false (by grind)] at c1
    have c2 := lt_num hu num_m200d
    rw [decide_eq_false (by grind)] at c2
    have o2 := run_op (P := Try.prog) hok.t
    go_enter Try.func48, Try.ntmps48
    go_wp2_with (simp only [o2])
    clear o2 c0 c1 c2
    go_loop [4, 5] (fun p k => ∃ (j : Nat) (kk : Int), j ≤ 12 ∧ p = .float .f64 (eP (eT x) j) ∧ k = .int .i64 kk ∧ kk = 12 - (j : Int)) (fun _ k => (intOf k).toNat)
    case atStart => exact ⟨0, 12, by omega, rfl, rfl, rfl⟩
    case round =>
      obtain ⟨j, kk, hj, rfl, rfl, hkk⟩ := hrel
      by_cases hlt : j < 12
      · obtain ⟨g1, g2, g3⟩ := hok.p j hlt
        have o1 := run_op (P := Try.prog) g1
        have o2 : ∀ t w, (binOp .quo t (.float .f64 (eM (eT x) (eP (eT x) j))) (.float .f64 (floatOfInt .f64 kk))).run Try.prog w = .ok (.float .f64 (eD (eM (eT x) (eP (eT x) j)) j)) w := by rw [hkk]; exact run_op (P := Try.prog) g2
        have o3 := run_op (P := Try.prog) g3
        have hk1 : 1 ≤ kk := by omega
        have hk2 : kk ≤ 12 := by omega
        have Hk := Lib.hid hkk
        clear g1 g2 g3 hkk
        go_wp2_with (simp only [o1, o2, o3])
        go_round
        case rel => exact ⟨j + 1, kk - 1, by omega, rfl, by go_num, by have := Hk.out; omega⟩
        case measure => simp [intOf]; omega
      · have h12 : j = 12 := by omega
        have hS := hok.s
        rw [← h12] at hS
        have hk0 : kk = 0 := by omega
        subst hk0
        generalize hpp : eP (eT x) j = p at *
        have Hp := Lib.hid hpp
        have H12 := Lib.hid h12
        clear h12 hlt hj hkk hpp
        go_wp2
        go_loop [4, 6] (fun q i => ∃ m : Nat, m ≤ 8 ∧ q = .float .f64 (eS p m) ∧ i = .int .i64 m) (fun _ i => 8 - (intOf i).toNat)
        case atStart => exact ⟨0, by omega, rfl, rfl⟩
        case round =>
          obtain ⟨m, hm, rfl, rfl⟩ := hrel
          by_cases hlt : m < 8
          · have o1 := run_op (P := Try.prog) (hS m hlt)
            go_wp2_with (simp only [o1])
            go_round
            case rel => exact ⟨m + 1, by omega, rfl, by go_num⟩
            case measure => simp [intOf]; omega
          · have h8 : m = 8 := by omega
            have hm0 : ¬ m < 8 := hlt
            have H8 := Lib.hid h8
            clear h8
            go_wp2
            go_ret
            exact ⟨congrArg (fun q => Ending.returned (.float .f64 q)) (show eS p m = _ by rw [← Hp.out, H12.out, H8.out]), rfl⟩
  have o1 := cvt_up x _ (up_o h).1
  go_enter Try.func41, Try.ntmps41
  go_wp2_with (first | simp only [o1] | (go_at_call 48; refine (wide _).mono ?_; rintro e w' ⟨rfl, rfl⟩) | (go_at_call 46; refine (narrow_any _ _ hok.n _).mono ?_; rintro e w' ⟨rfl, rfl⟩))
  go_ret
  exact ⟨rfl, rfl⟩
set_option maxHeartbeats 1000000 in
theorem l01Exp_low (x : Nat) (a : Rat) (h : Num .f32 x a) (h2 : a < -200) (w : World) :
    Calls Try.prog 41 #[.float .f32 x] w fun e w' => e = .returned (.float .f32 0) ∧ w = w' := by
  have hu := (up_o h).2
  have wide : ∀ W, Calls Try.prog 48 #[.float .f64 (fup x)] W fun e w' => e = .returned (.float .f64 0) ∧ W = w' := by
    intro W
    have c0 := neq_num hu
    have c1 := gt_num hu num_p200d
    rw [decide_eq_false (by grind)] at c1
    have c2 := lt_num hu num_m200d
    rw [decide_eq_true (by grind)] at c2
    go_enter Try.func48, Try.ntmps48
    go_wp2
    go_ret
    exact ⟨rfl, rfl⟩
  have o1 := cvt_up x _ (up_o h).1
  have hz : floatToFloatBits .f64 0 .f32 = some 0 := by decide +kernel
  go_enter Try.func41, Try.ntmps41
  go_wp2_with (first | simp only [o1] | (go_at_call 48; refine (wide _).mono ?_; rintro e w' ⟨rfl, rfl⟩) | (go_at_call 46; refine (narrow_any _ _ hz _).mono ?_; rintro e w' ⟨rfl, rfl⟩))
  go_ret
  exact ⟨rfl, rfl⟩
end Go.Proofs.Ythafmldcfdcngaa
