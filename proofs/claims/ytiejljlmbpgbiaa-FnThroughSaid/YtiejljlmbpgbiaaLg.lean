/- The logarithm: what both packages' functions return. Conditions: the argument is finite and positive. -/
import Derived.Test.YtiejljlmbpgbiaaBase
import Derived.Test.YtiejljlmbpgbiaaLgP
import Derived.WalkLawsBesides
namespace Go.Proofs.Ytiejljlmbpgbiaa
open Go.RowKit Ieee
set_option maxRecDepth 100000
set_option linter.unusedVariables false
set_option linter.unusedSimpArgs false

def fltOf : Value → Nat
  | .float _ b => b
  | _ => 0
theorem fl_eq {k : FloatKind} {a b : Nat} (h : a = b) : Value.float k a = Value.float k b := by rw [h]
theorem run_op {P : Program} {op : BinOp} {k : FloatKind} {x y r : Nat} (h : floatBits op k x y = some r) : ∀ t w, (binOp op t (.float k x) (.float k y)).run P w = .ok (.float k r) w := fun t w => run_float_arith w op t k x y r h
theorem run_neg {P : Program} (k : FloatKind) (b : Nat) (w : World) : (Op.unary .neg (.float k b)).run P w = .ok (.float k (Op.negFloat k b)) w := rfl
theorem ge_pos {b c : Nat} (hb : PosW b) (hc : PosW c) : (FloatKind.f64.format.order b c == some .gt || FloatKind.f64.format.order b c == some .eq) = decide (c ≤ b) := by
  rw [show FloatKind.f64.format.order b c = some (compare b c) from order_pos hb hc]
  rcases Nat.lt_trichotomy b c with h | rfl | h
  · rw [Nat.compare_eq_lt.2 h, decide_eq_false (by omega)]; rfl
  · rw [Nat.compare_eq_eq.2 rfl, decide_eq_true (Nat.le_refl _)]; rfl
  · rw [Nat.compare_eq_gt.2 h, decide_eq_true (by omega)]; rfl
theorem lt_pos {b c : Nat} (hb : PosW b) (hc : PosW c) : (FloatKind.f64.format.order b c == some .lt) = decide (b < c) := by
  rw [show FloatKind.f64.format.order b c = some (compare b c) from order_pos hb hc]
  rcases Nat.lt_trichotomy b c with h | rfl | h
  · rw [Nat.compare_eq_lt.2 h, decide_eq_true h]; rfl
  · rw [Nat.compare_eq_eq.2 rfl, decide_eq_false (by omega)]; rfl
  · rw [Nat.compare_eq_gt.2 h, decide_eq_false (by omega)]; rfl

theorem quo_two {b : Nat} (h : PosW b) (hi : 9007199254740992 ≤ b) : ∃ c : Nat, floatBits .quo .f64 b 4611686018427387904 = some c ∧ (c : Int) = b - 4503599627370496 := ⟨_, div_two h hi, by omega⟩
theorem twice {b : Nat} (h : PosW b) (hi : b + 4503599627370496 ≤ 9218868437227405312) : ∃ c : Nat, floatBits .mul .f64 b 4611686018427387904 = some c ∧ (c : Int) = b + 4503599627370496 := ⟨_, mul_two h hi, by omega⟩

def kLeft : Value → Nat
  | .float _ b => if b < 9223372036854775808 then b else 0
  | _ => 0
theorem kLeft_lt (j : Nat) (h : j < 13) : kLeft (.float .f64 (Kf (j + 1))) < kLeft (.float .f64 (Kf j)) := by
  have key : ∀ n : Fin 13, kLeft (.float .f64 (Kf (n.val + 1))) < kLeft (.float .f64 (Kf n.val)) := by decide +kernel
  exact key ⟨j, h⟩

set_option maxHeartbeats 1000000 in
theorem natLog_any (z : Nat) (hz : PosW z) (he : (lE z).natAbs ≤ 150) (w : World) :
    Calls Try.prog 85 #[.float .f64 z] w fun e w' => e = .returned (.float .f64 (LG z)) ∧ w = w' := by
  have hq := lr_eq z
  obtain ⟨hr1, hr2⟩ := lr_bd z
  have p15 : PosW 4609434218613702656 := by unfold PosW; omega
  have p75 : PosW 4604930618986332160 := by unfold PosW; omega
  obtain ⟨z1, z2⟩ := hz
  go_enter Try.func85, Try.ntmps85
  go_wp2
  go_loop [0, 3] (fun x e => ∃ m n : Nat, x = .float .f64 m ∧ e = .float .f64 (Fi n) ∧ (m : Int) = z - n * 4503599627370496 ∧ (n : Int) ≤ max (lE z) 0) (fun x _ => fltOf x)
  case atStart => exact ⟨z, 0, rfl, fl_eq (by rw [show ((0 : Nat) : Int) = 0 from rfl, fi_zero]), by omega, by omega⟩
  case round =>
    obtain ⟨m, n, rfl, rfl, hm, hn⟩ := hrel
    have hx : PosW m := by unfold PosW; omega
    by_cases ht : 4609434218613702656 ≤ m
    · have c1 := ge_pos hx p15
      rw [decide_eq_true ht] at c1
      obtain ⟨m', hm', hv⟩ := quo_two hx (by omega)
      have o1 := run_op (P := Try.prog) hm'
      have o2 := run_op (P := Try.prog) (fi_inc n (by omega))
      go_wp2_with (simp only [o1, o2])
      go_round
      case rel => exact ⟨m', n + 1, rfl, fl_eq (congrArg Fi (by omega)), by omega, by omega⟩
      case measure => simp [fltOf]; omega
    · have c1 := ge_pos hx p15
      rw [decide_eq_false ht] at c1
      go_wp2
      go_loop [0, 3] (fun x e => ∃ m : Nat, ∃ i : Int, x = .float .f64 m ∧ e = .float .f64 (Fi i) ∧ (m : Int) = z - i * 4503599627370496 ∧ lE z ≤ i ∧ i ≤ max (lE z) 0 ∧ -150 ≤ i ∧ (0 < i → i = lE z)) (fun x _ => 9223372036854775808 - fltOf x)
      case atStart => exact ⟨m, n, rfl, rfl, by omega, by omega, by omega, by omega, by omega⟩
      case round =>
        clear hx ht c1 hm hn
        obtain ⟨m, i, rfl, rfl, h1, h2, h3, h4, h5⟩ := hrel
        have hm : PosW m := by unfold PosW; omega
        by_cases ht' : m < 4604930618986332160
        · have c2 := lt_pos hm p75
          rw [decide_eq_true ht'] at c2
          obtain ⟨i', hi'⟩ : ∃ i' : Nat, i = -(i' : Int) := ⟨i.natAbs, by omega⟩
          subst hi'
          obtain ⟨m', hm', hv⟩ := twice hm (by omega)
          have o1 := run_op (P := Try.prog) hm'
          have o2 := run_op (P := Try.prog) (fi_dec i' (by omega))
          go_wp2_with (simp only [o1, o2])
          go_round
          case rel => exact ⟨m', _, rfl, rfl, by omega, by omega, by omega, by omega, by omega⟩
          case measure => simp [fltOf]; omega
        · have c2 := lt_pos hm p75
          rw [decide_eq_false ht'] at c2
          obtain rfl : i = lE z := by omega
          obtain rfl : m = lR z := by omega
          obtain ⟨X, hX, g1, g2⟩ := lr_num (z := z) (by unfold PosW; omega)
          obtain ⟨X1, X2, S, U, hv⟩ := lg_vals hX g1 g2
          have o1 := run_op (P := Try.prog) hv.h1
          have o2 := run_op (P := Try.prog) hv.h2
          have o3 := run_op (P := Try.prog) hv.h3
          have o4 := run_op (P := Try.prog) hv.h4
          have Hv := Lib.hid hv
          clear hv hX g1 g2 h1 h2 h3 h4 h5 hm ht' hr1 hr2 hq z1 z2
          go_wp2_with (simp only [o1, o2, o3, o4])
          clear o1 o2 o3 o4
          go_loop [6, 7] (fun q k => ∃ j : Nat, j ≤ 13 ∧ q = .float .f64 (lQ (lu (lR z)) j) ∧ k = .float .f64 (Kf j)) (fun _ k => kLeft k)
          case atStart => exact ⟨0, by omega, rfl, fl_eq kf_zero.symm⟩
          case round =>
            obtain ⟨j, hj, rfl, rfl⟩ := hrel
            have c3 := kf_ge j hj
            obtain ⟨q, hq, hqb⟩ := lq_num Hv.out.n4 Hv.out.b4 j hj
            by_cases hlt : j < 13
            · rw [decide_eq_true hlt] at c3
              obtain ⟨e1, e2, e3, -⟩ := lq_step Hv.out.n4 Hv.out.b4 j hlt hq hqb
              have o1 := run_op (P := Try.prog) e1
              have o2 := run_op (P := Try.prog) e2
              have o3 := run_op (P := Try.prog) e3
              have o4 := run_op (P := Try.prog) (kf_next j hlt)
              clear hq hqb e1 e2 e3
              go_wp2_with (simp only [o1, o2, o3, o4])
              go_round
              case rel => exact ⟨j + 1, by omega, rfl, rfl⟩
              case measure => exact kLeft_lt j hlt
            · rw [decide_eq_false hlt] at c3
              obtain rfl : j = 13 := by omega
              obtain ⟨e1, e2, e3, e4, -⟩ := lg_end Hv.out hq hqb (lE z) (by omega)
              have o1 := run_op (P := Try.prog) e1
              have o2 := run_op (P := Try.prog) e2
              have o3 := run_op (P := Try.prog) e3
              have o4 := run_op (P := Try.prog) e4
              clear hq hqb e1 e2 e3 e4
              go_wp2_with (simp only [o1, o2, o3, o4])
              go_ret
              exact ⟨rfl, rfl⟩
theorem num_ord_zero {z : Nat} (hz : PosW z) : (FloatKind.f64.format.order z z != some .eq) = false ∧ (FloatKind.f64.format.order z 0 == some .lt) = false ∧ (FloatKind.f64.format.order z 0 == some .eq) = false ∧ (FloatKind.f64.format.order z 9218868437227405311 == some .gt) = false := by
  have h0 := pos_val hz
  have hp : (0 : Rat) < ((2 ^ 52 + z % 2 ^ 52 : Nat) : Rat) * two (-1074 + ((z / 2 ^ 52 - 1 : Nat) : Int)) := Rat.mul_pos (Rat.natCast_pos.2 (by omega)) (two_pos _)
  have o1 : FloatKind.f64.format.order z z = some (cmpQ _ _) := order_num h0 h0
  have o2 : FloatKind.f64.format.order z 0 = some (cmpQ _ _) := order_num h0 (num_zero .f64)
  have o3 : FloatKind.f64.format.order z 9218868437227405311 = some (compare z 9218868437227405311) := order_pos hz (by unfold PosW; omega)
  rw [o1, o2, o3, cmp_eq.2 rfl, cmp_gt.2 hp]
  refine ⟨rfl, rfl, rfl, ?_⟩
  have : compare z 9218868437227405311 ≠ .gt := by
    intro h
    have := Nat.compare_eq_gt.1 h
    have := hz.2
    omega
  revert this
  cases compare z 9218868437227405311 <;> simp
set_option maxHeartbeats 400000 in
theorem isInf_pos (z : Nat) (hz : PosW z) (w : World) : Calls Try.prog 89 #[.float .f64 z, .int .i64 1] w fun e w' => e = .returned (.bool false) ∧ w = w' := by
  obtain ⟨-, -, -, c⟩ := num_ord_zero hz
  go_enter Try.func89, Try.ntmps89
  go_wp2
  go_ret
  exact ⟨rfl, rfl⟩
set_option maxHeartbeats 1000000 in
theorem logWide_any (z : Nat) (hz : PosW z) (he : (lE z).natAbs ≤ 150) (w : World) :
    Calls Try.prog 87 #[.float .f64 z] w fun e w' => e = .returned (.float .f64 (LG z)) ∧ w = w' := by
  have hq := lr_eq z
  obtain ⟨hr1, hr2⟩ := lr_bd z
  have p15 : PosW 4609434218613702656 := by unfold PosW; omega
  have p75 : PosW 4604930618986332160 := by unfold PosW; omega
  obtain ⟨d1, d2, d3, -⟩ := num_ord_zero hz
  have hz' := hz
  obtain ⟨z1, z2⟩ := hz
  go_enter Try.func87, Try.ntmps87
  go_wp2_with (go_at_call 89; refine (isInf_pos _ hz' _).mono ?_; rintro e w' ⟨rfl, rfl⟩)
  clear d1 d2 d3 hz'
  go_loop [0, 3] (fun x e => ∃ m n : Nat, x = .float .f64 m ∧ e = .int .i64 n ∧ (m : Int) = z - n * 4503599627370496 ∧ (n : Int) ≤ max (lE z) 0) (fun x _ => fltOf x)
  case atStart => exact ⟨z, 0, rfl, rfl, by omega, by omega⟩
  case round =>
    obtain ⟨m, n, rfl, rfl, hm, hn⟩ := hrel
    have hx : PosW m := by unfold PosW; omega
    by_cases ht : 4609434218613702656 ≤ m
    · have c1 := ge_pos hx p15
      rw [decide_eq_true ht] at c1
      obtain ⟨m', hm', hv⟩ := quo_two hx (by omega)
      have o1 := run_op (P := Try.prog) hm'
      go_wp2_with (simp only [o1])
      go_round
      case rel => exact ⟨m', n + 1, rfl, by go_num, by omega, by omega⟩
      case measure => simp [fltOf]; omega
    · have c1 := ge_pos hx p15
      rw [decide_eq_false ht] at c1
      go_wp2
      go_loop [0, 3] (fun x e => ∃ m : Nat, ∃ i : Int, x = .float .f64 m ∧ e = .int .i64 i ∧ (m : Int) = z - i * 4503599627370496 ∧ lE z ≤ i ∧ i ≤ max (lE z) 0 ∧ -150 ≤ i ∧ (0 < i → i = lE z)) (fun x _ => 9223372036854775808 - fltOf x)
      case atStart => exact ⟨m, n, rfl, rfl, by omega, by omega, by omega, by omega, by omega⟩
      case round =>
        clear hx ht c1 hm hn
        obtain ⟨m, i, rfl, rfl, h1, h2, h3, h4, h5⟩ := hrel
        have hm : PosW m := by unfold PosW; omega
        by_cases ht' : m < 4604930618986332160
        · have c2 := lt_pos hm p75
          rw [decide_eq_true ht'] at c2
          obtain ⟨m', hm', hv⟩ := twice hm (by omega)
          have o1 := run_op (P := Try.prog) hm'
          go_wp2_with (simp only [o1])
          go_round
          case rel => exact ⟨m', i - 1, rfl, by go_num, by omega, by omega, by omega, by omega, by omega⟩
          case measure => simp [fltOf]; omega
        · have c2 := lt_pos hm p75
          rw [decide_eq_false ht'] at c2
          have hi : i = lE z := by omega
          have hi1 : -150 ≤ i ∧ i ≤ 150 := by omega
          have Hi := Lib.hid hi
          obtain rfl : m = lR z := by omega
          obtain ⟨X, hX, g1, g2⟩ := lr_num (z := z) (by unfold PosW; omega)
          obtain ⟨X1, X2, S, U, hv⟩ := lg_vals hX g1 g2
          have o1 := run_op (P := Try.prog) hv.h1
          have o2 := run_op (P := Try.prog) hv.h2
          have o3 := run_op (P := Try.prog) hv.h3
          have o4 := run_op (P := Try.prog) hv.h4
          have Hv := Lib.hid hv
          clear hv hX g1 g2 h1 h2 h3 h4 h5 hm ht' hr1 hr2 hq z1 z2 hi he p15 p75
          go_wp2_with (simp only [o1, o2, o3, o4])
          clear o1 o2 o3 o4
          go_loop [6, 7] (fun q k => ∃ (j : Nat) (kk : Int), j ≤ 13 ∧ q = .float .f64 (lQ (lu (lR z)) j) ∧ k = .int .i64 kk ∧ kk = 25 - 2 * (j : Int)) (fun _ k => (intOf k + 1).toNat)
          case atStart => exact ⟨0, 25, by omega, rfl, rfl, rfl⟩
          case round =>
            obtain ⟨j, kk, hj, rfl, rfl, hkk⟩ := hrel
            obtain ⟨q, hq, hqb⟩ := lq_num Hv.out.n4 Hv.out.b4 j hj
            by_cases hlt : j < 13
            · obtain ⟨e1, e2, e3, -⟩ := lq_step Hv.out.n4 Hv.out.b4 j hlt hq hqb
              have o1 := run_op (P := Try.prog) e1
              have o2 : ∀ t w, (binOp .quo t (.float .f64 4607182418800017408) (.float .f64 (floatOfInt .f64 kk))).run Try.prog w = .ok (.float .f64 (Kc j)) w := by rw [hkk]; exact run_op (P := Try.prog) e2
              have o3 := run_op (P := Try.prog) e3
              have hk1 : 1 ≤ kk := by omega
              have hk2 : kk ≤ 25 := by omega
              have Hk := Lib.hid hkk
              clear hq hqb e1 e2 e3 hkk
              go_wp2_with (simp only [o1, o2, o3])
              go_round
              case rel => exact ⟨j + 1, kk - 2, by omega, rfl, by go_num, by have := Hk.out; omega⟩
              case measure => simp [intOf]; omega
            · have h13 : j = 13 := by omega
              obtain ⟨e1, e2, e3, e4, -⟩ := lg_end Hv.out (h13 ▸ hq) hqb i (by omega)
              rw [← h13] at e1
              have hk1 : kk = -1 := by omega
              subst hk1
              clear h13 hkk
              have o1 := run_op (P := Try.prog) e1
              have o2 := run_op (P := Try.prog) e2
              have o3 : ∀ t w, (binOp .mul t (.float .f64 (floatOfInt .f64 i)) (.float .f64 4604418534313441775)).run Try.prog w = .ok (.float .f64 (lm3 i)) w := run_op (P := Try.prog) e3
              have o4 := run_op (P := Try.prog) e4
              clear hq hqb e1 e2 e3 e4
              go_wp2_with (simp only [o1, o2, o3, o4])
              go_ret
              exact ⟨by rw [LG, ← Hi.out]; rfl, rfl⟩
theorem cvt_up (x z : Nat) (h : floatToFloatBits .f32 x .f64 = some z) : ∀ w, (convert 36 41 (.float .f32 x)).run Try.prog w = .ok (.float .f64 z) w :=
  fun w => run_convert_float_float w _ _ .f32 .f64 x z (by rw [Try.underlying36]; rfl) Try.underlying41 h
theorem cvt_dn (x z : Nat) (h : floatToFloatBits .f64 x .f32 = some z) : ∀ w, (convert 41 36 (.float .f64 x)).run Try.prog w = .ok (.float .f32 z) w :=
  fun w => run_convert_float_float w _ _ .f64 .f32 x z (by rw [Try.underlying41]; rfl) Try.underlying36 h
/-- Whether a word is finite. -/
def finW (x : Nat) : Bool := match FloatKind.f32.format.read x with | .number .. => true | _ => false
theorem fin_num {x : Nat} {a : Rat} (h : Num .f32 x a) : finW x = true := by
  obtain ⟨s, m, e, h, -⟩ := h
  unfold finW; rw [h]
theorem num_fin {x : Nat} (h : finW x = true) : ∃ a, Num .f32 x a := by
  unfold finW at h
  rcases hd : FloatKind.f32.format.read x with ⟨s, m, e⟩ | s | ⟨s, f⟩ <;> rw [hd] at h
  · exact ⟨_, s, m, e, hd, rfl⟩
  · cases h
  · cases h
theorem sub_self {x : Nat} {a : Rat} (h : Num .f32 x a) : ∃ z, floatBits .sub .f32 x x = some z ∧ (FloatKind.f32.format.order z 0 == some .eq) = true := by
  have hz : a - a = 0 := by grind
  obtain ⟨z, r, h1, h2, h3⟩ := sub_num h h (k0 := 0) (by decide) (by rw [hz]; constructor <;> decide +kernel)
  rw [hz] at h3
  rw [h3.exact (Rep.zero _)] at h2
  exact ⟨z, h1, by rw [order_num h2 (num_zero .f32), cmp_eq.2 rfl]; rfl⟩
set_option maxHeartbeats 400000 in
theorem isFin_any (x : Nat) (w : World) : Calls Try.prog 72 #[.float .f32 x] w fun e w' => e = .returned (.bool (finW x)) ∧ ∃ n, w' = w.drewN n := by
  rcases kinds .f32 x with ⟨a, h⟩ | hn
  · obtain ⟨z, h1, h2⟩ := sub_self h
    have o1 := run_op (P := Try.prog) h1
    rw [fin_num h]
    go_enter Try.func72, Try.ntmps72
    go_wp2_with (simp only [o1])
    go_ret
    exact ⟨rfl, 0, rfl⟩
  · have hno : floatBits .sub .f32 x x = none := by
      rcases hn with ⟨s, h⟩ | h
      · exact sub_self_inf h
      · exact sub_self_nan h
    have hf : finW x = false := by
      unfold finW
      rcases hn with ⟨s, h⟩ | ⟨s, f, h⟩ <;> rw [h]
    obtain ⟨b, hb, o1⟩ := run_float_none (P := Try.prog) w .sub 36 .f32 x x (.inr (.inl rfl)) hno
    have c1 : (FloatKind.f32.format.order b 0 == some .eq) = false := by rw [order_nan_l hb]; rfl
    rw [hf]
    go_enter Try.func72, Try.ntmps72
    go_wp2_with (simp only [o1])
    go_ret
    exact ⟨rfl, 1, rfl⟩
set_option maxHeartbeats 400000 in
theorem l01Finite_any (x : Nat) (w : World) : Calls Try.prog 60 #[.float .f32 x] w fun e w' => e = .returned (.bool (finW x)) ∧ ∃ n, w' = w.drewN n := by
  rcases kinds .f32 x with ⟨a, h⟩ | hn
  · obtain ⟨z, h1, h2⟩ := sub_self h
    have o1 := run_op (P := Try.prog) h1
    rw [fin_num h]
    go_enter Try.func60, Try.ntmps60
    go_wp2_with (simp only [o1])
    go_ret
    exact ⟨rfl, 0, rfl⟩
  · have hno : floatBits .sub .f32 x x = none := by
      rcases hn with ⟨s, h⟩ | h
      · exact sub_self_inf h
      · exact sub_self_nan h
    have hf : finW x = false := by
      unfold finW
      rcases hn with ⟨s, h⟩ | ⟨s, f, h⟩ <;> rw [h]
    obtain ⟨b, hb, o1⟩ := run_float_none (P := Try.prog) w .sub 36 .f32 x x (.inr (.inl rfl)) hno
    have c1 : (FloatKind.f32.format.order b 0 == some .eq) = false := by rw [order_nan_l hb]; rfl
    rw [hf]
    go_enter Try.func60, Try.ntmps60
    go_wp2_with (simp only [o1])
    go_ret
    exact ⟨rfl, 1, rfl⟩
theorem pos_tests {x : Nat} {a : Rat} (h : Num .f32 x a) (h0 : 0 < a) : (FloatKind.f32.format.order x 0 == some .eq) = false ∧ (FloatKind.f32.format.order x 0 == some .lt) = false ∧ (FloatKind.f32.format.order x x != some .eq) = false := by
  have o2 : FloatKind.f32.format.order x 0 = some (cmpQ _ _) := order_num h (num_zero .f32)
  have o1 : FloatKind.f32.format.order x x = some (cmpQ _ _) := order_num h h
  rw [o1, o2, cmp_gt.2 h0, cmp_eq.2 rfl]
  exact ⟨rfl, rfl, rfl⟩
set_option maxHeartbeats 1000000 in
theorem log_any (x : Nat) (a : Rat) (h : Num .f32 x a) (h0 : 0 < a) (w : World) :
    Calls Try.prog 71 #[.float .f32 x] w fun e w' => e = .returned (.float .f32 (LOG x)) ∧ ∃ n, w' = w.drewN n := by
  obtain ⟨c1, c2, c3⟩ := pos_tests h h0
  obtain ⟨hp, he⟩ := up_pos h h0
  have o1 := cvt_up x _ (up_o h).1
  have o2 := cvt_dn _ _ (log_num h h0).1
  have hf := fin_num h
  go_enter Try.func71, Try.ntmps71
  go_wp2_with (first | simp only [o1, o2] | (go_at_call 85; refine (natLog_any _ hp he _).mono ?_; rintro e w' ⟨rfl, rfl⟩) | (go_at_call 72; refine (isFin_any _ _).mono ?_; rw [hf]; rintro e w' ⟨rfl, n, rfl⟩))
  go_ret
  exact ⟨rfl, _, rfl⟩
set_option maxHeartbeats 400000 in
theorem narrow_any (x z : Nat) (h : floatToFloatBits .f64 x .f32 = some z) (w : World) :
    Calls Try.prog 86 #[.float .f64 x] w fun e w' => e = .returned (.float .f32 z) ∧ w = w' := by
  have o2 := cvt_dn _ _ h
  go_enter Try.func86, Try.ntmps86
  go_wp2_with (simp only [o2])
  go_ret
  exact ⟨rfl, rfl⟩
set_option maxHeartbeats 1000000 in
theorem l01Log_any (x : Nat) (a : Rat) (h : Num .f32 x a) (h0 : 0 < a) (w : World) :
    Calls Try.prog 78 #[.float .f32 x] w fun e w' => e = .returned (.float .f32 (LOG x)) ∧ w = w' := by
  obtain ⟨hp, he⟩ := up_pos h h0
  have o1 := cvt_up x _ (up_o h).1
  go_enter Try.func78, Try.ntmps78
  go_wp2_with (first | simp only [o1] | (go_at_call 87; refine (logWide_any _ hp he _).mono ?_; rintro e w' ⟨rfl, rfl⟩) | (go_at_call 86; refine (narrow_any _ _ (log_num h h0).1 _).mono ?_; rintro e w' ⟨rfl, rfl⟩))
  go_ret
  exact ⟨rfl, rfl⟩
/-- What is handed on if it is finite. -/
def nbV (x : Nat) : Nat := if finW x then x else 0
set_option maxHeartbeats 400000 in
theorem number_any (x : Nat) (w : World) :
    Calls Try.prog 36 #[.float .f32 x] w fun e w' => e = .returned (.tuple #[.float .f32 (nbV x), .bool (finW x)]) ∧ ∃ n, w' = w.drewN n := by
  unfold nbV
  cases hf : finW x
  all_goals
    go_enter Try.func36, Try.ntmps36
    go_wp2_with (go_at_call 60; refine (l01Finite_any _ _).mono ?_; rw [hf]; rintro e w' ⟨rfl, n, rfl⟩)
    go_ret2
    exact ⟨rfl, _, rfl⟩
set_option maxHeartbeats 400000 in
theorem asNumber_any (x : Nat) (w : World) :
    Calls Try.prog 56 #[.float .f32 x] w fun e w' => e = .returned (.tuple #[.float .f32 (nbV x), .bool (finW x)]) ∧ ∃ n, w' = w.drewN n := by
  unfold nbV
  cases hf : finW x
  all_goals
    go_enter Try.func56, Try.ntmps56
    go_wp2_with (go_at_call 72; refine (isFin_any _ _).mono ?_; rw [hf]; rintro e w' ⟨rfl, n, rfl⟩)
    go_ret2
    exact ⟨rfl, _, rfl⟩
end Go.Proofs.Ytiejljlmbpgbiaa
