/- The contracts of channels and rows in words near chances. Conditions: such a row and channel. -/
import Derived.Test.YtiejljlmbpgbiaaChdP
import Derived.Test.YtiejljlmbpgbiaaSrc
import Derived.Test.YtiejljlmbpgbiaaTb6
import Derived.Test.YtiejljlmbpgbiaaThr
import Derived.Test.YtiejljlmbpgbiaaSidI
namespace Go.Proofs.Ytiejljlmbpgbiaa
open Go.RowKit
set_option maxRecDepth 100000
set_option linter.unusedVariables false
set_option linter.unusedSimpArgs false

set_option maxHeartbeats 400000 in
theorem gap_any (x y : Nat) (a b : Rat) (w : World) (hx : Num .f64 x a) (hy : Num .f64 y b) (h : Ab 200 a b) : Calls Try.prog 14 #[.float .f64 x, .float .f64 y] w fun e w' => e = .returned (.float .f64 (gapW x y)) ∧ w' = w := by
  obtain ⟨h1, h2⟩ := h
  have s1 := (sub_o hx hy (k0 := 8) (by decide) (bd8 (by grind) (by grind))).1
  have s2 := (sub_o hy hx (k0 := 8) (by decide) (bd8 (by grind) (by grind))).1
  have o1 := run_op (P := Try.prog) s1
  have o2 := run_op (P := Try.prog) s2
  have hg : gapW x y = if (FloatKind.f64.format.order x y == some .lt) = true then fsub .f64 y x else fsub .f64 x y := rfl
  cases hl : (FloatKind.f64.format.order x y == some .lt)
  · rw [hl] at hg
    simp only [Bool.false_eq_true, if_false] at hg
    rw [hg]
    clear hx hy h1 h2 s1 s2 hg
    generalize fsub .f64 x y = z at *
    go_enter Try.func14, Try.ntmps14
    go_wp2_with (first | simp only [o1] | simp only [hl] | fail)
    go_ret
    exact ⟨rfl, rfl⟩
  · rw [hl] at hg
    simp only [if_true] at hg
    rw [hg]
    clear hx hy h1 h2 s1 s2 hg
    generalize fsub .f64 y x = z at *
    go_enter Try.func14, Try.ntmps14
    go_wp2_with (first | simp only [o2] | simp only [hl] | fail)
    go_ret
    exact ⟨rfl, rfl⟩
end Go.Proofs.Ytiejljlmbpgbiaa
namespace Go.Proofs.Ytiejljlmbpgbiaa
open Go.RowKit
set_option maxRecDepth 100000
set_option linter.unusedVariables false
set_option linter.unusedSimpArgs false

section
variable {j l n m : Nat} {row xs : List Nat} {X : Nat → Rat} {Y : Nat → Nat → Rat}
theorem told_t (h : Tld j l n m row xs X Y) (v u : Value) (w : World) (hv : Rg eF w v xs) (hu : Rg eF w u row) :
    Calls Try.prog 11 #[.agg #[.int .i64 n, .int .i64 m, v], u] w fun e w' => e = .returned (.tuple #[.float .f32 (tdW row xs n m), .bool true]) ∧ Below w.heap.size w w' :=
  told_yes n m v xs u row w hv hu h.chan h.rowk h.rl h.tab h.one h.rr h.rc h.cb
theorem toldS_t (h : Tld j l n m row xs X Y) (v u : Value) (w : World) (hv : Rg eF w v xs) (hu : Rg eF w u row) :
    Calls Try.prog 20 #[.agg #[.int .i64 n, .int .i64 m, v], u] w fun e w' => e = .returned (.tuple #[.float .f32 (tdW row xs n m), .bool true]) ∧ Below w.heap.size w w' :=
  toldS_yes n m v xs u row w hv hu h.chan h.rowk h.rl h.tab h.one h.cb
theorem Tld.fit (h : Tld j l n m row xs X Y) : toOk n m xs row = true := by
  unfold toOk fitW
  rw [chan_of h.chan, h.rowk, h.rl]
  simp [h.outR]
theorem Tld.toz (h : Tld j l n m row xs X Y) : toZ n m xs row = thL row xs n m m := by unfold toZ; rw [h.fit]; rfl
theorem thrS_t (h : Tld j l n m row xs X Y) (v u : Value) (w : World) (hv : Rg eF w v xs) (hu : Rg eF w u row) :
    Calls Try.prog 21 #[.agg #[.int .i64 n, .int .i64 m, v], u] w fun e w' => ∃ v', e = .returned (.tuple #[v', .bool true]) ∧ Og eF w.heap.size w' v' (thL row xs n m m) ∧ Below w.heap.size w w' := by
  have := specThr_any n m v xs u row w hv hu
  rw [h.fit, h.toz] at this
  exact this
theorem thrI_t (h : Tld j l n m row xs X Y) (v u : Value) (w : World) (hv : Rg eF w v xs) (hu : Rg eF w u row) :
    Calls Try.prog 9 #[.agg #[.int .i64 n, .int .i64 m, v], u] w fun e w' => ∃ v', e = .returned (.tuple #[v', .bool true]) ∧ Og eF w.heap.size w' v' (thL row xs n m m) ∧ Below w.heap.size w w' := by
  have := implThr_any n m v xs u row w hv hu
  rw [h.fit, h.toz] at this
  exact this
end
theorem co_t {n m k : Nat} {xa xb : List Nat} (ha : ChanOk n m xa) (hb : ChanOk m k xb) (hc : ChanOk n k (chL xa xb m k n)) (v u : Value) (w : World) (hv : Rg eF w v xa) (hu : Rg eF w u xb) :
    Calls Try.prog 19 #[.agg #[.int .i64 n, .int .i64 m, v], .agg #[.int .i64 m, .int .i64 k, u]] w fun e w' => ∃ v', e = .returned (.tuple #[.agg #[.int .i64 n, .int .i64 k, v'], .bool true]) ∧ Og eF w.heap.size w' v' (chL xa xb m k n) ∧ Below w.heap.size w w' := by
  have := implCo_any n m v xa m k u xb w hv hu
  have ok : coOk n m xa m k xb = true := by
    unfold coOk
    rw [chan_of ha, chan_of hb]
    have := chan_of hc
    simpa using this
  have z : coZ n m xa m k xb = chL xa xb m k n := by unfold coZ; rw [ok]; rfl
  rw [ok, z] at this
  exact this
end Go.Proofs.Ytiejljlmbpgbiaa
