/- Rows that rest: even rows, how far two rows lie apart, rounds. Plain; conditions: what each theorem names. -/
import Derived.Test.YteejcdfmpmcmlaaThr
import Derived.Laws.Entries
namespace Go.Proofs.Yteejcdfmpmcmlaa
open Go.RowKit Ieee
set_option maxRecDepth 100000
set_option linter.unusedVariables false
set_option linter.unusedSimpArgs false

def evW (n : Nat) : Nat := fdiv .f32 1065353216 (I32 n)
def evL (n : Nat) : List Nat := List.replicate n (evW n)
theorem ev_all : ∀ n : Fin 8, floatBits .quo .f32 1065353216 (I32 ((n.val + 1 : Nat) : Int)) = some (evW (n.val + 1)) ∧ isRowW (evL (n.val + 1)) = true := by decide +kernel
theorem ev_op (n : Nat) (h1 : 1 ≤ n) (h8 : n ≤ 8) : floatBits .quo .f32 1065353216 (I32 n) = some (evW n) ∧ isRowW (evL n) = true := by
  have := ev_all ⟨n - 1, by omega⟩
  simp only [show n - 1 + 1 = n by omega] at this
  exact this
theorem evL_len (n : Nat) : (evL n).length = n := by simp [evL]
/-- The greatest difference of the first places. -/
def dfW (next row : List Nat) (k : Nat) : Nat := absW (fsub .f32 (next.getD k 0) (row.getD k 0))
def gtW (x y : Nat) : Bool := FloatKind.f32.format.order x y == some .gt
def chg (next row : List Nat) : Nat → Nat
  | 0 => 0
  | k + 1 => if gtW (dfW next row k) (chg next row k) = true then dfW next row k else chg next row k
theorem df_num {next row : List Nat} {k : Nat} (hn : Ch (next.getD k 0)) (hr : Ch (row.getD k 0)) : floatBits .sub .f32 (next.getD k 0) (row.getD k 0) = some (fsub .f32 (next.getD k 0) (row.getD k 0)) ∧ ∃ d, Num .f32 (dfW next row k) d ∧ 0 ≤ d := by
  obtain ⟨a, ha, a0, a2⟩ := hn
  obtain ⟨b, hb, b0, b2⟩ := hr
  have hbd : Bd 1 (a - b) := by rw [Bd, show two 1 = 2 from rfl]; constructor <;> grind
  obtain ⟨g, r, hr, rr⟩ := sub_o ha hb (k0 := 1) (by decide) hbd
  refine ⟨g, _, abs_num hr, ?_⟩
  split <;> grind
theorem gt_numW {x y : Nat} {a b : Rat} (hx : Num .f32 x a) (hy : Num .f32 y b) : gtW x y = decide (b < a) := by
  unfold gtW; rw [order_num hx hy]
  by_cases h : b < a
  · rw [cmp_gt.2 h, decide_eq_true h]; rfl
  · rw [decide_eq_false h]
    have : cmpQ a b ≠ .gt := fun e => h (cmp_gt.1 e)
    revert this; cases cmpQ a b <;> simp
theorem pos_sign {x : Nat} {a : Rat} (h : Num .f32 x a) (h0 : 0 < a) : (FloatKind.f32.decode x).neg = false := by
  obtain ⟨s, m, e, hr, hv⟩ := h
  have hd : FloatKind.f32.decode x = .number s m e := hr
  rw [hd]
  cases s
  · rfl
  · exfalso
    have p : (0 : Rat) ≤ m * two e := Rat.mul_nonneg Rat.natCast_nonneg (Rat.le_of_lt (two_pos e))
    simp [dv] at hv
    grind
theorem chg_num {next row : List Nat} {n : Nat} (hn : ∀ i, i < n → Ch (next.getD i 0)) (hr : ∀ i, i < n → Ch (row.getD i 0)) (k : Nat) (hk : k ≤ n) : ∃ c, Num .f32 (chg next row k) c ∧ 0 ≤ c ∧ (FloatKind.f32.decode (chg next row k)).neg = false := by
  induction k with
  | zero => exact ⟨0, num_zero .f32, by decide, (show (FloatKind.f32.decode 0).neg = false by decide)⟩
  | succ k ih =>
    obtain ⟨c, hc, c0, hs⟩ := ih (by omega)
    obtain ⟨-, d, hd, d0⟩ := df_num (hn k (by omega)) (hr k (by omega))
    rw [chg, gt_numW hd hc]
    by_cases h : c < d
    · rw [decide_eq_true h, if_pos rfl]; exact ⟨d, hd, d0, pos_sign hd (by grind)⟩
    · rw [decide_eq_false h, if_neg (by simp)]; exact ⟨c, hc, c0, hs⟩
/-- The builtin max gives the same. -/
theorem max_chg {next row : List Nat} {n : Nat} (hn : ∀ i, i < n → Ch (next.getD i 0)) (hr : ∀ i, i < n → Ch (row.getD i 0)) (k : Nat) (hk : k < n) (P : Program) (w : World) (ts : Array TypeId) (t : TypeId) :
    (Builtin.max_ ts t #[.float .f32 (chg next row k), .float .f32 (dfW next row k)]).run P w = .ok (.float .f32 (chg next row (k + 1))) w := by
  obtain ⟨c, hc, c0, hs⟩ := chg_num hn hr k (by omega)
  obtain ⟨-, d, hd, d0⟩ := df_num (hn k hk) (hr k hk)
  have ho := order_num hc hd
  have e : chg next row (k + 1) = if gtW (dfW next row k) (chg next row k) = true then dfW next row k else chg next row k := rfl
  rw [e, gt_numW hd hc]
  rcases (show c < d ∨ d < c ∨ c = d by grind) with h | h | h
  · rw [cmp_lt.2 h] at ho
    rw [decide_eq_true h]; simp [Builtin.max_, Builtin.max2, ho]
  · rw [cmp_gt.2 h] at ho
    rw [decide_eq_false (by grind)]; simp [Builtin.max_, Builtin.max2, ho]
  · rw [cmp_eq.2 h] at ho
    rw [decide_eq_false (by grind)]; simp [Builtin.max_, Builtin.max2, ho, hs]
def leW (x y : Nat) : Bool := FloatKind.f32.format.order x y == some .lt || FloatKind.f32.format.order x y == some .eq
/-- The rounds. -/
def rsGo (xs : List Nat) (n near : Nat) : Nat → Nat → List Nat → Option (List Nat × Nat)
  | 0, _, _ => none
  | f + 1, r, row => if isRowW (thL row xs n n n) = true then (if leW (chg (thL row xs n n n) row n) near = true then some (thL row xs n n n, r + 1) else rsGo xs n near f (r + 1) (thL row xs n n n)) else none
theorem rs_none {xs : List Nat} {n near f r : Nat} {row : List Nat} (h : isRowW (thL row xs n n n) = false) : rsGo xs n near (f + 1) r row = none := by rw [rsGo, h]; rfl
theorem rs_some {xs : List Nat} {n near f r : Nat} {row : List Nat} (h : isRowW (thL row xs n n n) = true) (h' : leW (chg (thL row xs n n n) row n) near = true) : rsGo xs n near (f + 1) r row = some (thL row xs n n n, r + 1) := by rw [rsGo, h, h']; rfl
theorem rs_more {xs : List Nat} {n near f r : Nat} {row : List Nat} (h : isRowW (thL row xs n n n) = true) (h' : leW (chg (thL row xs n n n) row n) near = false) : rsGo xs n near (f + 1) r row = rsGo xs n near f (r + 1) (thL row xs n n n) := by rw [rsGo, h, h']; rfl
theorem rs_row (xs : List Nat) (n near f : Nat) : ∀ (r : Nat) (row out : List Nat) (k : Nat), rsGo xs n near f r row = some (out, k) → isRowW out = true ∧ out.length = n := by
  induction f with
  | zero => intro r row out k h; cases h
  | succ f ih =>
    intro r row out k h
    cases h1 : isRowW (thL row xs n n n)
    · rw [rs_none h1] at h; cases h
    · cases h2 : leW (chg (thL row xs n n n) row n) near
      · rw [rs_more h1 h2] at h; exact ih _ _ _ _ h
      · rw [rs_some h1 h2] at h; cases h; exact ⟨h1, thL_len row xs n n n⟩
/-- What is asked of the arguments. -/
def rsC (n m : Int) (xs : List Nat) (near : Nat) (most : Int) : Bool := chanW n m xs && decide (n = m) && finW near && geZ near && inB most 1 200
def rsR (n m : Int) (xs : List Nat) (near : Nat) (most : Int) : Option (List Nat × Nat) := if rsC n m xs near most = true then rsGo xs n.toNat near most.toNat 0 (evL n.toNat) else none
def rsOk (n m : Int) (xs : List Nat) (near : Nat) (most : Int) : Bool := (rsR n m xs near most).isSome
def rsZ (n m : Int) (xs : List Nat) (near : Nat) (most : Int) : List Nat := match rsR n m xs near most with | some q => q.1 | none => []
def rsN (n m : Int) (xs : List Nat) (near : Nat) (most : Int) : Int := match rsR n m xs near most with | some q => q.2 | none => 0
theorem rs_no {n m : Int} {xs : List Nat} {near : Nat} {most : Int} (h : rsR n m xs near most = none) : rsOk n m xs near most = false ∧ rsZ n m xs near most = [] ∧ rsN n m xs near most = 0 := by
  unfold rsOk rsZ rsN; rw [h]; exact ⟨rfl, rfl, rfl⟩
theorem rs_yes {n m : Int} {xs : List Nat} {near : Nat} {most : Int} {out : List Nat} {k : Nat} (h : rsR n m xs near most = some (out, k)) : rsOk n m xs near most = true ∧ rsZ n m xs near most = out ∧ rsN n m xs near most = k := by
  unfold rsOk rsZ rsN; rw [h]; exact ⟨rfl, rfl, rfl⟩
theorem rsZ_len (n m : Int) (xs : List Nat) (near : Nat) (most : Int) : (rsZ n m xs near most).length ≤ 16777216 := by
  cases h : rsR n m xs near most with
  | none => rw [(rs_no h).2.1]; simp
  | some q =>
    obtain ⟨out, k⟩ := q
    rw [(rs_yes h).2.1]
    unfold rsR at h
    split at h
    · have := (row_len (rs_row _ _ _ _ _ _ _ _ h).1).2; omega
    · cases h
theorem to_row {n : Nat} {xs row : List Nat} (hc : ChanOk n n xs) (hr : isRowW row = true) (hl : row.length = n) : toOk n n xs row = isRowW (thL row xs n n n) ∧ toZ n n xs row = if isRowW (thL row xs n n n) = true then thL row xs n n n else [] := by
  have hf : fitW n n xs row = true := by
    unfold fitW; rw [chan_of hc, hr, decide_eq_true (by omega)]; rfl
  have h1 : toOk n n xs row = isRowW (thL row xs n n n) := by unfold toOk; rw [hf]; rfl
  exact ⟨h1, by unfold toZ; rw [h1]; rfl⟩
end Go.Proofs.Yteejcdfmpmcmlaa
