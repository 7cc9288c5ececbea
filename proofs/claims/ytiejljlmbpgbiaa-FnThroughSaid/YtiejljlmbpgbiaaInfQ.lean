/- What is told, over rationals: it is not below nought, not above either entropy, not more behind a chain, and the sum beside one another. Plain; conditions: what each theorem names. -/
import Derived.Test.YtiejljlmbpgbiaaLnM
namespace Go.Proofs.Ytiejljlmbpgbiaa
set_option maxRecDepth 100000
set_option linter.unusedVariables false
set_option linter.unusedSimpArgs false

/-- The sum of the first n. -/
def Sm (f : Nat → Rat) : Nat → Rat
  | 0 => 0
  | n + 1 => Sm f n + f n
theorem sm_congr {f g : Nat → Rat} {n : Nat} (h : ∀ i, i < n → f i = g i) : Sm f n = Sm g n := by
  induction n with
  | zero => rfl
  | succ n ih => rw [Sm, Sm, ih fun i hi => h i (by omega), h n (by omega)]
theorem sm_le {f g : Nat → Rat} {n : Nat} (h : ∀ i, i < n → f i ≤ g i) : Sm f n ≤ Sm g n := by
  induction n with
  | zero => exact Rat.le_refl
  | succ n ih =>
    have h1 := ih fun i hi => h i (by omega)
    have h2 := h n (by omega)
    rw [Sm, Sm]; grind
theorem sm_add (f g : Nat → Rat) (n : Nat) : Sm (fun i => f i + g i) n = Sm f n + Sm g n := by
  induction n with
  | zero => show (0 : Rat) = 0 + 0; grind
  | succ n ih => rw [Sm, Sm, Sm, ih]; grind
theorem sm_sub (f g : Nat → Rat) (n : Nat) : Sm (fun i => f i - g i) n = Sm f n - Sm g n := by
  induction n with
  | zero => show (0 : Rat) = 0 - 0; grind
  | succ n ih => rw [Sm, Sm, Sm, ih]; grind
theorem sm_mul (c : Rat) (f : Nat → Rat) (n : Nat) : Sm (fun i => c * f i) n = c * Sm f n := by
  induction n with
  | zero => show (0 : Rat) = c * 0; grind
  | succ n ih => rw [Sm, Sm, ih]; grind
theorem sm_mulr (f : Nat → Rat) (c : Rat) (n : Nat) : Sm (fun i => f i * c) n = Sm f n * c := by
  induction n with
  | zero => show (0 : Rat) = 0 * c; grind
  | succ n ih => rw [Sm, Sm, ih]; grind
theorem sm_zero (n : Nat) : Sm (fun _ => 0) n = 0 := by
  induction n with
  | zero => rfl
  | succ n ih => rw [Sm, ih]; grind
theorem sm_const (c : Rat) (n : Nat) : Sm (fun _ => c) n = n * c := by
  induction n with
  | zero => show (0 : Rat) = ((0 : Nat) : Rat) * c; rw [show ((0 : Nat) : Rat) = 0 from rfl]; grind
  | succ n ih => rw [Sm, ih, Rat.natCast_add]; grind
theorem sm_nonneg {f : Nat → Rat} {n : Nat} (h : ∀ i, i < n → 0 ≤ f i) : 0 ≤ Sm f n := by
  have := sm_le (f := fun _ => 0) (g := f) (n := n) h
  rwa [sm_zero] at this
theorem sm_swap (f : Nat → Nat → Rat) (n m : Nat) : Sm (fun i => Sm (f i) m) n = Sm (fun k => Sm (fun i => f i k) n) m := by
  induction n with
  | zero => exact (sm_zero m).symm
  | succ n ih =>
    show Sm (fun i => Sm (f i) m) n + Sm (f n) m = _
    rw [ih, ← sm_add]
    rfl
theorem sm_ge {f : Nat → Rat} {n : Nat} (h : ∀ i, i < n → 0 ≤ f i) {i : Nat} (hi : i < n) : f i ≤ Sm f n := by
  induction n with
  | zero => omega
  | succ n ih =>
    have h0 := h n (by omega)
    rw [Sm]
    by_cases e : i = n
    · subst e
      have := sm_nonneg (f := f) (n := i) fun j hj => h j (by omega)
      grind
    · have := ih (fun j hj => h j (by omega)) (by omega); grind
theorem sm_more (f : Nat → Rat) (n m : Nat) : Sm f (n + m) = Sm f n + Sm (fun k => f (n + k)) m := by
  induction m with
  | zero => show Sm f n = Sm f n + 0; grind
  | succ m ih => show Sm f (n + m) + f (n + m) = _; rw [ih, Sm]; grind
theorem sm_flat (f : Nat → Rat) (n m : Nat) : Sm f (n * m) = Sm (fun i => Sm (fun k => f (i * m + k)) m) n := by
  induction n with
  | zero => rw [Nat.zero_mul]; rfl
  | succ n ih => rw [Nat.add_mul, Nat.one_mul, sm_more, ih, Sm]
/-- Sums of what depends on the quotient and the rest by m alone. -/
theorem sm_two (g : Nat → Nat → Rat) (n m : Nat) : Sm (fun t => g (t / m) (t % m)) (n * m) = Sm (fun i => Sm (g i) m) n := by
  rw [sm_flat]
  refine sm_congr fun i _ => sm_congr fun k hk => ?_
  have h1 : (i * m + k) / m = i := by rw [Nat.mul_comm, Nat.mul_add_div (by omega), Nat.div_eq_of_lt hk, Nat.add_zero]
  have h2 : (i * m + k) % m = k := by rw [Nat.mul_comm, Nat.mul_add_mod, Nat.mod_eq_of_lt hk]
  rw [h1, h2]
theorem sm_prod (f g : Nat → Rat) (n m : Nat) : Sm (fun i => Sm (fun k => f i * g k) m) n = Sm f n * Sm g m := by
  rw [← sm_mulr]
  exact sm_congr fun i _ => sm_mul _ _ _
/-- Two sums, each bounded term by term. -/
theorem sm_le2 {f g : Nat → Nat → Rat} {n m : Nat} (h : ∀ i k, i < n → k < m → f i k ≤ g i k) : Sm (fun i => Sm (f i) m) n ≤ Sm (fun i => Sm (g i) m) n :=
  sm_le fun i hi => sm_le fun k hk => h i k hi hk
theorem sm_congr2 {f g : Nat → Nat → Rat} {n m : Nat} (h : ∀ i k, i < n → k < m → f i k = g i k) : Sm (fun i => Sm (f i) m) n = Sm (fun i => Sm (g i) m) n :=
  sm_congr fun i hi => sm_congr fun k hk => h i k hi hk
theorem sm_add2 (f g : Nat → Nat → Rat) (n m : Nat) : Sm (fun i => Sm (fun k => f i k + g i k) m) n = Sm (fun i => Sm (f i) m) n + Sm (fun i => Sm (g i) m) n := by
  rw [← sm_add]; exact sm_congr fun i _ => sm_add _ _ _
theorem sm_sub2 (f g : Nat → Nat → Rat) (n m : Nat) : Sm (fun i => Sm (fun k => f i k - g i k) m) n = Sm (fun i => Sm (f i) m) n - Sm (fun i => Sm (g i) m) n := by
  rw [← sm_sub]; exact sm_congr fun i _ => sm_sub _ _ _
theorem sm_mul2 (c : Rat) (f : Nat → Nat → Rat) (n m : Nat) : Sm (fun i => Sm (fun k => c * f i k) m) n = c * Sm (fun i => Sm (f i) m) n := by
  rw [← sm_mul]; exact sm_congr fun i _ => sm_mul _ _ _
end Go.Proofs.Ytiejljlmbpgbiaa
namespace Go.Proofs.Ytiejljlmbpgbiaa
set_option maxRecDepth 100000
set_option linter.unusedVariables false
set_option linter.unusedSimpArgs false

/-- Chances, none too small. -/
structure Pr (X : Nat → Rat) (n : Nat) : Prop where
  lo : ∀ i, i < n → two (-8) ≤ X i
  sum : Sm X n = 1
theorem Pr.pos {X : Nat → Rat} {n : Nat} (h : Pr X n) {i : Nat} (hi : i < n) : 0 < X i := by have := h.lo i hi; have := two_pos (-8); grind
theorem Pr.le {X : Nat → Rat} {n : Nat} (h : Pr X n) {i : Nat} (hi : i < n) : X i ≤ 1 := by
  have := sm_ge (f := X) (n := n) (fun j hj => Rat.le_of_lt (h.pos hj)) hi
  rwa [h.sum] at this
theorem Pr.inn {X : Nat → Rat} {n : Nat} (h : Pr X n) {i : Nat} (hi : i < n) : In (X i) := in_of (i := -8) (j := 0) (by decide) (by decide) (h.lo i hi) (h.le hi)
/-- What comes out. -/
def ou (X : Nat → Rat) (Y : Nat → Nat → Rat) (n k : Nat) : Rat := Sm (fun i => X i * Y i k) n
theorem ou_w (X : Nat → Rat) (Y : Nat → Nat → Rat) (L : Nat → Rat) (n m : Nat) : Sm (fun i => Sm (fun k => X i * Y i k * L k) m) n = Sm (fun k => ou X Y n k * L k) m := by
  rw [sm_swap]; exact sm_congr fun k _ => sm_mulr _ _ _
theorem ou_all {X : Nat → Rat} {Y : Nat → Nat → Rat} {n m : Nat} (hX : Pr X n) (hY : ∀ i, i < n → Pr (Y i) m) : Sm (fun i => Sm (fun k => X i * Y i k) m) n = 1 := by
  rw [← hX.sum]
  refine sm_congr fun i hi => ?_
  rw [sm_mul, (hY i hi).sum]; grind
theorem ou_pr {X : Nat → Rat} {Y : Nat → Nat → Rat} {n m : Nat} (hX : Pr X n) (hY : ∀ i, i < n → Pr (Y i) m) : Pr (ou X Y n) m := by
  refine ⟨fun k hk => ?_, ?_⟩
  · have := sm_le (f := fun i => X i * two (-8)) (g := fun i => X i * Y i k) (n := n) fun i hi => Rat.mul_le_mul_of_nonneg_left ((hY i hi).lo k hk) (Rat.le_of_lt (hX.pos hi))
    rw [sm_mulr, hX.sum] at this
    unfold ou; grind
  · rw [← ou_all hX hY, sm_swap]; rfl
/-- What is told. -/
noncomputable def MI (X : Nat → Rat) (Y : Nat → Nat → Rat) (n m : Nat) : Rat := Sm (fun i => Sm (fun k => X i * Y i k * (Lr (Y i k) - Lr (ou X Y n k))) m) n
/-- The entropy. -/
noncomputable def En (X : Nat → Rat) (n : Nat) : Rat := Sm (fun i => X i * (0 - Lr (X i))) n
section
variable {X : Nat → Rat} {Y : Nat → Nat → Rat} {n m : Nat}
theorem mi_low (hX : Pr X n) (hY : ∀ i, i < n → Pr (Y i) m) : -ep4 ≤ MI X Y n m := by
  have hC := ou_pr hX hY
  have := sm_le2 (n := n) (m := m) (f := fun i k => (X i * Y i k - X i * ou X Y n k) - ep4 * (X i * Y i k)) (g := fun i k => X i * Y i k * (Lr (Y i k) - Lr (ou X Y n k))) fun i k hi hk => by
    have h := Rat.mul_le_mul_of_nonneg_left (lt_r (hC.inn hk) ((hY i hi).inn hk)) (Rat.le_of_lt (hX.pos hi))
    generalize Lr (Y i k) = a at *
    generalize Lr (ou X Y n k) = b at *
    grind
  rw [sm_sub2, sm_sub2, sm_mul2, ou_all hX hY, sm_prod, hX.sum, hC.sum] at this
  unfold MI; grind
theorem mi_split : MI X Y n m = Sm (fun i => Sm (fun k => X i * Y i k * Lr (Y i k)) m) n - Sm (fun k => ou X Y n k * Lr (ou X Y n k)) m := by
  rw [← ou_w, ← sm_sub2]
  exact sm_congr2 fun i k _ _ => by grind
theorem lr_le {x y : Rat} (hx : In x) (hy : In y) (h : x ≤ y) : Lr x ≤ Lr y + ep4 := by
  have h1 := lt_r hx hy
  have := cancel_le hy.pos (show (Lr x - Lr y - ep4) * y ≤ 0 * y by grind)
  grind
theorem lr_top {x : Rat} (hx : In x) (h : x ≤ 1) : Lr x ≤ 2 * ep4 := by
  have h1 := lr_le hx (in_of (i := 0) (j := 0) (by decide) (by decide) Rat.le_refl Rat.le_refl : In 1) h
  have h2 := lr_one
  obtain ⟨-, h2⟩ := h2
  grind
theorem mi_out (hX : Pr X n) (hY : ∀ i, i < n → Pr (Y i) m) : MI X Y n m ≤ En (ou X Y n) m + 2 * ep4 := by
  rw [mi_split, En]
  have h1 := sm_le2 (n := n) (m := m) (f := fun i k => X i * Y i k * Lr (Y i k)) (g := fun i k => 2 * ep4 * (X i * Y i k)) fun i k hi hk => by
    have h := Rat.mul_le_mul_of_nonneg_left (lr_top ((hY i hi).inn hk) ((hY i hi).le hk)) (Rat.mul_nonneg (Rat.le_of_lt (hX.pos hi)) (Rat.le_of_lt ((hY i hi).pos hk)))
    grind
  rw [sm_mul2, ou_all hX hY] at h1
  have h2 : Sm (fun k => ou X Y n k * (0 - Lr (ou X Y n k))) m = 0 - Sm (fun k => ou X Y n k * Lr (ou X Y n k)) m := by
    have z := sm_sub (fun _ => 0) (fun k => ou X Y n k * Lr (ou X Y n k)) m
    rw [sm_zero] at z
    rw [← z]
    exact sm_congr fun k _ => by grind
  rw [h2]; grind
theorem pr_mul {x y : Rat} (x0 : two (-8) ≤ x) (x1 : x ≤ 1) (y0 : two (-8) ≤ y) (y1 : y ≤ 1) : Ab (two (-15)) (Lr (x * y)) (Lr x + Lr y) ∧ In (x * y) := by
  have p := two_pos (-8)
  have k1 := Rat.mul_le_mul_of_nonneg_right x0 (show 0 ≤ y by grind)
  have k2 := Rat.mul_le_mul_of_nonneg_left y0 (Rat.le_of_lt p)
  have k3 := Rat.mul_le_mul_of_nonneg_right x1 (show 0 ≤ y by grind)
  have t : two (-16) = two (-8) * two (-8) := by rw [← two_add]; rfl
  have o : (1 : Rat) = two 0 := rfl
  refine ⟨lr_mul (Rat.le_trans (two_le (by decide)) x0) (by rw [o] at x1; exact Rat.le_trans x1 (two_le (by decide))) (Rat.le_trans (two_le (by decide)) y0) (by rw [o] at y1; exact Rat.le_trans y1 (two_le (by decide))), in_of (i := -16) (j := 0) (by decide) (by decide) (by grind) (by rw [← o]; grind)⟩
theorem mi_in (hX : Pr X n) (hY : ∀ i, i < n → Pr (Y i) m) : MI X Y n m ≤ En X n + 2 * two (-15) := by
  have hC := ou_pr hX hY
  have h1 := sm_le2 (n := n) (m := m) (f := fun i k => X i * Y i k * (Lr (Y i k) - Lr (ou X Y n k))) (g := fun i k => X i * (0 - Lr (X i)) * Y i k + 2 * two (-15) * (X i * Y i k)) fun i k hi hk => by
    have hY := hY i hi
    obtain ⟨⟨p1, p2⟩, p3⟩ := pr_mul (hX.lo i hi) (hX.le hi) (hY.lo k hk) (hY.le hk)
    have h2 : X i * Y i k ≤ ou X Y n k := sm_ge (f := fun i => X i * Y i k) (n := n) (fun j hj => Rat.mul_nonneg (Rat.le_of_lt (hX.pos hj)) (by have := (‹∀ i, i < n → Pr (Y i) m› j hj).pos hk; grind)) hi
    have h3 := lr_le p3 (hC.inn hk) h2
    have t : ep4 ≤ two (-15) := by decide +kernel
    have h4 : Lr (Y i k) - Lr (ou X Y n k) ≤ (0 - Lr (X i)) + 2 * two (-15) := by grind
    have h5 := Rat.mul_le_mul_of_nonneg_left h4 (Rat.mul_nonneg (Rat.le_of_lt (hX.pos hi)) (Rat.le_of_lt (hY.pos hk)))
    grind
  rw [sm_add2, sm_mul2, ou_all hX hY] at h1
  have h2 : Sm (fun i => Sm (fun k => X i * (0 - Lr (X i)) * Y i k) m) n = En X n := by
    refine sm_congr fun i hi => ?_
    rw [sm_mul, (hY i hi).sum]; grind
  rw [h2] at h1
  unfold MI; grind
end
section
variable {X : Nat → Rat} {A B : Nat → Nat → Rat} {a m b : Nat}
/-- Two channels behind one another. -/
def ch2 (A B : Nat → Nat → Rat) (m i k : Nat) : Rat := ou (A i) B m k
theorem ch2_pr (hA : ∀ i, i < a → Pr (A i) m) (hB : ∀ j, j < m → Pr (B j) b) (i : Nat) (hi : i < a) : Pr (ch2 A B m i) b := ou_pr (hA i hi) hB
theorem ch2_ou (X : Nat → Rat) (A B : Nat → Nat → Rat) (a m k : Nat) : ou X (ch2 A B m) a k = ou (ou X A a) B m k := by
  unfold ch2 ou
  have h1 : Sm (fun i => X i * Sm (fun j => A i j * B j k) m) a = Sm (fun i => Sm (fun j => X i * A i j * B j k) m) a := sm_congr fun i _ => by
    rw [← sm_mul]; exact sm_congr fun j _ => by grind
  rw [h1, sm_swap]
  exact sm_congr fun j _ => sm_mulr _ _ _
theorem conv {p q : Nat → Rat} (hp : Pr p m) (hq : ∀ j, j < m → In (q j)) (hz : In (Sm (fun j => p j * q j) m)) : Sm (fun j => p j * q j) m * Lr (Sm (fun j => p j * q j) m) ≤ Sm (fun j => p j * q j * Lr (q j)) m + ep4 * Sm (fun j => p j * q j) m := by
  obtain ⟨Z, hZ⟩ : ∃ Z, Sm (fun j => p j * q j) m = Z := ⟨_, rfl⟩
  rw [hZ] at hz ⊢
  have h1 := sm_le (n := m) (f := fun j => (p j * q j * Lr Z - p j * q j * Lr (q j)) - ep4 * (p j * q j)) (g := fun j => p j * Z - p j * q j) fun j hj => by
    have h := Rat.mul_le_mul_of_nonneg_left (lt_r hz (hq j hj)) (Rat.le_of_lt (hp.pos hj))
    generalize Lr (q j) = l at *
    generalize Lr Z = k at *
    grind
  rw [sm_sub, sm_sub, sm_mulr (fun j => p j * q j), sm_mul, sm_sub, sm_mulr p, hp.sum, hZ] at h1
  grind
/-- No more than what the latter channel tells of what the former brings. -/
theorem dp_in (hX : Pr X a) (hA : ∀ i, i < a → Pr (A i) m) (hB : ∀ j, j < m → Pr (B j) b) : MI X (ch2 A B m) a b ≤ MI (ou X A a) B m b + ep4 := by
  rw [mi_split, mi_split]
  have e1 : Sm (fun k => ou X (ch2 A B m) a k * Lr (ou X (ch2 A B m) a k)) b = Sm (fun k => ou (ou X A a) B m k * Lr (ou (ou X A a) B m k)) b := sm_congr fun k _ => by rw [ch2_ou]
  rw [e1]
  have e2 : Sm (fun j => Sm (fun k => ou X A a j * B j k * Lr (B j k)) b) m = Sm (fun i => Sm (fun k => X i * Sm (fun j => A i j * B j k * Lr (B j k)) m) b) a := by
    have s1 : Sm (fun j => Sm (fun k => ou X A a j * B j k * Lr (B j k)) b) m = Sm (fun j => ou X A a j * Sm (fun k => B j k * Lr (B j k)) b) m := sm_congr fun j _ => by
      rw [← sm_mul]; exact sm_congr fun k _ => by grind
    rw [s1, ← ou_w]
    refine sm_congr fun i _ => ?_
    have s2 : Sm (fun j => X i * A i j * Sm (fun k => B j k * Lr (B j k)) b) m = Sm (fun j => Sm (fun k => X i * (A i j * B j k * Lr (B j k))) b) m := sm_congr fun j _ => by
      rw [← sm_mul]; exact sm_congr fun k _ => by grind
    rw [s2, sm_swap]
    exact sm_congr fun k _ => sm_mul _ _ _
  rw [e2]
  have h1 := sm_le2 (n := a) (m := b) (f := fun i k => X i * ch2 A B m i k * Lr (ch2 A B m i k)) (g := fun i k => X i * Sm (fun j => A i j * B j k * Lr (B j k)) m + ep4 * (X i * ch2 A B m i k)) fun i k hi hk => by
    have hz : In (ch2 A B m i k) := (ch2_pr hA hB i hi).inn hk
    have hc := conv (p := A i) (q := fun j => B j k) (hA i hi) (fun j hj => (hB j hj).inn hk) hz
    have h := Rat.mul_le_mul_of_nonneg_left hc (Rat.le_of_lt (hX.pos hi))
    show X i * ch2 A B m i k * Lr (ch2 A B m i k) ≤ _
    have e : ch2 A B m i k = Sm (fun j => A i j * B j k) m := rfl
    rw [← e] at h
    grind
  rw [sm_add2, sm_mul2, ou_all hX (ch2_pr hA hB)] at h1
  grind
/-- No more than what the former channel tells. -/
theorem dp_out (hX : Pr X a) (hA : ∀ i, i < a → Pr (A i) m) (hB : ∀ j, j < m → Pr (B j) b) : MI X (ch2 A B m) a b ≤ MI X A a m + (2 * two (-15) + ep4) := by
  have hZ := ch2_pr hA hB
  have hM := ou_pr hX hA
  have hC := ou_pr hX hZ
  obtain ⟨e, he⟩ : ∃ e, 2 * two (-15) + ep4 = e := ⟨_, rfl⟩
  rw [he]
  have h1 := sm_le (n := a) (f := fun i => Sm (fun j => Sm (fun k => X i * A i j * B j k * (Lr (ch2 A B m i k) - Lr (ou X (ch2 A B m) a k)) - X i * A i j * (Lr (A i j) - Lr (ou X A a j)) * B j k - e * (X i * A i j) * B j k) b) m)
    (g := fun i => Sm (fun j => Sm (fun k => X i * ch2 A B m i k * (ou X A a j * B j k / ou X (ch2 A B m) a k) - X i * A i j * B j k) b) m) fun i hi => sm_le2 fun j k hj hk => by
    have hA := hA i hi
    have hB := hB j hj
    have hZ := hZ i hi
    obtain ⟨⟨p1, p2⟩, p3⟩ := pr_mul (hM.lo j hj) (hM.le hj) (hZ.lo k hk) (hZ.le hk)
    obtain ⟨⟨q1, q2⟩, q3⟩ := pr_mul (hA.lo j hj) (hA.le hj) (hC.lo k hk) (hC.le hk)
    have l := lt_r p3 q3
    have c0 := hC.pos hk
    have a0 := hA.pos hj
    have x0 := hX.pos hi
    have b0 := hB.pos hk
    generalize ou X (ch2 A B m) a k = C at *
    generalize ch2 A B m i k = Z at *
    generalize ou X A a j = M at *
    generalize X i = x at *
    generalize A i j = α at *
    generalize B j k = β at *
    have hq := Rat.div_mul_cancel (a := M * β) (b := C) (by grind)
    generalize M * β / C = Q at *
    -- (V - U - e) * (α C) ≤ M Z - α C
    have l2 : (Lr Z - Lr C - (Lr α - Lr M) - e) * (α * C) ≤ M * Z - α * C := by
      have : Lr Z - Lr C - (Lr α - Lr M) - e ≤ Lr (M * Z) - Lr (α * C) - ep4 := by grind
      exact Rat.le_trans (Rat.mul_le_mul_of_nonneg_right this (Rat.le_of_lt (Rat.mul_pos a0 c0))) l
    have l3 := Rat.mul_le_mul_of_nonneg_left l2 (Rat.le_of_lt (Rat.mul_pos x0 b0))
    refine cancel_le c0 ?_
    generalize Lr Z = z at *
    generalize Lr C = c at *
    generalize Lr α = u at *
    generalize Lr M = v at *
    have e1 : x * Z * Q * C = x * β * (M * Z) := by grind
    grind
  -- the left sum
  have eL : Sm (fun i => Sm (fun j => Sm (fun k => X i * A i j * B j k * (Lr (ch2 A B m i k) - Lr (ou X (ch2 A B m) a k)) - X i * A i j * (Lr (A i j) - Lr (ou X A a j)) * B j k - e * (X i * A i j) * B j k) b) m) a = MI X (ch2 A B m) a b - MI X A a m - e := by
    have s1 : ∀ i, i < a → Sm (fun j => Sm (fun k => X i * A i j * B j k * (Lr (ch2 A B m i k) - Lr (ou X (ch2 A B m) a k)) - X i * A i j * (Lr (A i j) - Lr (ou X A a j)) * B j k - e * (X i * A i j) * B j k) b) m
        = Sm (fun k => X i * ch2 A B m i k * (Lr (ch2 A B m i k) - Lr (ou X (ch2 A B m) a k))) b - Sm (fun j => X i * A i j * (Lr (A i j) - Lr (ou X A a j))) m - e * X i := by
      intro i hi
      rw [sm_sub2, sm_sub2]
      have t1 : Sm (fun j => Sm (fun k => X i * A i j * B j k * (Lr (ch2 A B m i k) - Lr (ou X (ch2 A B m) a k))) b) m = Sm (fun k => X i * ch2 A B m i k * (Lr (ch2 A B m i k) - Lr (ou X (ch2 A B m) a k))) b := by
        rw [sm_swap]
        refine sm_congr fun k _ => ?_
        rw [sm_mulr]
        have : Sm (fun j => X i * A i j * B j k) m = X i * ch2 A B m i k := by
          unfold ch2 ou; rw [← sm_mul]; exact sm_congr fun j _ => by grind
        rw [this]
      have t2 : Sm (fun j => Sm (fun k => X i * A i j * (Lr (A i j) - Lr (ou X A a j)) * B j k) b) m = Sm (fun j => X i * A i j * (Lr (A i j) - Lr (ou X A a j))) m := by
        refine sm_congr fun j hj => ?_
        rw [sm_mul, (hB j hj).sum]; grind
      have t3 : Sm (fun j => Sm (fun k => e * (X i * A i j) * B j k) b) m = e * X i := by
        have : Sm (fun j => Sm (fun k => e * (X i * A i j) * B j k) b) m = Sm (fun j => e * X i * A i j) m := sm_congr fun j hj => by
          rw [sm_mul, (hB j hj).sum]; grind
        rw [this, sm_mul, (hA i hi).sum]; grind
      rw [t1, t2, t3]
    rw [sm_congr s1, sm_sub, sm_sub, sm_mul, hX.sum]
    unfold MI; grind
  have eR : Sm (fun i => Sm (fun j => Sm (fun k => X i * ch2 A B m i k * (ou X A a j * B j k / ou X (ch2 A B m) a k) - X i * A i j * B j k) b) m) a = 0 := by
    have s1 : ∀ i, i < a → Sm (fun j => Sm (fun k => X i * ch2 A B m i k * (ou X A a j * B j k / ou X (ch2 A B m) a k) - X i * A i j * B j k) b) m
        = Sm (fun k => X i * ch2 A B m i k * Sm (fun j => ou X A a j * B j k / ou X (ch2 A B m) a k) m) b - X i := by
      intro i hi
      rw [sm_sub2, sm_swap]
      have t1 : Sm (fun j => Sm (fun k => X i * A i j * B j k) b) m = X i := by
        have : Sm (fun j => Sm (fun k => X i * A i j * B j k) b) m = Sm (fun j => X i * A i j) m := sm_congr fun j hj => by
          rw [sm_mul, (hB j hj).sum]; grind
        rw [this, sm_mul, (hA i hi).sum]; grind
      rw [t1]
      congr 1
      exact sm_congr fun k _ => sm_mul _ _ _
    rw [sm_congr s1, sm_sub, hX.sum, ou_w]
    have t2 : Sm (fun k => ou X (ch2 A B m) a k * Sm (fun j => ou X A a j * B j k / ou X (ch2 A B m) a k) m) b = 1 := by
      rw [← hC.sum]
      refine sm_congr fun k hk => ?_
      have c0 := hC.pos hk
      have : Sm (fun j => ou X A a j * B j k / ou X (ch2 A B m) a k) m = Sm (fun j => ou X A a j * B j k) m * (1 / ou X (ch2 A B m) a k) := by
        rw [← sm_mulr]; exact sm_congr fun j _ => by rw [Rat.div_def, Rat.div_def]; grind
      rw [this, show Sm (fun j => ou X A a j * B j k) m = ou X (ch2 A B m) a k from (ch2_ou X A B a m k).symm]
      have hq := Rat.div_mul_cancel (a := 1) (b := ou X (ch2 A B m) a k) (by grind)
      grind
    rw [t2]; grind
  rw [eL, eR] at h1
  grind
end
/-- Two channels beside one another. -/
def sdX (X O : Nat → Rat) (nb t : Nat) : Rat := X (t / nb) * O (t % nb)
def sdY (A B : Nat → Nat → Rat) (nb mb i k : Nat) : Rat := A (i / nb) (k / mb) * B (i % nb) (k % mb)
section
variable {X O : Nat → Rat} {A B : Nat → Nat → Rat} {n m nb mb : Nat}
theorem sd_ou (X O : Nat → Rat) (A B : Nat → Nat → Rat) (n nb mb k : Nat) : ou (sdX X O nb) (sdY A B nb mb) (n * nb) k = ou X A n (k / mb) * ou O B nb (k % mb) := by
  unfold ou sdX sdY
  rw [sm_two (fun i j => X i * O j * (A i (k / mb) * B j (k % mb))), ← sm_prod]
  exact sm_congr2 fun i j _ _ => by grind
theorem sd_sum (f : Nat → Nat → Nat → Nat → Rat) (n nb m mb : Nat) : Sm (fun i => Sm (fun k => f (i / nb) (i % nb) (k / mb) (k % mb)) (m * mb)) (n * nb) = Sm (fun i => Sm (fun j => Sm (fun k => Sm (fun l => f i j k l) mb) m) nb) n := by
  rw [sm_two (fun i j => Sm (fun k => f i j (k / mb) (k % mb)) (m * mb))]
  exact sm_congr2 fun i j _ _ => sm_two (fun k l => f i j k l) m mb
theorem div_lt' {t n m : Nat} (h : t < n * m) : t / m < n ∧ t % m < m := by
  rcases Nat.eq_zero_or_pos m with h0 | h0
  · subst h0; omega
  · exact ⟨(Nat.div_lt_iff_lt_mul h0).2 h, Nat.mod_lt _ h0⟩
theorem sd_add (hX : Pr X n) (hO : Pr O nb) (hA : ∀ i, i < n → Pr (A i) m) (hB : ∀ i, i < nb → Pr (B i) mb) : Ab (2 * two (-15)) (MI (sdX X O nb) (sdY A B nb mb) (n * nb) (m * mb)) (MI X A n m + MI O B nb mb) := by
  have hC := ou_pr hX hA
  have hD := ou_pr hO hB
  have key : ∀ i k, i < n * nb → k < m * mb → Ab (2 * two (-15) * (sdX X O nb i * sdY A B nb mb i k)) (sdX X O nb i * sdY A B nb mb i k * (Lr (sdY A B nb mb i k) - Lr (ou (sdX X O nb) (sdY A B nb mb) (n * nb) k)))
      (X (i / nb) * O (i % nb) * (A (i / nb) (k / mb) * B (i % nb) (k % mb)) * ((Lr (A (i / nb) (k / mb)) - Lr (ou X A n (k / mb))) + (Lr (B (i % nb) (k % mb)) - Lr (ou O B nb (k % mb))))) := by
    intro i k hi hk
    obtain ⟨i1, i2⟩ := div_lt' hi
    obtain ⟨k1, k2⟩ := div_lt' hk
    rw [sd_ou]
    unfold sdX sdY
    obtain ⟨⟨p1, p2⟩, -⟩ := pr_mul ((hA _ i1).lo _ k1) ((hA _ i1).le k1) ((hB _ i2).lo _ k2) ((hB _ i2).le k2)
    obtain ⟨⟨q1, q2⟩, -⟩ := pr_mul (hC.lo _ k1) (hC.le k1) (hD.lo _ k2) (hD.le k2)
    have w0 := Rat.le_of_lt (Rat.mul_pos (Rat.mul_pos (hX.pos i1) (hO.pos i2)) (Rat.mul_pos ((hA _ i1).pos k1) ((hB _ i2).pos k2)))
    generalize X (i / nb) * O (i % nb) * (A (i / nb) (k / mb) * B (i % nb) (k % mb)) = w at *
    generalize Lr (A (i / nb) (k / mb) * B (i % nb) (k % mb)) = a at *
    generalize Lr (ou X A n (k / mb) * ou O B nb (k % mb)) = b at *
    generalize Lr (A (i / nb) (k / mb)) = c at *
    generalize Lr (B (i % nb) (k % mb)) = d at *
    generalize Lr (ou X A n (k / mb)) = e at *
    generalize Lr (ou O B nb (k % mb)) = f at *
    have h1 : a - b ≤ (c - e + (d - f)) + 2 * two (-15) := by grind
    have h2 : (c - e + (d - f)) ≤ a - b + 2 * two (-15) := by grind
    have h3 := Rat.mul_le_mul_of_nonneg_left h1 w0
    have h4 := Rat.mul_le_mul_of_nonneg_left h2 w0
    constructor <;> grind
  have W : Sm (fun i => Sm (fun k => sdX X O nb i * sdY A B nb mb i k) (m * mb)) (n * nb) = 1 := by
    unfold sdX sdY
    rw [sd_sum (fun i j k l => X i * O j * (A i k * B j l))]
    have : Sm (fun i => Sm (fun j => Sm (fun k => Sm (fun l => X i * O j * (A i k * B j l)) mb) m) nb) n = Sm (fun i => Sm (fun j => X i * O j) nb) n := sm_congr2 fun i j hi hj => by
      rw [sm_mul2, sm_prod, (hA i hi).sum, (hB j hj).sum]; grind
    rw [this, sm_prod, hX.sum, hO.sum]; grind
  have R : Sm (fun i => Sm (fun k => X (i / nb) * O (i % nb) * (A (i / nb) (k / mb) * B (i % nb) (k % mb)) * ((Lr (A (i / nb) (k / mb)) - Lr (ou X A n (k / mb))) + (Lr (B (i % nb) (k % mb)) - Lr (ou O B nb (k % mb))))) (m * mb)) (n * nb) = MI X A n m + MI O B nb mb := by
    rw [sd_sum (fun i j k l => X i * O j * (A i k * B j l) * ((Lr (A i k) - Lr (ou X A n k)) + (Lr (B j l) - Lr (ou O B nb l))))]
    have s1 : Sm (fun i => Sm (fun j => Sm (fun k => Sm (fun l => X i * O j * (A i k * B j l) * ((Lr (A i k) - Lr (ou X A n k)) + (Lr (B j l) - Lr (ou O B nb l)))) mb) m) nb) n
        = Sm (fun i => Sm (fun j => Sm (fun k => X i * A i k * (Lr (A i k) - Lr (ou X A n k))) m * O j + X i * Sm (fun l => O j * B j l * (Lr (B j l) - Lr (ou O B nb l))) mb) nb) n := sm_congr2 fun i j hi hj => by
      have t : Sm (fun k => Sm (fun l => X i * O j * (A i k * B j l) * ((Lr (A i k) - Lr (ou X A n k)) + (Lr (B j l) - Lr (ou O B nb l)))) mb) m
          = Sm (fun k => Sm (fun l => X i * A i k * (Lr (A i k) - Lr (ou X A n k)) * O j * B j l + X i * A i k * (O j * B j l * (Lr (B j l) - Lr (ou O B nb l)))) mb) m := sm_congr2 fun k l _ _ => by grind
      rw [t, sm_add2, sm_prod, sm_prod, (hB j hj).sum, sm_mul, (hA i hi).sum, sm_mulr]; grind
    rw [s1, sm_add2, sm_prod, sm_prod, hX.sum, hO.sum]
    unfold MI; grind
  obtain ⟨d, hd⟩ : ∃ d, 2 * two (-15) = d := ⟨_, rfl⟩
  rw [hd] at key ⊢
  rw [← R]
  unfold MI
  constructor
  · have := sm_le2 fun i k hi hk => (key i k hi hk).1
    rw [sm_add2, sm_mul2, W] at this; grind
  · have := sm_le2 fun i k hi hk => (key i k hi hk).2
    rw [sm_add2, sm_mul2, W] at this; grind
end
end Go.Proofs.Ytiejljlmbpgbiaa
