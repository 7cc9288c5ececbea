/- Drawn rows and channels, what comes out, chains and channels beside one another, as words near chances. Plain; conditions: what each theorem names. -/
import Derived.Test.YtiejljlmbpgbiaaTldQ
import Derived.Test.YtiejljlmbpgbiaaB10D
import Derived.Test.YtiejljlmbpgbiaaSidI
import Derived.Test.YtiejljlmbpgbiaaChnS
namespace Go.Proofs.Ytiejljlmbpgbiaa
open Ieee
set_option maxRecDepth 100000
set_option linter.unusedVariables false
set_option linter.unusedSimpArgs false

/-- The chances that drawn parts stand for. -/
def pX (cs : List Int) (i : Nat) : Rat := ((cs.getD i 0 : Int) : Rat) / ((sumL cs : Int) : Rat)
theorem sm_int (cs : List Int) : Sm (fun i => ((cs.getD i 0 : Int) : Rat)) cs.length = ((sumL cs : Int) : Rat) := by
  suffices h : ∀ k, k ≤ cs.length → Sm (fun i => ((cs.getD i 0 : Int) : Rat)) k = ((sumL (cs.take k) : Int) : Rat) by
    have := h cs.length (Nat.le_refl _)
    rwa [List.take_length] at this
  intro k hk
  induction k with
  | zero => rfl
  | succ k ih =>
    have e : cs[k]'(by omega) = cs.getD k 0 := by rw [List.getD_eq_getElem?_getD, List.getElem?_eq_getElem (by omega)]; rfl
    rw [Sm, ih (by omega), List.take_succ_eq_append_getElem (by omega), sumL_snoc, Rat.intCast_add, e]
theorem div_lo {c s b : Rat} (h1 : 1 ≤ c) (hs : s ≤ b) (s0 : 0 < s) {q : Rat} (hq : q * b ≤ 1) (q0 : 0 ≤ q) : q ≤ c / s := by
  have h := Rat.div_mul_cancel (a := c) (b := s) (by grind)
  refine Rat.not_lt.1 fun hn => ?_
  have k1 := Rat.mul_lt_mul_of_pos_right hn s0
  have k2 := Rat.mul_le_mul_of_nonneg_left hs q0
  grind
theorem prt_get {cs : List Int} (h : Prt cs) {i : Nat} (hi : i < cs.length) : 1 ≤ cs.getD i 0 ∧ cs.getD i 0 ≤ sumL cs := by
  have hm : cs.getD i 0 ∈ cs := by
    rw [List.getD_eq_getElem?_getD, List.getElem?_eq_getElem hi]; exact List.getElem_mem _
  exact ⟨(h _ hm).1, prt_le h _ hm⟩
theorem prt_pos {cs : List Int} (h : Prt cs) (h1 : 1 ≤ cs.length) : (1 : Rat) ≤ ((sumL cs : Int) : Rat) ∧ ((sumL cs : Int) : Rat) ≤ 6 * (cs.length : Nat) := by
  obtain ⟨a, b⟩ := prt_get h (show 0 < cs.length by omega)
  constructor
  · rw [show (1 : Rat) = ((1 : Int) : Rat) from rfl, Rat.intCast_le_intCast]; omega
  · have := (prt_sum h).2
    have e : (6 : Rat) * (cs.length : Nat) = ((6 * (cs.length : Int) : Int) : Rat) := by rw [Rat.intCast_mul]; rfl
    rw [e, Rat.intCast_le_intCast]; exact this
theorem px_lo {cs : List Int} (h : Prt cs) {i : Nat} (hi : i < cs.length) {q : Rat} (hq : q * (6 * (cs.length : Nat)) ≤ 1) (q0 : 0 ≤ q) : q ≤ pX cs i := by
  obtain ⟨a, b⟩ := prt_get h hi
  obtain ⟨s1, s2⟩ := prt_pos h (by omega)
  have c1 : (1 : Rat) ≤ ((cs.getD i 0 : Int) : Rat) := by rw [show (1 : Rat) = ((1 : Int) : Rat) from rfl, Rat.intCast_le_intCast]; exact a
  exact div_lo c1 s2 (by grind) hq q0
theorem px_sum {cs : List Int} (h : Prt cs) (h1 : 1 ≤ cs.length) : Sm (pX cs) cs.length = 1 := by
  obtain ⟨s1, s2⟩ := prt_pos h h1
  have : Sm (pX cs) cs.length = Sm (fun i => ((cs.getD i 0 : Int) : Rat)) cs.length * (1 / ((sumL cs : Int) : Rat)) := by
    rw [← sm_mulr]; exact sm_congr fun i _ => by unfold pX; rw [Rat.div_def, Rat.div_def]; grind
  rw [this, sm_int]
  have := Rat.div_mul_cancel (a := 1) (b := ((sumL cs : Int) : Rat)) (by grind)
  grind
theorem px_pr {cs : List Int} {n : Nat} (h : Prt cs) (hl : cs.length = n) (h1 : 1 ≤ n) (h8 : n ≤ 8) : Pr (pX cs) n := by
  subst hl
  refine ⟨fun i hi => px_lo h hi ?_ (Rat.le_of_lt (two_pos _)), px_sum h h1⟩
  have : ((cs.length : Nat) : Rat) ≤ 8 := by rw [show (8 : Rat) = ((8 : Nat) : Rat) from rfl, Rat.natCast_le_natCast]; exact h8
  have k := Rat.mul_le_mul_of_nonneg_left (show 6 * ((cs.length : Nat) : Rat) ≤ 48 by grind) (Rat.le_of_lt (two_pos (-8)))
  have : two (-8) * 48 ≤ 1 := by decide +kernel
  grind
theorem rwL_wap {cs : List Int} (h : Prt cs) (h8 : cs.length ≤ 8) {i : Nat} (hi : i < cs.length) : WAp 1 ((rwL cs).getD i 0) (pX cs i) := by
  obtain ⟨a, b⟩ := prt_get h hi
  have := (prt_sum h).2
  have e : (rwL cs).getD i 0 = ratW (cs.getD i 0) (sumL cs) := by simp [rwL, hi]
  rw [e]
  exact wap_rat a b (by omega)
/-- The chances of drawn rows. -/
def pY (rs : List (List Int)) (i : Nat) : Nat → Rat := pX (rs.getD i [])
theorem rws_get (rs : List (List Int)) (m : Nat) (h : ∀ r ∈ rs, r.length = m) (i k : Nat) (hi : i < rs.length) (hk : k < m) : (rwsL rs).getD (i * m + k) 0 = (rwL (rs.getD i [])).getD k 0 := by
  induction rs generalizing i with
  | nil => simp at hi
  | cons r rs ih =>
    have h1 := h r (by simp)
    have e : rwsL (r :: rs) = rwL r ++ rwsL rs := rfl
    cases i with
    | zero =>
      rw [e, Nat.zero_mul, Nat.zero_add, List.getD_eq_getElem?_getD, List.getElem?_append_left (by rw [rwL_len]; omega), List.getD_eq_getElem?_getD]; rfl
    | succ i =>
      have := ih (fun y hy => h y (List.mem_cons_of_mem _ hy)) i (by simpa using hi)
      rw [e, List.getD_eq_getElem?_getD, List.getElem?_append_right (by rw [rwL_len, Nat.add_mul]; omega), rwL_len, h1, show (i + 1) * m + k - m = i * m + k by rw [Nat.add_mul]; omega, ← List.getD_eq_getElem?_getD, this]
      rfl
structure Dr (rs : List (List Int)) (n m : Nat) : Prop where
  l : rs.length = n
  r : ∀ r ∈ rs, r.length = m ∧ Prt r
  m1 : 1 ≤ m
  m8 : m ≤ 8
theorem Dr.at {rs : List (List Int)} {n m : Nat} (h : Dr rs n m) {i : Nat} (hi : i < n) : (rs.getD i []).length = m ∧ Prt (rs.getD i []) := by
  have hm : rs.getD i [] ∈ rs := by
    rw [List.getD_eq_getElem?_getD, List.getElem?_eq_getElem (by have := h.l; omega)]; exact List.getElem_mem _
  exact h.r _ hm
theorem Dr.pr {rs : List (List Int)} {n m : Nat} (h : Dr rs n m) (i : Nat) (hi : i < n) : Pr (pY rs i) m := by
  obtain ⟨a, b⟩ := h.at hi
  exact px_pr b a h.m1 h.m8
theorem Dr.wap {rs : List (List Int)} {n m : Nat} (h : Dr rs n m) (i k : Nat) (hi : i < n) (hk : k < m) : WAp 1 ((rwsL rs).getD (i * m + k) 0) (pY rs i k) := by
  obtain ⟨a, b⟩ := h.at hi
  rw [rws_get rs m (fun r hr => (h.r r hr).1) i k (by have := h.l; omega) hk]
  exact rwL_wap b (by have := h.m8; omega) (by omega)
theorem Dr.len {rs : List (List Int)} {n m : Nat} (h : Dr rs n m) : (rwsL rs).length = n * m := by
  rw [rwsL_len rs m fun r hr => (h.r r hr).1, h.l]
/-- A drawn row and a drawn channel. -/
theorem tld_drawn {cs : List Int} {rs : List (List Int)} {n m : Nat} (h : Dr rs n m) (hp : Prt cs) (hl : cs.length = n) (n1 : 1 ≤ n) (n8 : n ≤ 8) (nm : n * m ≤ 36) : Tld 1 1 n m (rwL cs) (rwsL rs) (pX cs) (pY rs) :=
  ⟨n1, n8, h.m1, h.m8, nm, by decide, by rw [rwL_len, hl], h.len, fun i hi => rwL_wap hp (by omega) (by omega), fun i k hi hk => h.wap i k hi hk, px_pr hp hl n1 n8, fun i hi => h.pr i hi⟩
theorem th_sum (row xs : List Nat) (m k n : Nat) : thS row xs m k n = sumF 0 ((List.range n).map (thP row xs m k)) := by
  induction n with
  | zero => rfl
  | succ n ih => rw [thS, ih]; simp [List.range_succ, sumF, List.foldl_append]
/-- What comes out. -/
theorem th_wap {j l n m : Nat} {row xs : List Nat} {X : Nat → Rat} {Y : Nat → Nat → Rat} (n1 : 1 ≤ n) (n8 : n ≤ 8) (hj : j + l ≤ 16) (hr : ∀ i, i < n → WAp j (row.getD i 0) (X i)) (k : Nat) (hx : ∀ i, i < n → WAp l (xs.getD (i * m + k) 0) (Y i k))
    (xl : ∀ i, i < n → two (-8) ≤ X i ∧ X i ≤ 1) (yl : ∀ i, i < n → two (-8) ≤ Y i k ∧ Y i k ≤ 1) : WAp (j + l + 1 + n) (thS row xs m k n) (ou X Y n k) := by
  rw [th_sum]
  refine wap_all (n := n) (A := fun i => X i * Y i k) (by simp) (fun i hi => ?_) (fun i hi => ?_) (by omega) n1
  · obtain ⟨a, b⟩ := xl i hi
    obtain ⟨c, d⟩ := yl i hi
    have := wap_mul (hr i hi) (hx i hi) (by omega) (two20 a) b (two20 c) d
    simpa [hi, thP] using this
  · obtain ⟨a, b⟩ := xl i hi
    obtain ⟨c, d⟩ := yl i hi
    have p8 := two_pos (-8)
    have e8 : two (-16) = two (-8) * two (-8) := by rw [← two_add]; rfl
    have w0 := Rat.mul_le_mul_of_nonneg_right a (show 0 ≤ Y i k by grind)
    have w1 := Rat.mul_le_mul_of_nonneg_left c (Rat.le_of_lt p8)
    have w2 := Rat.mul_le_mul_of_nonneg_right b (show 0 ≤ Y i k by grind)
    have := two_le (show (-20 : Int) ≤ -16 by decide)
    constructor <;> grind
theorem thL_gd (row xs : List Nat) (n m k : Nat) (hk : k < m) : (thL row xs n m m).getD k 0 = thS row xs m k n := by simp [thL, hk]
theorem Tld.out {j l n m : Nat} {row xs : List Nat} {X : Nat → Rat} {Y : Nat → Nat → Rat} (h : Tld j l n m row xs X Y) (k : Nat) (hk : k < m) : WAp (j + l + 1 + n) ((thL row xs n m m).getD k 0) (ou X Y n k) := by
  rw [thL_gd _ _ _ _ _ hk]
  exact th_wap h.n1 h.n8 (by have := h.jl; omega) h.r k (fun i hi => h.x i k hi hk) (fun i hi => ⟨h.pX.lo i hi, h.pX.le hi⟩) (fun i hi => ⟨(h.pY i hi).lo k hk, (h.pY i hi).le hk⟩)
theorem Tld.outR {j l n m : Nat} {row xs : List Nat} {X : Nat → Rat} {Y : Nat → Nat → Rat} (h : Tld j l n m row xs X Y) : isRowW (thL row xs n m m) = true := by
  have hC := ou_pr h.pX h.pY
  have h1 := h.jl
  have h2 := h.n8
  have h3 := h.m8
  exact row_ap (thL_len _ _ _ _ _) (fun k hk => h.out k hk) (fun k hk => two20 (hC.lo k hk)) (by omega) h.m1 (by omega) hC.sum
/-- A chain's words. -/
theorem ch_get (xa xb : List Nat) (ma mb a i k : Nat) (hi : i < a) (hk : k < mb) : (chL xa xb ma mb a).getD (i * mb + k) 0 = thS (rowL xa ma i) xb mb k ma := by
  induction a with
  | zero => omega
  | succ a ih =>
    rw [chL_snoc]
    by_cases e : i < a
    · have := at_lt (n := a) e hk
      rw [List.getD_eq_getElem?_getD, List.getElem?_append_left (by rw [chL_len]; exact this), ← List.getD_eq_getElem?_getD, ih e]
    · obtain rfl : i = a := by omega
      rw [List.getD_eq_getElem?_getD, List.getElem?_append_right (by rw [chL_len]; omega), chL_len, Nat.add_sub_cancel_left, ← List.getD_eq_getElem?_getD, thL_gd _ _ _ _ _ hk]
theorem ch_wap {a ma mb : Nat} {ra rb : List (List Int)} (ha : Dr ra a ma) (hb : Dr rb ma mb) (i k : Nat) (hi : i < a) (hk : k < mb) : WAp (1 + 1 + 1 + ma) ((chL (rwsL ra) (rwsL rb) ma mb a).getD (i * mb + k) 0) (ch2 (pY ra) (pY rb) ma i k) := by
  rw [ch_get _ _ _ _ _ _ _ hi hk]
  have hA := ha.pr i hi
  refine th_wap (X := pY ra i) ha.m1 ha.m8 (by decide) (fun j hj => ?_) k (fun j hj => hb.wap j k hj hk) (fun j hj => ⟨hA.lo j hj, hA.le hj⟩) (fun j hj => ⟨(hb.pr j hj).lo k hk, (hb.pr j hj).le hk⟩)
  rw [List.getD_eq_getElem?_getD, rowL_get ha.len hi hj]
  exact ha.wap i j hi hj
/-- A row before a chain. -/
theorem tld_chain {cs : List Int} {a ma mb : Nat} {ra rb : List (List Int)} (ha : Dr ra a ma) (hb : Dr rb ma mb) (hp : Prt cs) (hl : cs.length = a) (a1 : 1 ≤ a) (a8 : a ≤ 8) (m4 : ma ≤ 4) (nm : a * mb ≤ 36) :
    Tld 1 (1 + 1 + 1 + ma) a mb (rwL cs) (chL (rwsL ra) (rwsL rb) ma mb a) (pX cs) (ch2 (pY ra) (pY rb) ma) :=
  ⟨a1, a8, hb.m1, hb.m8, nm, by omega, by rw [rwL_len, hl], chL_len _ _ _ _ _, fun i hi => rwL_wap hp (by omega) (by omega), fun i k hi hk => ch_wap ha hb i k hi hk, px_pr hp hl a1 a8, fun i hi => ch2_pr (fun i hi => ha.pr i hi) (fun j hj => hb.pr j hj) i hi⟩
/-- What comes out of the former, before the latter. -/
theorem tld_mid {cs : List Int} {a ma mb : Nat} {ra rb : List (List Int)} (ha : Dr ra a ma) (hb : Dr rb ma mb) (hp : Prt cs) (hl : cs.length = a) (a1 : 1 ≤ a) (a4 : a ≤ 4) (nm : a * ma ≤ 36) (nm' : ma * mb ≤ 36) :
    Tld (1 + 1 + 1 + a) 1 ma mb (thL (rwL cs) (rwsL ra) a ma ma) (rwsL rb) (ou (pX cs) (pY ra) a) (pY rb) := by
  have h := tld_drawn ha hp hl a1 (by omega) nm
  exact ⟨ha.m1, ha.m8, hb.m1, hb.m8, nm', by omega, thL_len _ _ _ _ _, hb.len, fun i hi => h.out i hi, fun i k hi hk => hb.wap i k hi hk, ou_pr h.pX h.pY, fun i hi => hb.pr i hi⟩
theorem small_mul {x y : Rat} (hx : 1 / 12 ≤ x) (hy : 1 / 18 ≤ y) : two (-8) ≤ x * y ∧ two (-8) ≤ y * x := by
  have k1 := Rat.mul_le_mul_of_nonneg_right hx (show 0 ≤ y by grind)
  have k2 := Rat.mul_le_mul_of_nonneg_left hy (show (0 : Rat) ≤ 1 / 12 by decide +kernel)
  have k3 : two (-8) ≤ 1 / 12 * (1 / 18) := by decide +kernel
  constructor <;> grind
/-- The words of rows multiplied. -/
def bothF (row other : List Nat) (i k : Nat) : Nat := fmul .f32 (row.getD i 0) (other.getD k 0)
theorem tld_side {cs co : List Int} {ma : Nat} {ra rb : List (List Int)} (ha : Dr ra 2 ma) (hb : Dr rb ma 2) (hp : Prt cs) (hl : cs.length = 2) (hp' : Prt co) (hl' : co.length = ma) (m3 : ma ≤ 3) :
    Tld 3 3 (2 * ma) (ma * 2) (gridA (bothF (rwL cs) (rwL co)) 2 ma) (gridA (sdF (rwsL ra) (rwsL rb) ma ma 2) (2 * ma) (ma * 2)) (sdX (pX cs) (pX co) ma) (sdY (pY ra) (pY rb) ma 2) := by
  have m1 := ha.m1
  have hX := px_pr hp hl (by decide) (by decide)
  have hO := px_pr hp' hl' m1 (by omega)
  have m3' : ((ma : Nat) : Rat) ≤ 3 := by rw [show (3 : Rat) = ((3 : Nat) : Rat) from rfl, Rat.natCast_le_natCast]; exact m3
  have l2 : ∀ {c : List Int} {i : Nat}, Prt c → c.length = 2 → i < 2 → 1 / 12 ≤ pX c i := fun {c i} h hl hi => px_lo h (by omega) (by rw [hl]; decide +kernel) (by decide +kernel)
  have l3 : ∀ {c : List Int} {i : Nat}, Prt c → c.length = ma → i < ma → 1 / 18 ≤ pX c i := fun {c i} h hl hi => px_lo h (by omega) (by
    rw [hl]
    have := Rat.mul_le_mul_of_nonneg_left (show 6 * ((ma : Nat) : Rat) ≤ 18 by grind) (show (0 : Rat) ≤ 1 / 18 by decide +kernel)
    have : (1 : Rat) / 18 * 18 = 1 := by decide +kernel
    grind) (by decide +kernel)
  have dm : ∀ t n m : Nat, t < n * m → t / m * m + t % m = t := fun t n m _ => by have := Nat.div_add_mod t m; rw [Nat.mul_comm] at this; exact this
  refine ⟨by omega, by omega, by omega, by omega, by have := Nat.mul_le_mul (show 2 * ma ≤ 6 by omega) (show ma * 2 ≤ 6 by omega); omega, by decide, gridA_len _ _ _, gridA_len _ _ _, fun t ht => ?_, fun t s ht hs => ?_, ⟨fun t ht => ?_, ?_⟩, fun t ht => ⟨fun s hs => ?_, ?_⟩⟩
  · obtain ⟨i1, i2⟩ := div_lt' ht
    have e := gridA_get (bothF (rwL cs) (rwL co)) 2 ma (t / ma) (t % ma) i1 i2
    rw [dm t 2 ma ht] at e
    rw [e]
    exact wap_mul (rwL_wap hp (by omega) (by omega)) (rwL_wap hp' (by omega) (by omega)) (by decide) (two20 (hX.lo _ i1)) (hX.le i1) (two20 (hO.lo _ i2)) (hO.le i2)
  · obtain ⟨i1, i2⟩ := div_lt' ht
    obtain ⟨k1, k2⟩ := div_lt' hs
    rw [gridA_get _ _ _ _ _ ht hs]
    exact wap_mul (ha.wap _ _ i1 k1) (hb.wap _ _ i2 k2) (by decide) (two20 ((ha.pr _ i1).lo _ k1)) ((ha.pr _ i1).le k1) (two20 ((hb.pr _ i2).lo _ k2)) ((hb.pr _ i2).le k2)
  · obtain ⟨i1, i2⟩ := div_lt' ht
    exact (small_mul (l2 hp hl i1) (l3 hp' hl' i2)).1
  · rw [show Sm (sdX (pX cs) (pX co) ma) (2 * ma) = Sm (fun t => pX cs (t / ma) * pX co (t % ma)) (2 * ma) from rfl, sm_two (fun i j => pX cs i * pX co j), sm_prod, hX.sum, hO.sum]; grind
  · obtain ⟨i1, i2⟩ := div_lt' ht
    obtain ⟨k1, k2⟩ := div_lt' hs
    obtain ⟨a1, a2⟩ := ha.at i1
    obtain ⟨b1, b2⟩ := hb.at i2
    exact (small_mul (l2 b2 b1 k2) (l3 a2 a1 k1)).2
  · obtain ⟨i1, i2⟩ := div_lt' ht
    rw [show Sm (sdY (pY ra) (pY rb) ma 2 t) (ma * 2) = Sm (fun s => pY ra (t / ma) (s / 2) * pY rb (t % ma) (s % 2)) (ma * 2) from rfl, sm_two (fun i j => pY ra (t / ma) i * pY rb (t % ma) j), sm_prod, (ha.pr _ i1).sum, (hb.pr _ i2).sum]; grind
end Go.Proofs.Ytiejljlmbpgbiaa
