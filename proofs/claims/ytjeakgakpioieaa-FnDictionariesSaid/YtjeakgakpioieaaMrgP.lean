/- Merging and unmerging letters: what the loops compute, as plain functions on lists. No conditions. -/
import Derived.Test.YtjeakgakpioieaaSlide
namespace Go.Proofs.Ytjeakgakpioieaa
open Go.RowKit
set_option maxRecDepth 100000
set_option linter.unusedVariables false
set_option linter.unusedSimpArgs false

def exp1 (L a b : Int) : List Int → List Int
  | [] => []
  | z :: zs => if z = L then a :: b :: exp1 L a b zs else z :: exp1 L a b zs
def umF (n : Int) (rs : List Int) : Nat → List Int → List Int
  | 0, zs => zs
  | i + 1, zs => umF n rs i (exp1 (n + i) (gi rs (2 * i)) (gi rs (2 * i + 1)) zs)
theorem exp1_len (L a b : Int) (zs : List Int) : zs.length ≤ (exp1 L a b zs).length ∧ (exp1 L a b zs).length ≤ 2 * zs.length := by
  induction zs with
  | nil => simp [exp1]
  | cons z zs ih => rw [exp1]; split <;> simp <;> omega
theorem exp1_app (L a b : Int) (xs ys : List Int) : exp1 L a b (xs ++ ys) = exp1 L a b xs ++ exp1 L a b ys := by
  induction xs with
  | nil => simp [exp1]
  | cons x xs ih => rw [List.cons_append, exp1, exp1]; split <;> simp [ih]
theorem umF_len (n : Int) (rs : List Int) (i : Nat) (zs : List Int) : zs.length ≤ (umF n rs i zs).length ∧ (umF n rs i zs).length ≤ 2 ^ i * zs.length := by
  induction i generalizing zs with
  | zero => simp [umF]
  | succ i ih =>
    rw [umF]
    have h1 := exp1_len (n + i) (gi rs (2 * i)) (gi rs (2 * i + 1)) zs
    have h2 := ih (exp1 (n + i) (gi rs (2 * i)) (gi rs (2 * i + 1)) zs)
    refine ⟨by omega, Nat.le_trans h2.2 ?_⟩
    rw [Nat.pow_succ, Nat.mul_assoc]
    exact Nat.mul_le_mul_left _ h1.2
def ruF (n : Int) (rs : List Int) : Nat → Nat → Bool
  | 0, _ => true
  | r + 1, i => inB (gi rs (2 * i)) 0 (n + i - 1) && inB (gi rs (2 * i + 1)) 0 (n + i - 1) && ruF n rs r (i + 1)
/-- The same, a rule's half at a time. -/
def ruH (n : Int) (rs : List Int) : Nat → Nat → Bool
  | 0, _ => true
  | r + 1, i => inB (gi rs i) 0 (n + ((i / 2 : Nat) : Int) - 1) && ruH n rs r (i + 1)
theorem ruH_eq (n : Int) (rs : List Int) (r i : Nat) : ruH n rs (2 * r) (2 * i) = ruF n rs r i := by
  induction r generalizing i with
  | zero => rfl
  | succ r ih =>
    rw [show 2 * (r + 1) = (2 * r + 1) + 1 by omega, ruH, ruH, ruF, show 2 * i + 1 + 1 = 2 * (i + 1) by omega, ih, show 2 * i / 2 = i by omega, show (2 * i + 1) / 2 = i by omega, Bool.and_assoc]
theorem ruF_at {n : Int} {rs : List Int} {r i : Nat} (h : ruF n rs r i = true) (j : Nat) (h1 : i ≤ j) (h2 : j < i + r) : (0 ≤ gi rs (2 * j) ∧ gi rs (2 * j) ≤ n + j - 1) ∧ 0 ≤ gi rs (2 * j + 1) ∧ gi rs (2 * j + 1) ≤ n + j - 1 := by
  induction r generalizing i with
  | zero => omega
  | succ r ih =>
    simp only [ruF, inB, Bool.and_eq_true, decide_eq_true_eq] at h
    by_cases e : i = j
    · subst e; exact h.1
    · exact ih h.2 (by omega) (by omega)
def In0 (M : Int) (zs : List Int) : Prop := ∀ z ∈ zs, 0 ≤ z ∧ z < M
theorem exp1_in {n : Int} {i : Nat} {a b : Int} {zs : List Int} (h : In0 (n + i + 1) zs) (ha : 0 ≤ a ∧ a < n + i) (hb : 0 ≤ b ∧ b < n + i) : In0 (n + i) (exp1 (n + i) a b zs) := by
  induction zs with
  | nil => intro z hz; cases hz
  | cons z zs ih =>
    have h1 := h z (by simp)
    have h2 := ih fun y hy => h y (List.mem_cons_of_mem _ hy)
    rw [exp1]
    intro y hy
    split at hy
    · simp only [List.mem_cons] at hy
      rcases hy with rfl | rfl | hy
      · exact ha
      · exact hb
      · exact h2 y hy
    · simp only [List.mem_cons] at hy
      rcases hy with rfl | hy
      · omega
      · exact h2 y hy
theorem umF_in {n : Int} {rs : List Int} (i : Nat) {zs : List Int} (h : In0 (n + i) zs) (hr : ∀ j, j < i → (0 ≤ gi rs (2 * j) ∧ gi rs (2 * j) ≤ n + j - 1) ∧ 0 ≤ gi rs (2 * j + 1) ∧ gi rs (2 * j + 1) ≤ n + j - 1) : In0 n (umF n rs i zs) := by
  induction i generalizing zs with
  | zero => simpa [umF] using h
  | succ i ih =>
    rw [umF]
    have := hr i (by omega)
    refine ih (exp1_in (by rw [Int.natCast_add, ← Int.add_assoc] at h; exact h) (by omega) (by omega)) fun j hj => hr j (by omega)
def umIn (zs rs : List Int) (n : Int) : Bool := sgn n && (rs.length % 2 == 0) && decide (rs.length / 2 ≤ 8) && decide (zs.length ≤ 64) && allIn zs 0 (n + ((rs.length / 2 : Nat) : Int) - 1) && ruF n rs (rs.length / 2) 0
def umOk (zs rs : List Int) (n : Int) : Bool := umIn zs rs n && decide ((umF n rs (rs.length / 2) zs).length ≤ 64)
def umZ (zs rs : List Int) (n : Int) : List Int := if umOk zs rs n = true then umF n rs (rs.length / 2) zs else []
theorem umZ_len (zs rs : List Int) (n : Int) : (umZ zs rs n).length ≤ 16777216 := by
  unfold umZ; split
  · have h : umOk zs rs n = true := by assumption
    simp only [umOk, Bool.and_eq_true, decide_eq_true_eq] at h; omega
  · simp

def mg (a b L : Int) : List Int → List Int
  | [] => []
  | [x] => [x]
  | x :: y :: zs => if x = a ∧ y = b then L :: mg a b L zs else x :: mg a b L (y :: zs)
def ct (a b : Int) : List Int → Nat
  | [] => 0
  | [_] => 0
  | x :: y :: zs => if x = a ∧ y = b then ct a b zs + 1 else ct a b (y :: zs)
theorem mg_len (a b L : Int) : ∀ zs : List Int, (mg a b L zs).length + ct a b zs = zs.length
  | [] => rfl
  | [x] => rfl
  | x :: y :: zs => by
    rw [mg, ct]; split
    · have := mg_len a b L zs; simp; omega
    · have := mg_len a b L (y :: zs); simp at this ⊢; omega
theorem ct_le (a b : Int) (zs : List Int) : ct a b zs ≤ zs.length := by have := mg_len a b 0 zs; omega
theorem mg_in {M : Int} (a b L : Int) (hL : 0 ≤ L ∧ L < M) : ∀ {zs : List Int}, In0 M zs → In0 M (mg a b L zs)
  | [], h => h
  | [x], h => h
  | x :: y :: zs, h => by
    rw [mg]; split
    · have := mg_in a b L hL (zs := zs) fun z hz => h z (by simp [hz])
      intro z hz; rcases List.mem_cons.1 hz with rfl | hz
      · exact hL
      · exact this z hz
    · have := mg_in a b L hL (zs := y :: zs) fun z hz => h z (by simp at hz ⊢; rcases hz with rfl | hz <;> simp [*])
      intro z hz; rcases List.mem_cons.1 hz with rfl | hz
      · exact h z (by simp)
      · exact this z hz
/-- The pair that is there most often. -/
structure Mx where
  most : Nat
  a : Nat
  b : Nat
def mxb (zs : List Int) (x : Nat) : Nat → Nat → Mx → Mx
  | 0, _, m => m
  | r + 1, y, m => mxb zs x r (y + 1) (if m.most < ct x y zs then ⟨ct x y zs, x, y⟩ else m)
def mxa (zs : List Int) (N : Nat) : Nat → Nat → Mx → Mx
  | 0, _, m => m
  | r + 1, x, m => mxa zs N r (x + 1) (mxb zs x N 0 m)
def mx (zs : List Int) (N : Nat) : Mx := mxa zs N N 0 ⟨1, 0, 0⟩
theorem mxb_bd (zs : List Int) (x N : Nat) (r y : Nat) (m : Mx) (hx : x < N) (hy : y + r ≤ N) (h : m.a < N ∧ m.b < N ∧ 1 ≤ m.most ∧ m.most ≤ zs.length + 1) : (mxb zs x r y m).a < N ∧ (mxb zs x r y m).b < N ∧ 1 ≤ (mxb zs x r y m).most ∧ (mxb zs x r y m).most ≤ zs.length + 1 := by
  induction r generalizing y m with
  | zero => exact h
  | succ r ih =>
    rw [mxb]; apply ih _ _ (by omega)
    split
    · have := ct_le x y zs; simp; omega
    · exact h
theorem mxa_bd (zs : List Int) (N : Nat) (r x : Nat) (m : Mx) (hx : x + r ≤ N) (h : m.a < N ∧ m.b < N ∧ 1 ≤ m.most ∧ m.most ≤ zs.length + 1) : (mxa zs N r x m).a < N ∧ (mxa zs N r x m).b < N ∧ 1 ≤ (mxa zs N r x m).most ∧ (mxa zs N r x m).most ≤ zs.length + 1 := by
  induction r generalizing x m with
  | zero => exact h
  | succ r ih => rw [mxa]; exact ih _ _ (by omega) (mxb_bd zs x N N 0 m (by omega) (by omega) h)
def mgF (n : Nat) : Nat → Nat → List Int → List Int → List Int × List Int
  | 0, _, zs, rs => (zs, rs)
  | r + 1, i, zs, rs => if (mx zs (n + i)).most = 1 then (zs, rs) else mgF n r (i + 1) (mg (mx zs (n + i)).a (mx zs (n + i)).b (n + i : Nat) zs) (rs ++ [((mx zs (n + i)).a : Int), ((mx zs (n + i)).b : Int)])
def meOk (zs : List Int) (n t : Int) : Bool := txt zs n && inB t 0 8
def meZ (zs : List Int) (n t : Int) : List Int := if meOk zs n t = true then (mgF n.toNat t.toNat 0 zs []).1 else []
def meR (zs : List Int) (n t : Int) : List Int := if meOk zs n t = true then (mgF n.toNat t.toNat 0 zs []).2 else []
theorem mgF_len (n r i : Nat) (zs rs : List Int) : (mgF n r i zs rs).1.length ≤ zs.length ∧ (mgF n r i zs rs).2.length ≤ rs.length + 2 * r := by
  induction r generalizing i zs rs with
  | zero => simp [mgF]
  | succ r ih =>
    rw [mgF]; split
    · simp
    · have := ih (i + 1) (mg (mx zs (n + i)).a (mx zs (n + i)).b (n + i : Nat) zs) (rs ++ [((mx zs (n + i)).a : Int), ((mx zs (n + i)).b : Int)])
      have h2 := mg_len (mx zs (n + i)).a (mx zs (n + i)).b (n + i : Nat) zs
      simp only [List.length_append, List.length_cons, List.length_nil] at this
      omega
theorem meZ_len (zs : List Int) (n t : Int) : (meZ zs n t).length ≤ 16777216 := by
  unfold meZ; split
  · have h : meOk zs n t = true := by assumption
    simp only [meOk, txt, Bool.and_eq_true, decide_eq_true_eq] at h
    have := (mgF_len n.toNat t.toNat 0 zs []).1; omega
  · simp
theorem meR_len (zs : List Int) (n t : Int) : (meR zs n t).length ≤ 16 := by
  unfold meR; split
  · have h : meOk zs n t = true := by assumption
    simp only [meOk, inB, Bool.and_eq_true, decide_eq_true_eq] at h
    have := (mgF_len n.toNat t.toNat 0 zs []).2; simp at this; omega
  · simp
end Go.Proofs.Ytjeakgakpioieaa
