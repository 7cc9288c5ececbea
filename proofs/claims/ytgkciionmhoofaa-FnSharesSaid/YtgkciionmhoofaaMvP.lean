/- Terms of a polynomial through values at places, over a prime: what the loops compute, as plain functions; it has the values. No conditions. -/
import Derived.Test.YtgkciionmhoofaaLagP
namespace Go.Proofs.Ytgkciionmhoofaa
set_option maxRecDepth 100000
set_option linter.unusedVariables false
set_option linter.unusedSimpArgs false

theorem emod_of {p a b : Int} (k : Int) (h : a - b = p * k) : a % p = b % p := by
  rw [show a = b + p * k by omega, Int.add_mul_emod_self_left]
theorem emod_wit (a p : Int) : ∃ q, a % p = a - p * q := ⟨a / p, Int.emod_def a p⟩
theorem emod_lt (a : Int) {p : Int} (hp : 0 < p) : 0 ≤ a % p ∧ a % p < p := ⟨Int.emod_nonneg _ (by omega), Int.emod_lt_of_pos _ hp⟩
/-- Times (x - o), what has been carried first. -/
def mulC (p o : Int) : Int → List Int → List Int
  | c, [] => [c]
  | c, t :: ts => ((c + t * (p - o)) % p) :: mulC p o (t % p) ts
theorem mulC_len (p o c : Int) (ts : List Int) : (mulC p o c ts).length = ts.length + 1 := by
  induction ts generalizing c with
  | nil => rfl
  | cons t ts ih => rw [mulC, List.length_cons, ih]; rfl
theorem mulC_bd {p : Int} (hp : 0 < p) (o : Int) {c : Int} (hc : 0 ≤ c ∧ c < p) (ts : List Int) : ∀ z ∈ mulC p o c ts, 0 ≤ z ∧ z < p := by
  induction ts generalizing c with
  | nil => intro z hz; obtain rfl := List.mem_singleton.1 hz; exact hc
  | cons t ts ih =>
    intro z hz
    rw [mulC] at hz
    rcases List.mem_cons.1 hz with rfl | hz
    · exact emod_lt _ hp
    · exact ih (emod_lt _ hp) z hz
theorem valF_mulC {p : Int} (x o c : Int) (ts : List Int) : valF p x (mulC p o c ts) = (c + (x - o) * valF p x ts) % p := by
  induction ts generalizing c with
  | nil => simp [mulC, valF]
  | cons t ts ih =>
    rw [mulC, valF, ih, valF]
    generalize valF p x ts = V
    obtain ⟨q1, h1⟩ := emod_wit (t % p + (x - o) * V) p
    obtain ⟨q2, h2⟩ := emod_wit (c + t * (p - o)) p
    obtain ⟨q3, h3⟩ := emod_wit (V * x + t) p
    obtain ⟨q4, h4⟩ := emod_wit t p
    rw [h1, h2, h3, h4]
    refine emod_of (-q4 * x - q1 * x + t - q2 + (x - o) * q3) ?_
    grind
def tmF (p : Int) (i : Nat) : Nat → List Int → List Int → List Int
  | _, [], ts => ts
  | k, o :: os, ts => tmF p i (k + 1) os (if k = i then ts else mulC p o 0 ts)
theorem tmF_bd {p : Int} (hp : 0 < p) (i k : Nat) (os : List Int) {ts : List Int} (h : ∀ z ∈ ts, 0 ≤ z ∧ z < p) : ∀ z ∈ tmF p i k os ts, 0 ≤ z ∧ z < p := by
  induction os generalizing k ts with
  | nil => exact h
  | cons o os ih =>
    rw [tmF]; split
    · exact ih _ h
    · exact ih _ (mulC_bd hp o (by omega) ts)
theorem tmF_len (p : Int) (i k : Nat) (os ts : List Int) (h : i < k) : (tmF p i k os ts).length = ts.length + os.length := by
  induction os generalizing k ts with
  | nil => rfl
  | cons o os ih => rw [tmF, if_neg (by omega), ih _ _ (by omega), mulC_len, List.length_cons]; omega
theorem tmF_len2 (p : Int) (i k : Nat) (os ts : List Int) (h : k ≤ i) (h2 : i < k + os.length) : (tmF p i k os ts).length + 1 = ts.length + os.length := by
  induction os generalizing k ts with
  | nil => simp at h2; omega
  | cons o os ih =>
    rw [tmF, List.length_cons]
    rw [List.length_cons] at h2
    by_cases hk : k = i
    · rw [if_pos hk, tmF_len _ _ _ _ _ (by omega)]; omega
    · rw [if_neg hk]
      have := ih (k + 1) (mulC p o 0 ts) (by omega) (by omega)
      rw [mulC_len] at this; omega
theorem valF_tmF {p : Int} (hp : 0 < p) (x : Int) (i k : Nat) (os ts : List Int) : valF p x (tmF p i k os ts) = prodF p x i k os (valF p x ts) := by
  induction os generalizing k ts with
  | nil => rfl
  | cons o os ih =>
    rw [tmF, prodF, ih]
    by_cases hk : k = i
    · rw [if_pos hk, if_pos hk]
    · rw [if_neg hk, if_neg hk, valF_mulC]
      congr 1
      generalize valF p x ts = V
      exact emod_of (-V) (by grind)
theorem prodF_mul {p : Int} (x : Int) (i k : Nat) (os : List Int) (a b : Int) : prodF p x i k os (a * b % p) = (a * prodF p x i k os b) % p := by
  induction os generalizing k b with
  | nil => rfl
  | cons o os ih =>
    rw [prodF, prodF]
    by_cases hk : k = i
    · rw [if_pos hk, if_pos hk, ih]
    · rw [if_neg hk, if_neg hk, ← ih]
      congr 1
      obtain ⟨q1, h1⟩ := emod_wit (a * b) p
      obtain ⟨q2, h2⟩ := emod_wit (b * (x - o + p)) p
      rw [h1, h2]
      exact emod_of (-q1 * (x - o + p) + a * q2) (by grind)
theorem prodF_of {p : Int} (x : Int) (i k : Nat) (os : List Int) {a : Int} (h0 : 0 ≤ a) (h1 : a < p) : prodF p x i k os a = (a * prodF p x i k os 1) % p := by
  rw [← prodF_mul, Int.mul_one, Int.emod_eq_of_lt h0 h1]
theorem prodF_0 {p : Int} (x : Int) (i k : Nat) (os : List Int) : prodF p x i k os 0 = 0 := by
  induction os generalizing k with
  | nil => rfl
  | cons o os ih => rw [prodF]; split <;> simp [ih]
theorem prodF_zero {p : Int} (x : Int) (i k : Nat) (os : List Int) (a : Int) (j : Nat) (hj : j < os.length) (hx : os[j] = x) (hk : k + j ≠ i) : prodF p x i k os a = 0 := by
  induction os generalizing k a j with
  | nil => simp at hj
  | cons o os ih =>
    rw [prodF]
    cases j with
    | zero =>
      rw [if_neg (by omega)]
      simp at hx
      rw [hx, Int.sub_self, Int.zero_add, Int.mul_emod_left, prodF_0]
    | succ j => exact ih _ _ j (by simpa using hj) (by simpa using hx) (by omega)
def addF (p b : Int) (out ts : List Int) : List Int := List.zipWith (fun o t => (o + t * b) % p) out ts
theorem addF_len {p b : Int} {out ts : List Int} (h : out.length = ts.length) : (addF p b out ts).length = out.length := by unfold addF; rw [List.length_zipWith]; omega
theorem addF_bd {p : Int} (hp : 0 < p) (b : Int) (out ts : List Int) : ∀ z ∈ addF p b out ts, 0 ≤ z ∧ z < p := by
  intro z hz
  unfold addF at hz
  obtain ⟨i, hi, rfl⟩ := List.getElem_of_mem hz
  rw [List.getElem_zipWith]
  exact emod_lt _ hp
theorem valF_addF {p : Int} (x b : Int) (out ts : List Int) (h : out.length = ts.length) : valF p x (addF p b out ts) = (valF p x out + b * valF p x ts) % p := by
  induction out generalizing ts with
  | nil => cases ts with
    | nil => simp [addF, valF]
    | cons t ts => simp at h
  | cons o out ih => cases ts with
    | nil => simp at h
    | cons t ts =>
      have hi := ih ts (by simpa using h)
      unfold addF at hi ⊢
      rw [List.zipWith_cons_cons, valF, hi, valF, valF]
      generalize valF p x out = U
      generalize valF p x ts = V
      obtain ⟨q1, h1⟩ := emod_wit (U + b * V) p
      obtain ⟨q2, h2⟩ := emod_wit (o + t * b) p
      obtain ⟨q3, h3⟩ := emod_wit (U * x + o) p
      obtain ⟨q4, h4⟩ := emod_wit (V * x + t) p
      rw [h1, h2, h3, h4]
      exact emod_of (-q1 * x - q2 + q3 + b * q4) (by grind)
theorem valF_rep0 (p x : Int) (n : Nat) : valF p x (List.replicate n 0) = 0 := by
  induction n with
  | zero => rfl
  | succ n ih => rw [List.replicate_succ, valF, ih]; simp
def byI (p : Int) (ps vs : List Int) (i : Nat) : Int := gI vs i * invI p (prodF p (gI ps i) i 0 ps 1) % p
def tsF (p : Int) (ps vs : List Int) : Nat → Nat → List Int → List Int
  | 0, _, out => out
  | r + 1, i, out => tsF p ps vs r (i + 1) (addF p (byI p ps vs i) out (tmF p i 0 ps [1]))
def trm (p : Int) (ps vs : List Int) : List Int := tsF p ps vs ps.length 0 (List.replicate ps.length 0)
theorem tm_len (p : Int) (ps : List Int) (i : Nat) (h : i < ps.length) : (tmF p i 0 ps [1]).length = ps.length := by
  have := tmF_len2 p i 0 ps [1] (by omega) (by omega)
  simp at this; omega
theorem tsF_len (p : Int) (ps vs : List Int) (r i : Nat) (out : List Int) (h : i + r = ps.length) (ho : out.length = ps.length) : (tsF p ps vs r i out).length = ps.length := by
  induction r generalizing i out with
  | zero => exact ho
  | succ r ih => rw [tsF]; exact ih _ _ (by omega) (by rw [addF_len (by rw [ho, tm_len _ _ _ (by omega)]), ho])
theorem trm_len (p : Int) (ps vs : List Int) : (trm p ps vs).length = ps.length := tsF_len _ _ _ _ _ _ (by omega) (by simp)
theorem tsF_bd {p : Int} (hp : 0 < p) (ps vs : List Int) (r i : Nat) (out : List Int) (h : ∀ z ∈ out, 0 ≤ z ∧ z < p) : ∀ z ∈ tsF p ps vs r i out, 0 ≤ z ∧ z < p := by
  induction r generalizing i out with
  | zero => exact h
  | succ r ih => rw [tsF]; exact ih _ _ (addF_bd hp _ _ _)
theorem trm_bd {p : Int} (hp : 0 < p) (ps vs : List Int) : ∀ z ∈ trm p ps vs, 0 ≤ z ∧ z < p := tsF_bd hp _ _ _ _ _ (fun z hz => by have := List.eq_of_mem_replicate hz; omega)
theorem valF_tsF {p : Int} (hp : 1 < p) (x : Int) (ps vs : List Int) (hv : ∀ z ∈ vs, 0 ≤ z ∧ z < p) (hl : ps.length = vs.length) (r i : Nat) (out : List Int) (h : i + r = ps.length) (ho : out.length = ps.length) :
    valF p x (tsF p ps vs r i out) = thF p ps vs x r i (valF p x out) := by
  induction r generalizing i out with
  | zero => rfl
  | succ r ih =>
    have hl1 : out.length = (tmF p i 0 ps [1]).length := by rw [ho, tm_len _ _ _ (by omega)]
    rw [tsF, thF, ih _ _ (by omega) (by rw [addF_len hl1, ho]), valF_addF _ _ _ _ hl1, valF_tmF (by omega)]
    congr 1
    rw [show valF p x [1] = 1 by simp [valF]; exact Int.emod_eq_of_lt (by omega) hp]
    have hvi : 0 ≤ gI vs i ∧ gI vs i < p := by rw [gI_eq (by omega)]; exact hv _ (List.getElem_mem _)
    rw [prodF_of x i 0 ps hvi.1 hvi.2]
    unfold byI
    generalize prodF p x i 0 ps 1 = A
    generalize invI p _ = I
    obtain ⟨q1, h1⟩ := emod_wit (gI vs i * I) p
    obtain ⟨q2, h2⟩ := emod_wit (gI vs i * A) p
    rw [h1, h2]
    exact emod_of (-q1 * A + q2 * I) (by grind)
theorem valF_trm {p : Int} (hp : 1 < p) (x : Int) (ps vs : List Int) (hv : ∀ z ∈ vs, 0 ≤ z ∧ z < p) (hl : ps.length = vs.length) : valF p x (trm p ps vs) = thr p ps vs x := by
  unfold trm thr
  rw [valF_tsF hp x ps vs hv hl _ _ _ (by omega) (by simp), valF_rep0]
def Dst (ps : List Int) : Prop := ∀ j k (_ : j < ps.length) (_ : k < ps.length), j ≠ k → ps[j] ≠ ps[k]
theorem thF_at {p : Int} (hp : prm p = true) (ps vs : List Int) (hps : ∀ z ∈ ps, 0 ≤ z ∧ z < p) (hv : ∀ z ∈ vs, 0 ≤ z ∧ z < p) (hl : ps.length = vs.length) (hd : Dst ps) (m : Nat) (hm : m < ps.length) (r i : Nat) (out : Int) (h0 : 0 ≤ out) (h1 : out < p) (h : i + r = ps.length) :
    thF p ps vs ps[m] r i out = if i ≤ m then (out + gI vs m) % p else out := by
  have hb := prm_bd hp
  induction r generalizing i out with
  | zero => rw [thF, if_neg (by omega)]
  | succ r ih =>
    rw [thF]
    by_cases him : i = m
    · subst him
      have hvi : 0 ≤ gI vs i ∧ gI vs i < p := by rw [gI_eq (by omega)]; exact hv _ (List.getElem_mem _)
      have hpi : gI ps i = ps[i] := gI_eq hm
      have hP := prodF_pos hp (hps _ (List.getElem_mem hm)) i 0 ps hps (fun j hj hne => hd _ _ hm hj (by omega)) (show (0 : Int) < 1 by omega) (by omega)
      have hP2 := prodF_bd (show 0 < p by omega) ps[i] i 0 ps (show (0 : Int) ≤ 1 by omega) (by omega)
      rw [prodF_of _ i 0 ps hvi.1 hvi.2, hpi]
      have hI := invI_mul hp (show 1 ≤ prodF p ps[i] i 0 ps 1 by omega) hP2.2
      rw [ih _ _ (emod_lt _ (by omega)).1 (emod_lt _ (by omega)).2 (by omega), if_neg (by omega), if_pos (Nat.le_refl _)]
      generalize prodF p ps[i] i 0 ps 1 = P at *
      generalize invI p P = I at *
      generalize gI vs i = v at *
      obtain ⟨q1, e1⟩ := emod_wit (v * P) p
      obtain ⟨q2, e2⟩ := emod_wit (P * I) p
      rw [hI] at e2
      rw [e1]
      exact emod_of (v * q2 - q1 * I) (by grind)
    · have hz := prodF_zero (p := p) ps[m] i 0 ps (gI vs i) m hm rfl (by omega)
      rw [hz, Int.zero_mul, Int.add_zero, Int.emod_eq_of_lt h0 h1, ih _ _ h0 h1 (by omega)]
      by_cases hlt : i + 1 ≤ m
      · rw [if_pos hlt, if_pos (by omega)]
      · rw [if_neg hlt, if_neg (by omega)]
theorem thr_at {p : Int} (hp : prm p = true) (ps vs : List Int) (hps : ∀ z ∈ ps, 0 ≤ z ∧ z < p) (hv : ∀ z ∈ vs, 0 ≤ z ∧ z < p) (hl : ps.length = vs.length) (hd : Dst ps) (m : Nat) (hm : m < ps.length) : thr p ps vs ps[m] = gI vs m := by
  have hb := prm_bd hp
  have hvi : 0 ≤ gI vs m ∧ gI vs m < p := by rw [gI_eq (by omega)]; exact hv _ (List.getElem_mem _)
  unfold thr
  rw [thF_at hp ps vs hps hv hl hd m hm _ _ _ (by omega) (by omega) (by omega), if_pos (Nat.zero_le _), Int.zero_add, Int.emod_eq_of_lt hvi.1 hvi.2]
end Go.Proofs.Ytgkciionmhoofaa
