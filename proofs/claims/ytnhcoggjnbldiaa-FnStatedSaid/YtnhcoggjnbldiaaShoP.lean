/- SharesOf: plain part: what both packages reckon, and that it is a whole of shares. -/
import Derived.Test.YtnhcoggjnbldiaaShares
import Derived.Test.YtnhcoggjnbldiaaCounts
namespace Go.Proofs.Ytnhcoggjnbldiaa
open Go.RowKit
set_option maxRecDepth 100000
set_option linter.unusedVariables false
set_option linter.unusedSimpArgs false

/-- The first shares. -/
def sf0 (N T : Int) (cs : List Int) : List Int := cs.map fun n => max 1 (n * N / T)
/-- Is letter i to be taken ahead of letter b? -/
def ahead (cs more : List Int) (i b : Nat) : Bool := decide (more.getD i 0 < more.getD b 0) || ((more.getD i 0 == more.getD b 0) && decide (cs.getD b 0 < cs.getD i 0))
def bstF (cs more : List Int) : Nat → Nat → Nat → Nat
  | 0, _, b => b
  | k + 1, i, b => bstF cs more k (i + 1) (if ahead cs more i b = true then i else b)
def bst (cs more : List Int) : Nat := bstF cs more cs.length 0 0
theorem bstF_lt (cs more : List Int) (k i b n : Nat) (hb : b < n) (hi : i + k ≤ n) : bstF cs more k i b < n := by
  induction k generalizing i b with
  | zero => exact hb
  | succ k ih => rw [bstF]; refine ih _ _ ?_ (by omega); split <;> omega
def add1 (zs : List Int) (b : Nat) (d : Int) : List Int := zs.set b (zs.getD b 0 + d)
theorem add1_len (zs : List Int) (b : Nat) (d : Int) : (add1 zs b d).length = zs.length := by simp [add1]
def upF (cs : List Int) : Nat → List Int → List Int → List Int
  | 0, _, ss => ss
  | d + 1, more, ss => upF cs d (add1 more (bst cs more) 1) (add1 ss (bst cs more) 1)
/-- The first of the greatest. -/
def mxF (ss : List Int) : Nat → Nat → Nat → Nat
  | 0, _, b => b
  | k + 1, i, b => mxF ss k (i + 1) (if ss.getD b 0 < ss.getD i 0 then i else b)
def mx (ss : List Int) : Nat := mxF ss ss.length 0 0
theorem mxF_lt (ss : List Int) (k i b n : Nat) (hb : b < n) (hi : i + k ≤ n) : mxF ss k i b < n := by
  induction k generalizing i b with
  | zero => exact hb
  | succ k ih => rw [mxF]; refine ih _ _ ?_ (by omega); split <;> omega
theorem mxF_max (ss : List Int) (k i b : Nat) : ss.getD b 0 ≤ ss.getD (mxF ss k i b) 0 ∧ ∀ j, i ≤ j → j < i + k → ss.getD j 0 ≤ ss.getD (mxF ss k i b) 0 := by
  induction k generalizing i b with
  | zero => exact ⟨Int.le_refl _, fun j h1 h2 => by omega⟩
  | succ k ih =>
    rw [mxF]
    have h := ih (i + 1) (if ss.getD b 0 < ss.getD i 0 then i else b)
    refine ⟨?_, fun j h1 h2 => ?_⟩
    · refine Int.le_trans ?_ h.1
      split <;> omega
    · by_cases hj : j = i
      · subst hj
        refine Int.le_trans ?_ h.1
        split <;> omega
      · exact h.2 j (by omega) (by omega)
def dnF : Nat → List Int → List Int
  | 0, ss => ss
  | d + 1, ss => dnF d (add1 ss (mx ss) (-1))
theorem sumL_set (zs : List Int) (b : Nat) (x : Int) (h : b < zs.length) : sumL (zs.set b x) = sumL zs - zs.getD b 0 + x := by
  induction zs generalizing b with
  | nil => simp at h
  | cons a t ih =>
    cases b with
    | zero => simp [sumL]; omega
    | succ b =>
      rw [List.set_cons_succ, sumL, sumL, ih b (by simpa using h), List.getD_cons_succ]; omega
theorem sumL_add1 (zs : List Int) (b : Nat) (d : Int) (h : b < zs.length) : sumL (add1 zs b d) = sumL zs + d := by
  rw [add1, sumL_set _ _ _ h]; omega
theorem getD_mem {zs : List Int} {b : Nat} (h : b < zs.length) : zs.getD b 0 ∈ zs := by
  rw [List.getD_eq_getElem?_getD, List.getElem?_eq_getElem h]; exact List.getElem_mem h
theorem add1_ge {zs : List Int} {b : Nat} {d lo : Int} (h : b < zs.length) (hz : ∀ z ∈ zs, lo ≤ z) (hb : lo ≤ zs.getD b 0 + d) : ∀ z ∈ add1 zs b d, lo ≤ z := fun z hz' => by
  rcases List.mem_or_eq_of_mem_set hz' with h' | rfl
  · exact hz z h'
  · exact hb
theorem sumL_ones (zs : List Int) (hz : ∀ z ∈ zs, z ≤ 1) : sumL zs ≤ zs.length := by
  induction zs with
  | nil => simp [sumL]
  | cons a t ih =>
    have := hz a (by simp)
    have := ih fun z h => hz z (List.mem_cons_of_mem _ h)
    rw [sumL, List.length_cons]; omega
theorem sumL_ge (zs : List Int) (hz : ∀ z ∈ zs, 1 ≤ z) : (zs.length : Int) ≤ sumL zs := by
  induction zs with
  | nil => simp [sumL]
  | cons a t ih =>
    have := hz a (by simp)
    have := ih fun z h => hz z (List.mem_cons_of_mem _ h)
    rw [sumL, List.length_cons]; omega
/-- Behind the growing: the sum has grown by d, all are at least 1 still. -/
theorem upF_ok (cs : List Int) (d : Nat) (more ss : List Int) (h0 : 0 < cs.length) (hl : ss.length = cs.length) (hz : ∀ z ∈ ss, 1 ≤ z) :
    sumL (upF cs d more ss) = sumL ss + d ∧ (∀ z ∈ upF cs d more ss, 1 ≤ z) ∧ (upF cs d more ss).length = cs.length := by
  induction d generalizing more ss with
  | zero => exact ⟨by simp [upF], hz, hl⟩
  | succ d ih =>
    have hb : bst cs more < ss.length := by rw [hl]; exact bstF_lt cs more _ 0 0 _ h0 (by omega)
    have h1 := ih (add1 more (bst cs more) 1) (add1 ss (bst cs more) 1) (by rw [add1_len]; exact hl) (add1_ge hb hz (by have := hz _ (getD_mem hb); omega))
    rw [upF]
    refine ⟨?_, h1.2⟩
    rw [h1.1, sumL_add1 _ _ _ hb]; omega
/-- Behind the shrinking: the sum has shrunk by d, all are at least 1 still: as long as the sum is above the number of letters. -/
theorem dnF_ok (d : Nat) (ss : List Int) (h0 : 0 < ss.length) (hz : ∀ z ∈ ss, 1 ≤ z) (hd : (ss.length : Int) ≤ sumL ss - d) :
    sumL (dnF d ss) = sumL ss - d ∧ (∀ z ∈ dnF d ss, 1 ≤ z) ∧ (dnF d ss).length = ss.length := by
  induction d generalizing ss with
  | zero => exact ⟨by simp [dnF], hz, rfl⟩
  | succ d ih =>
    have hb : mx ss < ss.length := mxF_lt ss _ 0 0 _ h0 (by omega)
    have h2 : 2 ≤ ss.getD (mx ss) 0 := by
      refine Classical.byContradiction fun hn => ?_
      have hle := sumL_ones ss (fun z hz' => by
        obtain ⟨j, hj, rfl⟩ := List.getElem_of_mem hz'
        have := (mxF_max ss ss.length 0 0).2 j (by omega) (by omega)
        rw [show ss.getD j 0 = ss[j] by rw [List.getD_eq_getElem?_getD, List.getElem?_eq_getElem hj]; rfl] at this
        have hx : ss.getD (mxF ss ss.length 0 0) 0 = ss.getD (mx ss) 0 := rfl
        omega)
      omega
    have h1 := ih (add1 ss (mx ss) (-1)) (by rw [add1_len]; exact h0) (add1_ge hb hz (by omega)) (by rw [add1_len, sumL_add1 _ _ _ hb]; omega)
    rw [add1_len, sumL_add1 _ _ _ hb] at h1
    rw [dnF]
    exact ⟨by rw [h1.1]; omega, h1.2⟩
theorem sf0_ge (N T : Int) (cs : List Int) : ∀ z ∈ sf0 N T cs, 1 ≤ z := fun z hz => by
  obtain ⟨n, _, rfl⟩ := List.mem_map.1 hz
  exact Int.le_max_left ..
def shfOk (n : Int) (cs : List Int) (p : Int) : Bool := cts n cs && (inB p 1 8 && decide (n ≤ 2 ^ p.toNat))
def shfF (N : Int) (cs : List Int) : List Int :=
  let s0 := sf0 N (sumL cs) cs
  if sumL s0 < N then upF cs (N - sumL s0).toNat (List.replicate cs.length 0) s0 else dnF (sumL s0 - N).toNat s0
def shfZ (n : Int) (cs : List Int) (p : Int) : List Int := if shfOk n cs p = true then shfF (2 ^ p.toNat) cs else []
def shfN (n : Int) (cs : List Int) (p : Int) : Int := if shfOk n cs p = true then p else 0
/-- What comes out is a whole of shares: the reference's last test holds. -/
theorem shf_shs (n : Int) (cs : List Int) (p : Int) (h : shfOk n cs p = true) : shs p (shfF (2 ^ p.toNat) cs) = true := by
  simp only [shfOk, Bool.and_eq_true, decide_eq_true_eq] at h
  obtain ⟨hc, hp, hn⟩ := h
  obtain ⟨h1, h2, h3, h4, h5⟩ := cts_parts hc
  have hp' := inB_eq hp
  simp only [if_true] at hp'
  obtain ⟨hq1, hq2⟩ := pow8 p.toNat (by omega)
  have hl : (sf0 (2 ^ p.toNat) (sumL cs) cs).length = cs.length := by simp [sf0]
  have hge := sf0_ge (2 ^ p.toNat) (sumL cs) cs
  have hsg := sumL_ge _ hge
  rw [hl] at hsg
  generalize hN : (2 : Int) ^ p.toNat = N at *
  have hfin : sumL (shfF N cs) = N ∧ (∀ z ∈ shfF N cs, 1 ≤ z) ∧ (shfF N cs).length = cs.length := by
    unfold shfF
    dsimp only
    split
    · have := upF_ok cs (N - sumL (sf0 N (sumL cs) cs)).toNat (List.replicate cs.length 0) (sf0 N (sumL cs) cs) (by omega) hl hge
      exact ⟨by rw [this.1]; omega, this.2⟩
    · have := dnF_ok (sumL (sf0 N (sumL cs) cs) - N).toNat (sf0 N (sumL cs) cs) (by omega) hge (by omega)
      exact ⟨by rw [this.1]; omega, this.2.1, by rw [this.2.2, hl]⟩
  have hle : ∀ (zs : List Int), (∀ z ∈ zs, 1 ≤ z) → ∀ z ∈ zs, z ≤ sumL zs := by
    intro zs
    induction zs with
    | nil => intro _ z hz; cases hz
    | cons a t ih =>
      intro hz z hz'
      have ha := hz a (by simp)
      have ht : ∀ z ∈ t, 1 ≤ z := fun z h => hz z (List.mem_cons_of_mem _ h)
      have := sumL_ge t ht
      rw [sumL]
      rcases List.mem_cons.1 hz' with rfl | hz'
      · omega
      · have := ih ht z hz'; omega
  rw [shs, hN]
  simp only [Bool.and_eq_true, beq_iff_eq, sgn]
  refine ⟨hp, ?_, ?_, hfin.1⟩
  · rw [hfin.2.2, h3]; simp [inB]; omega
  · exact (allIn_iff _ _ _).2 fun z hz => ⟨hfin.2.1 z hz, by have := hle _ hfin.2.1 z hz; rw [hfin.1] at this; omega⟩
theorem shfZ_len (n : Int) (cs : List Int) (p : Int) : (shfZ n cs p).length ≤ 16777216 := by
  unfold shfZ
  split
  · have h := shf_shs n cs p ‹_›
    simp only [shs, Bool.and_eq_true, sgn, inB, decide_eq_true_eq] at h
    have := h.2.1.2
    omega
  · simp
end Go.Proofs.Ytnhcoggjnbldiaa
